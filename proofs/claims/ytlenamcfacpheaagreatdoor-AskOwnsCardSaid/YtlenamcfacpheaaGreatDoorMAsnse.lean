/-
  Dz is proved here: parts of wz proof, one behind wz other (texts of this work, merged by a program; FI wz theorem FJ not use is left out). No condition.
-/
import Derived.Test.YtlenamcfacpheaaGreatDoorMAsnsd
set_option maxRecDepth 100000
set_option maxHeartbeats 4000000
namespace Go.Proofs.YtlenamcfacpheaaGreatDoor
open Go.Den
open IntKind (wrap)
open Int (toNat)
section
open Go.fM Go.kk
namespace gD
open iD
variable {h h' f:aj} {b:Nat} {X:Ft} {R:fj} {p:cg} {c d:Nat} {L:List E} {s:BS}
def IL(f h:aj)(p:cg)(l c:Nat)(items:List It):Prop:=
 ∃(ys:List IV)(D:Nat->Prop),l=ys.length/\fi h p l c 4 (ys.flatMap fZ)/\ys.map IV.abs=items/\(∀y∈ys,y.v.ok h D)/\(∀y,D y->f.size<=y/\y<h.size/\¬aL p y)/\∀y,aL p y->f.size<=y
theorem IL.len{l:Nat}{items:List It}(H:IL f h p l c items):l=items.length:=by
 obtain⟨ys,D,a,_,e,_⟩:=H;rw[a,<-e,aF]
theorem vY(H:As h b X s)(hk: ∀h' r n C,IL h h' r n C s.items->Fr No h h'->R (.slice r n C) h'):Cl 39 #[.P b 0] h R:=by
 obtain⟨L,⟨lp,lc,xs,a,S,H⟩,ok⟩:=H;obtain⟨hL,i'⟩:=H.Eo ok;refine yV.walk (fw H ⟨_,rfl,aG.of λa' K=> ?_⟩);simp only[bf];refine⟨_,_,_,ak H.cQ,?_⟩;refine⟨λop O o t g=> ∃k:Nat,t=(k:Int)/\k<=xs.length/\IL h g op O o (s.items.take k)/\Fr No h g,λ_ _ _ t _=>xs.length - t.toNat,⟨0,rfl,af,⟨[],λ_=>False,rfl,.nil rfl rfl rfl rfl,bO,(λy hy=>by cases hy),(λy hy=>hy.elim),λy ⟨a,e,_⟩=>by cases e⟩,Fr.refl _ _⟩,?_⟩;rintro op O o _ g ⟨k,rfl,f',I,j⟩;have M:=H.on j;by_cases Q:k<xs.length
 .have q1:(k:Int)<(xs.length:Int):=af
  simp only[q1,bu,bf,aD];have l:xs[k]? =some xs[k]:=ai Q;generalize xs[k]=x at l;obtain⟨ab,b',rfl⟩:=M.own.addr af;refine⟨⟨by first|trivial|omega,by first|trivial|omega⟩,ay.2 (aS.yH (M.own.fL gI l) (aS.new λb1 h8 d' N f8=>aS.ld N ?_))⟩;have v:s.items[k]? =some x.abs:=by rw[<-H.abs,aI,l];rfl
  have T:=ok.it x.abs (aT v);have dl:x.v.b.length<=600:=T.2.2.2.1;have V:=((M.Ar x (aT l)).row).frame f8 cu;refine qX V rfl af λm P E q f9 J=>⟨_,_,_,_,_,_,rfl,?_⟩
  have F:Fr No g m:=f8.tt f9;obtain⟨ys,D,W,Y,z,Z,A,B⟩:=I;have yl:ys.length<=16:=by
   have:=bT List.length z;rw[aF,bE]at this;omega
  have z9:=F.1;have zg:=j.1;have z8:=f8.1;refine iC tI uI (Y.frame F cu) rfl (λw hw=>by simp at hw;rcases hw with rfl|rfl|rfl|rfl<;>rfl) af af λj' c' e' U f11 G=>⟨_,_,_,rfl,?_⟩
  rw[bA af af];have u: ∀y,aL P y->g.size<=y/\y<m.size:=λy hy=>⟨bX (J y hy),q.dV hy⟩
  have k':=f11.1;refine⟨⟨k+1,af,af,⟨ys++ [⟨x.num,x.owner,⟨P,E,x.v.b⟩,x.bV⟩],λy=>D y\/aL P y,by rw[av,W];rfl,?_,?_,?_,?_,?_⟩,?_⟩,by show xs.length - Int.toNat ((k:Int)+1)<xs.length - k;omega⟩
  .rw[cW];simpa using U
  .rw[aW,z,bD,v];rfl
  .intro w hw;rcases bN.1 hw with hw|hw
   .exact(((Z w hw).frame F cu).frame f11 (λy hy=>(A y hy).2.2)).mono (λy=> .inl)
   .obtain rfl:=bK.1 hw;exact BV.j9 (q.frame f11 (λy hy i=>gF (u y hy) (Y.dV i))) (λy=> .inr)
  .rintro y (hy|hy)
   .have a:=A y hy;exact⟨a.1,af,λi=>(G y i).elim a.2.2 (λh2=>af)⟩
   .have a:=u y hy;exact⟨af,af,λi=>(G y i).elim (λh2=>bX (Y.dV h2)) (λh2=>af)⟩
  .intro y hy;rcases G y hy with h2|h2
   .exact B y h2
   .omega
  .exact(j.tt F).fresh f11 B
 .have q1: ¬(k:Int)<(xs.length:Int):=af
  simp only[q1,bh,aq,aJ];subst K;have g':=H.len;rw[bB af]at I;exact hk g op O o I j
def ob(s:BS):cH:=dt s.next++dt s.taken++dt s.ps++dt s.over++dt s.items.length
def MK(x:It):cH:=dt x.num++dt x.owner.toNat++ga x.d++dt x.bV
def Iv(s:BS):List (cH):=ob s::s.items.map MK
theorem Kd(s:BS):(ob s).length<=60:=by
 unfold ob;simp only[av];have a:=(cj s.next).2;have A:=(cj s.taken).2;have e:=(cj s.ps).2;have g:=(cj s.over).2;have i:=(cj s.items.length).2;omega
theorem ML{x:It}(h:x.d.length<=600):(MK x).length<=700:=by
 unfold MK ga;simp only[av];have a:=(cj x.num).2;have A:=(cj x.owner.toNat).2;have e:=(cj x.d.length).2;have g:=(cj x.bV).2;omega
theorem uR(H:As h b X s)(U':s.next<=1000000000)(hk: ∀h' p' l' c',BL h h' p' l' c' (Iv s)->Fr No h h'->R (.slice p' l' c') h'):Cl 24 #[.P b 0] h R:=by
 obtain⟨L,⟨lp,lc,xs,a,S,H⟩,ok⟩:=H;obtain⟨hL,V'⟩:=H.Eo ok;have S':=ok.vE;have x':=H.len;have N: ∀(n:Nat),fO (n:Int)=n:=λn=>by unfold fO;omega
 refine xI.walk (fw H ⟨_,rfl,?_⟩);simp only[cV,aq,aJ];refine⟨_,ak H.cQ,_,ak H.cQ,_,ak H.cQ,_,ak H.cQ,_,_,_,ak H.cQ,?_⟩;refine iD.gC λh2 E' S2 W2 f2 g2=>⟨_,rfl,?_⟩
 have u2:Up h S2 h2:=⟨f2,g2⟩;have lb:=aC H.cQ;have A: ∀{S:Nat->Prop}{h':aj},Up h S h'->¬S b:=λu l=>by have:=u.ge b l;omega
 have o:=f2.get H.cQ id;refine⟨ak o,ak o,ak o,ak o,ak o,?_⟩;refine ie W2 bO af λh3 S3 W3 s3=>⟨_,rfl,?_⟩
 have w:=s3.fr.get o (A u2);have u3:=u2.step s3;rw[N,cD]at W3;have l1:=(cj s.next).2;refine⟨ak w,ak w,ak w,ak w,?_⟩;refine ie W3 af af λh4 S4 W4 s4=>⟨_,rfl,?_⟩
 have D:=s4.fr.get w (A u3);have u4:=u3.step s4;rw[N]at W4;have l2:=(cj s.taken).2;refine⟨ak D,ak D,ak D,?_⟩;refine ie W4 (by simp only[av];omega) af λh5 S5 W5 s5=>⟨_,rfl,?_⟩
 have K:=s5.fr.get D (A u4);have u5:=u4.step s5;rw[N]at W5;have l3:=(cj s.ps).2;refine⟨ak K,ak K,?_⟩;refine ie W5 (by simp only[av];omega) af λh6 S6 W6 s6=>⟨_,rfl,?_⟩
 have b6:=s6.fr.get K (A u5);have u6:=u5.step s6;rw[N]at W6;have l4:=(cj s.over).2;refine⟨ak b6,?_⟩;refine ie W6 (by simp only[av];omega) af λh7 S7 W7 s7=>⟨_,rfl,?_⟩
 have b7:=s7.fr.get b6 (A u6);have u7:=u6.step s7;rw[N,x']at W7;refine⟨ak b7,?_⟩;have hh:=Kd s;refine jh (bs:=ob s) W7 af λq d8 i o8 f8 g8=>⟨_,_,_,rfl,?_⟩
 have b8:=f8.get b7 id;refine⟨ak b8,cG ?_⟩;have f9:Fr No i (i.push (.cells #[.slice q (ob s).length d8] 22)):=Fr.push _ _;have o9:fi (i.push (.cells #[.slice q (ob s).length d8] 22)) (Sa i.size 0) 1 1 1 (qj ⟨q,d8,ob s⟩):=.row i.size 0 _ _ rfl bR (bk _) bO rfl (λj v hj=>by rw[bC];simpa using hj);have W:Fr No h i:=u7.fr.tt f8;have z8:=W.1;have z7:=u7.fr.1;have G:BL h (i.push (.cells #[.slice q (ob s).length d8] 22)) (Sa i.size 0) 1 1 [ob s]:=by
  refine⟨[⟨q,d8,ob s⟩],aL q,rfl,cy o9,rfl,?_,?_,λy ⟨a,e,e2⟩=>by cases e;rw[<-e2];exact z8⟩
  .intro x l;obtain rfl:=bK.1 l;exact BV.j9 (o8.frame f9 cu) (λ_=>id)
  .intro y m;have h1:=g8 y m;have h2:=o8.dV m;exact⟨af,by rw[dD];omega,λ⟨a,e,e2⟩=>by cases e;have e2:i.size=y:=e2;omega⟩
 have J:Fr No h (i.push (.cells #[.slice q (ob s).length d8] 22)):=W.tt f9;generalize i.push (.cells #[.slice q (ob s).length d8] 22)=h9 at G J⊢;generalize (some (AA i.size 0):cg)=p9 at G⊢;have Y:=H.on J;refine⟨ak Y.cQ,_,_,_,ak Y.cQ,?_⟩;refine⟨λop T Q t g=> ∃k:Nat,t=(k:Int)/\k<=xs.length/\BL h g op T Q (ob s::(s.items.take k).map MK)/\Fr No h g,λ_ _ _ t _=>xs.length - t.toNat,⟨0,rfl,af,cy G,J⟩,?_⟩;rintro op T Q _ g ⟨k,rfl,T',B,F⟩;have M:=H.on F;by_cases y':k<xs.length
 .have q1:(k:Int)<(xs.length:Int):=af
  simp only[q1,bu,bf,aD];have l:xs[k]? =some xs[k]:=ai y';generalize xs[k]=x at l;obtain⟨ab,J',rfl⟩:=M.own.addr af;refine⟨⟨by first|trivial|omega,by first|trivial|omega⟩,ay.2 (aS.yH (M.own.fL gI l) (aS.new λb1 d' L' r f15=> ?_))⟩;have m':s.items[k]? =some x.abs:=by rw[<-H.abs,aI,l];rfl
  have z:=ok.it x.abs (aT m');have dl:x.v.b.length<=600:=z.2.2.2.1;have xo:1<=x.owner/\x.owner<=1099511627776:=⟨z.2.2.2.2.1,z.2.2.2.2.2.1⟩;have xt:x.bV<=1099511627776:=z.2.2.2.2.2.2;have xn:x.num<s.next:=z.2.1;refine⟨_,ak r,_,ak r,_,_,_,ak r,_,ak r,?_⟩;refine iD.gC λu' E' n' o' f16 t'=>⟨_,rfl,?_⟩
  have i':Up d' n' u':=⟨f16,t'⟩;have W':=aC r;have P: ∀{S:Nat->Prop}{h':aj},Up d' S h'->¬S b1:=λu l=>by have:=u.ge b1 l;omega
  have C:=f16.get r id;refine⟨ak C,ak C,ak C,ak C,?_⟩;refine ie o' bO af λN' F' Z e'=>⟨_,rfl,?_⟩
  have E:=e'.fr.get C (P i');have j':=i'.step e';rw[N,cD]at Z;have l5:=(cj x.num).2;refine⟨ak E,ak E,ak E,?_⟩;refine ie Z af af λO' G' a' f'=>⟨_,rfl,?_⟩
  have O:=f'.fr.get E (P j');have U:=j'.step f';have eo:fO x.owner=x.owner.toNat:=by unfold fO;omega
  rw[eo]at a';have l6:=(cj x.owner.toNat).2;refine⟨ak O,ak O,?_⟩;have B':=((M.Ar x (aT l)).row).frame (f15.tt U.fr) cu;refine uh a' (by simp only[av];omega) B' rfl af (λy m z' hS=> ?_) λP' H' q' g'=>⟨_,rfl,?_⟩
  .have a1:=(M.Ar x (aT l)).own z' y m;have a2:=M.Dw y a1;have a3:=U.ge y hS;have a4:=f15.1;omega
  have s':=g'.fr.get O (P U);have D':=U.step g';have el:(ga x.v.b).length=(dt x.v.b.length).length+x.v.b.length:=by unfold ga;rw[av]
  have l7:=(cj x.v.b.length).2;refine⟨ak s',?_⟩;refine fN x.bV q' (by simp only[av];omega) rfl af λQ' I' r' C'=>⟨_,rfl,?_⟩
  have k':=D'.step C';have rl:=ML (x:=x.abs) dl;refine jh (bs:=MK x.abs) r' af λY' d21 v' A' f21 b'=>⟨_,_,_,rfl,?_⟩
  have I:Fr No g v':=f15.tt (k'.fr.tt f21);have z21:=I.1;have zg:=F.1;have Z':=(f15.tt k'.fr).1;have bl:=B.len;rw[aV,aF,bE]at bl;refine(B.on I).push af A' (λy m=>⟨bX (b' y m),λho=>gF (B.lt ho) (b' y m)⟩) af ?_;intro X' K' R' V f23 M';refine⟨_,_,_,rfl,?_⟩;rw[bA af af];refine⟨⟨k+1,af,af,?_,?_⟩,by show xs.length - Int.toNat ((k:Int)+1)<xs.length - k;omega⟩
  .rw[bD,m',aW];rw[dp]at V;exact V
  .obtain⟨_,_,_,_,_,_,_,w'⟩:=B;exact(F.tt I).fresh f23 w'
 .have q1: ¬(k:Int)<(xs.length:Int):=af
  simp only[q1,bh,aq,aJ];rw[bB af]at B;exact hk g op T Q B F

end gD
end
section
variable {h:aj} {R:fj}
variable {s:Nat} {owner:Int}
theorem Ke.walk{S:Bool}{d:Int}{e:Int}{f:ByteArray}{g:ByteArray}(p:aQ h (.cells #[.bool S,.U d,.U e,.string f,.string g] 29) λb H=>aw.LD H (AA b 0) λq r u w x=>Cl 33 #[.agg #[.bool q,.U r,.U u,.string w,.string x]] H λv a=> ∃j T,v=.tuple #[.pointer j,.I T]/\if(T !=0)then R (.tuple #[.pointer none,.I T]) a else Cl 34 #[.I 4800,.I 1600] a λV c=> ∃i t,V=.tuple #[.pointer i,.I t]/\if(t !=0)then R (.tuple #[.pointer none,.I t]) c else Cl 35 #[] c λy k=>Vp y λt22=>Cl 36 #[] k λz l=>Vp z λt23=>Cl 37 #[] l λA m=>Vp A λt24=>Cl 38 #[] m λC n=>Vp C λt25=>aQ n (.cells #[.pointer t22,.pointer t23,.pointer t24,.pointer t25,.pointer i,.pointer j,.U 0,.I 0] 41) λB o=>R (.tuple #[.P B 0,.I 0]) o):Cl 8 #[.agg #[.bool S,.U d,.U e,.string f,.string g]] h R:=aN (lq (lq (sq (lq (cq ll lf)) (lq (sq (lq (cq ll lf)) ll))))) Tryz.func8 p
theorem wa.walk(H: ∃t9,Cc h s 0 (.pointer t9)/\if(!t9.isNone)then∃t16,Cc h s 1 (.pointer t16)/\if(!t16.isNone)then∃t23,Cc h s 2 (.pointer t23)/\if(!t23.isNone)then∃t30,Cc h s 3 (.pointer t30)/\if(!t30.isNone)then∃t37,Cc h s 4 (.pointer t37)/\if(!t37.isNone)then∃t44,Cc h s 5 (.pointer t44)/\R (.bool (!t44.isNone)) h else R (.bool false) h else R (.bool false) h else R (.bool false) h else R (.bool false) h else R (.bool false) h):Cl 52 #[.P s 0] h R:=aN (lq ll) Tryz.func52 H
theorem wc.walk{now:Int}(k:Cl 52 #[.P s 0] h λv H=> ∃t9,v=.bool t9/\if(!t9)then R (.I 6) H else if(decide (now>1099511627776))then R (.I 1) H else∃t19,Cc H s 6 (.U t19)/\if(decide (now<t19))then R (.I 18) H else aO H (AA s 6) (.U now) λf=>Hp f s 2 λt28=>Cl 53 #[.pointer t28,.U now] f λV g=>Vl V λC B A=>Hp g s 3 λt34=>Cl 54 #[.pointer t34,.U now] g λy i=>Vl y λl t D=> ∃(I:Int->aj->Prop)(m:Int->aj->Nat),I 0 i/\∀(t38:Int)(c:aj),I t38 c->if(decide (t38<(t:Int)))then Bd t38 t/\aM l λa=>aS.LD c (a.add (toNat t38*4)) λn o r q p u=>aQ c (.cells #[.I 0,.I 0,.Z,.U 0] 119) λb j=>aS.ST j (AA b 0) n o r q p u λd=>Hp d s 4 λt45=>Hi d b 1 λt47=>Hl d b 2 λx T w=>Cl 55 #[.pointer t45,.I t47,.I (T:Int)] d λz e=>Vi z λt51=>Cc e b 2 (.slice x T w)/\(I (wrap .i64 (t38+1)) e/\m (wrap .i64 (t38+1)) e<m t38 c)else R (.I 0) c):Cl 16 #[.P s 0,.U now] h R:=aN (lq (sq (bq (lq (cq ll (lq (cq ll (lq (cq ll lf))))))) (lq (lq (sq (lq (bq (.loop [(38,.one (.int .i64))] (lq (sq (cq lf lf) (sq (bq (lq (pN 10))) lf)))))) ll))))) Tryz.func16 k
theorem xJ.walk{e:cg}{d D:Nat}{V:Int} (l:Cl 52 #[.P s 0] h λv H=> ∃t14,v=.bool t14/\if(!t14)then R (.tuple #[.I 0,.I 6]) H else aG (λ(t16:Bool) (a:aj)=>if t16 then R (.tuple #[.I 0,.I 15]) a else Hp a s 3 λt39=>Cl 240 #[.pointer t39,.I owner,.slice e d D,.U V] a λo b=> ∃f t,o=.tuple #[.I f,.I t]/\aG (λ(g:aj)=>R (.tuple #[.I f,.I t]) g) (λj=>if(t==0)then Hp b s 4 λt51=>Cl 241 #[.pointer t51,.I owner,.I (d:Int)] b λp i=> ∃t55,p=.I t55/\j i else j b)) (λJ=>Hp H s 3 λt20=>Cl 39 #[.pointer t20] H λq c=> ∃n T m,q=.slice n T m/\if(decide (((T:Nat):Int)≥16))then J true c else Hp c s 4 λt28=>Cl 239 #[.pointer t28,.I owner,.I (d:Int)] c λr k=> ∃t32,r=.bool t32/\J (!t32) k)):Cl 191 #[.P s 0,.I owner,.slice e d D,.U V] h R:=aN (lq (sq (bq (lq (cq ll (sq (.join [(16,.one (.bool))] lf) (cq ll lf))))) (lq (sq (lq (.join [] (cq lf lf))) ll)))) Tryz.func191 l
theorem sV.walk{num:Int} (m:aQ h (.cells #[.I num] 3) λb i=>Cl 52 #[.P s 0] i λv c=> ∃t11,v=.bool t11/\if(!t11)then R (.I 6) c else Hp c s 3 λt16=>Cl 39 #[.pointer t16] c λV d=>Vl V λT t n=>Hp d s 3 λt21=>Hi d b 0 λt22=>Cl 152 #[.pointer t21,.I t22,.I owner] d λq k=>Vi q λt24=>Cl 153 #[.slice T t n,.func (.func 154) #[] #[.P b 0]] k λr e=>Vi r λt27=>aG (λ(t33:Bool) (H:aj)=>aG (λ(l:aj)=>R (.I t24) l) (λj=>if t33 then Hp H s 4 λt37=>Bd t27 t/\aM T λa=>te H ((a.add (toNat t27*4)).add 2) λp g o=>Cl 55 #[.pointer t37,.I owner,.I (g:Int)] H λu f=>Vi u λt45=>aX f ((a.add (toNat t27*4)).add 2)=some (.slice p g o)/\j f else j H)) (λJ=>if(t24==0)then J (decide (t27≥0)) e else J false e)):Cl 102 #[.P s 0,.I num,.I owner] h R:=aN (lq (sq (lq (cq ll lf)) (lq (sq (pN 8) (sq (lq (sq (.join [(33,.one (.bool))] lf) (.join [] (cq (pN 12) lf)))) ll))))) Tryz.func102 m
theorem qI.walk{x:Int}{X:Int}{d:cg}{c a:Nat}{e:Int}{c0:Nat}(f:aQ h (.cells #[.I x,.I X,.slice d c a,.U e] 119) λb H=>Hi H b 0 λt5=> ∃t6,Cc H c0 0 (.I t6)/\R (.bool (t5==t6)) H):Cl 154 #[.agg #[.I x,.I X,.slice d c a,.U e],.P c0 0] h R:=aN (lq ll) Tryz.func154 f
theorem Kf.walk{S:Bool}{d:Int}{e:Int}{f:ByteArray}{g:ByteArray}(j:aQ h (.cells #[.bool S,.U d,.U e,.string f,.string g] 29) λb c=>aG (λ(t11:Bool) (H:aj)=>if t11 then R (.tuple #[.pointer none,.I 3]) H else aw.LD H (AA b 0) λt T k l m=>aQ H (.cells #[.bool t,.U T,.U k,.string l,.string m,.U 0,.U 0,.bool true] 166) λB i=>R (.tuple #[.P B 0,.I 0]) i) (λJ=>aw.LD c (AA b 0) λn o p q r=>Cl 86 #[.agg #[.bool n,.U o,.U p,.string q,.string r]] c λv a=> ∃t5,v=.bool t5/\if(!t5)then J true a else aw.LD a (AA b 0) λu w x y z=> ∃(eq:Bool),xO Tryz.prog 29 (.agg #[.bool u,.U w,.U x,.string y,.string z]) (.agg #[.bool false,.U 0,.U 0,.string gV,.string gV]) eq/\J eq a)):Cl 33 #[.agg #[.bool S,.U d,.U e,.string f,.string g]] h R:=aN (lq (sq (sq (.join [(11,.one (.bool))] lf) (cq ll lf)) ll)) Tryz.func33 j
theorem wg.walk{m:Nat}(e:aQ h (.cells #[.bool false,.U 0,.U 0,.string gV,.string gV,.U 0,.U 0] 124) λb a=>aG (λ(t11:Bool) (H:aj)=>if t11 then ah.ST H (AA b 0) false 0 0 gV gV 0 0 λc=>ah.LD c (AA b 0) λr g j l o q u=>R (.agg #[.bool r,.U g,.U j,.string l,.string o,.U q,.U u]) c else ah.LD H (AA m 0) λT w x y z A B=>ah.ST H (AA b 0) T w x y z A B λd=>ah.LD d (AA b 0) λf i k n p t v=>R (.agg #[.bool f,.U i,.U k,.string n,.string p,.U t,.U v]) d) (λJ=> ∃t9,Cc a m 7 (.bool t9)/\J (!t9) a)):Cl 74 #[.P m 0] h R:=aN (lq (sq (sq (.join [(11,.one (.bool))] lf) (cq ll lf)) ll)) Tryz.func74 e
theorem fh.cancel.walk{c:cg}{S e:Nat}{f:Nat}(d: ∃(I:Int->aj->Prop)(m:Int->aj->Nat),I 0 h/\∀(t8:Int)(H:aj),I t8 H->if(decide (t8<(S:Int)))then Bd t8 S/\aM c λa=>aS.LD H (a.add (toNat t8*4)) λt T j i g k=>Cl 154 #[.agg #[.I t,.I T,.slice j i g,.U k],.P f 0] H λv b=> ∃t16,v=.bool t16/\if t16 then R (.I t8) b else(I (wrap .i64 (t8+1)) b/\m (wrap .i64 (t8+1)) b<m t8 H)else R (.I (-1)) H):Cl 153 #[.slice c S e,.func (.func 154) #[] #[.P f 0]] h R:=aN (lq (sq (lq (bq (.loop [(8,.one (.int .i64))] (lq (sq (cq lf lf) (sq (bq (lq (lq (cq ll lf)))) lf)))))) ll)) Tryz.func153 d

end
section
namespace eU
open gD (It)
open iT (Ev cN kj)
variable {h h':aj} {R:fj} {s k:Nat} {X:Ft} {I:sP} {σ:SS}
variable {n r:Nat} {x:It} {l:List It} {L:List Go.kk.E} {B:gD.BS}
theorem fw(B:Bk h s I n r)(hk:R (.bool true) h):Cl 52 #[pt s] h R:=by
 refine wa.walk ?_;repeat (first|exact hk|refine⟨_,ak B,?_⟩|rw[ag rfl])
theorem Pt.put(H:Pt h s X I σ)(b:Bk h' s I n r)(m:h'.size=h.size)(j: ∀x,x≠s->h'[x]? =h[x]?): ∃a,Pt h' s a I { σ with now:=n,rf:=r } /\bG X h a h':=by
 obtain⟨Z,⟨o,on⟩,p,z,go⟩:=H.use 6;obtain⟨a,d,st,_,_⟩:=go h' Z { σ with now:=n,rf:=r } ⟨b,on⟩ (bG.tL (Fr.of_eq m λc f=>j c (λe=>f ((on c).1.2 e)))) (λi g=>Qg _ _ g);exact⟨a,d,st⟩
theorem Pt.R1{n o:Int}(H:Pt h s X I σ)(e:σ.Q.Perm (x::l))(ok:rV σ.Q)(K:SV x)(d:n=(x.d.length:Int))(g:o=x.owner)(hk: ∀h' a,Pt h' s a I { σ with Q:=l } ->bG X h a h'->R (.I 0) h'):Cl 55 #[pt I.p,.I o,.I n] h R:=by
 subst g;obtain⟨Z,⟨m,P,on⟩,q,z,go⟩:=H.use 4;refine Rl (P.perm e) (rV.perm ok e) K d λh' p f=> ?_
 obtain⟨a,b,st,_,_⟩:=go h' Z { σ with Q:=l } ⟨m,p,on⟩ (bG.tL (f.mono λy _ j=>(on y).1.2 j)) (λi c=>GF _ c);exact hk h' a b st
theorem Pt.perm(H:Pt h s X I σ)(e:σ.Q.Perm l):Pt h s X I { σ with Q:=l } :=by
 obtain⟨Y,b,r⟩:=H;refine⟨Y,λi=> ?_,r⟩;by_cases a:i=4
 .subst a;obtain⟨m,P,on⟩:=b 4;exact⟨m,P.perm e,on⟩
 .rw[GF _ a];exact b i
theorem EH{r:List It}(ok:rV (l++r)): ∀j,rV (l.drop j++r)
 |0=>ok
 |j+1=>by
  have h:=EH ok j;rcases Nat.lt_or_ge j l.length with q|q
  .rw[cR q]at h;exact rV.sub h
  .rw[List.drop_eq_nil_of_le q]at h;rw[List.drop_eq_nil_of_le af];exact h
theorem Pt.okB(H:Pt h s X I σ): ∃L,gD.okB σ.B L:=by
 obtain⟨Z,L,B,ok⟩:=H.box;exact⟨L,ok⟩
theorem Pt.ord(H:Pt h s X I σ):fU.Ord σ.C:=by
 obtain⟨Y,a,_⟩:=H;exact fU.Ct.ord (a 2)
theorem MM(ok:gD.okB B L)(H:x∈B.items):SV x:=by
 have:=ok.it x H;exact⟨this.2.2.1,this.2.2.2.1,this.2.2.2.2.1,this.2.2.2.2.2.1⟩
theorem Good.small(G:Good σ k)(O:fU.Ord σ.C)(hk:k<=40000):fU.Small σ.C:=G.c.small O hk
theorem Kg(ok:gD.okB B L){P:It->Bool}{ys:List It}(c: ∀y∈ys,y∈B.items)(b:(ys.map It.kv).Perm ((B.items.filter P).map It.kv)):ys.Perm (B.items.filter P):=by
 have nd: ∀{l:List It},l.Sublist B.items->(l.map It.num).Nodup:=λd=>((ok.inc.sublist (d.map It.num))).imp λh=>Nat.ne_of_lt h
 have n1:((ys.map It.kv).map (λe=>e.1)).Nodup:=by
  refine(b.map _).nodup_iff.2 ?_;rw[dB];have:=nd (cJ (l:=B.items) (p:=P));unfold List.Nodup at this⊢;rw[dT]at this⊢;exact this.imp λh e=>h (by have e:(_:Int)=(_:Int):=e;exact Int.ofNat.inj e)
 have n2:ys.Nodup:=by
  rw[dB]at n1;unfold List.Nodup at n1⊢;rw[dT]at n1;exact n1.imp λh e=>h (by rw[e])
 have N:(B.items.filter P).Nodup:=by
  have:=nd (cJ (l:=B.items) (p:=P));unfold List.Nodup at this⊢;rw[dT]at this;exact this.imp λh e=>h (by rw[e])
 rw[List.perm_ext_iff_of_nodup n2 N];have inj: ∀x∈B.items,∀y∈B.items,x.kv=y.kv->x=y:=λx H y a e=>gD.uniq ok.inc H a (by have e:((x.num:Nat):Int)=((y.num:Nat):Int):=bT Prod.fst e;exact Int.ofNat.inj e)
 intro x;constructor
 .intro H;obtain⟨y,a,e⟩:=bg.1 (b.mem_iff.1 (bg.2 ⟨x,H,rfl⟩));rw[inj x (c x H) y (ba.1 a).1 e.symm];exact a
 .intro H;obtain⟨y,a,e⟩:=bg.1 (b.mem_iff.2 (bg.2 ⟨x,H,rfl⟩));rw[inj x (ba.1 H).1 y (c y a) e.symm];exact a
theorem GP(l:List It)(now:Nat):l.Perm (l.filter (λx=>decide ((x.bV:Int)<=(now:Int)))++l.filter (λx=>decide ((now:Int)<(x.bV:Int)))):=by
 have h:=(List.filter_append_perm (λx:It=>decide ((x.bV:Int)<=(now:Int))) l).symm;have e:(λx:It=> !decide ((x.bV:Int)<=(now:Int)))=λx:It=>decide ((now:Int)<(x.bV:Int)):=funext λx=>by
  by_cases q:(x.bV:Int)<=(now:Int)
  .rw[au q,az af];rfl
  .rw[az q,au af];rfl
 rw[e]at h;exact h
theorem uw{n:Int}(now:Nat)(hn:n=(now:Int))(H:Pt h s X I σ)(G:Good σ k)(j':k<=30000)(hk: ∀h' M,Pt h' s M I (w4 σ now)->bG X h M h'->R (.I (wZ σ now)) h'):Cl 16 #[pt s,.U n] h R:=by
 subst hn;have B:=H.cQ;refine wc.walk (fw B ⟨_,rfl,?_⟩);rw[dj];unfold w4 at hk;by_cases t:now>1099511627776
 .have e:wZ σ now=1:=ag t;rw[e,dj]at hk;rw[fY];exact hk h X H (bG.refl _ _)
 rw[ae (λe=>t (bX (aP e)))];refine⟨_,ak B,?_⟩;by_cases u:now<σ.now
 .have e:wZ σ now=18:=by unfold wZ;rw[ae t,ag u]
  rw[e,dj]at hk;rw[fY];exact hk h X H (bG.refl _ _)
 rw[ae (λe=>u (bX (aP e)))];have e:wZ σ now=0:=by unfold wZ;rw[ae t,ae u]
 rw[e,ag rfl]at hk;refine bH B bO λu a1 a2 a3=> ?_
 obtain⟨P,m,S⟩:=H.put (n:=now) (r:=σ.rf) a1 a2 a3;have a':=H.ord;have sm:=G.small a' af;obtain⟨Z,f,zm,zd,go⟩:=m.use 2;refine⟨_,ak m.cQ,fU.uw f sm (by have:=G.c.L;show σ.C.over<=_;omega) (fU.Good.held G.c) (now:Int) λT Z3 p3 c3 C3 s3 N3 g3=>⟨_,_,_,rfl,?_⟩⟩;obtain⟨X3,K,f',_,_⟩:=go T Z3 { σ with now:=now,C:=fU.jo σ.C (now:Int) } C3 s3 (λi A=>vU (σ:= { σ with now:=now }) _ A);obtain⟨Z,f,zm,zd,go⟩:=K.use 3;obtain⟨L,okB⟩:=H.okB;refine⟨_,ak K.cQ,gD.uw now rfl f (by have:=G.b;show σ.B.next<=_;omega) λU Z4 p4 c4 ys D F s4 Y d4 N e4 l' e' W=>⟨_,_,_,rfl,?_⟩⟩;have yp:(ys.map gD.IV.abs).Perm (σ.B.items.filter (λx=>decide ((x.bV:Int)<=(now:Int)))):=Kg okB (λy c=>by obtain⟨z,f,rfl⟩:=bg.1 c;exact W z f) (by rw[e4];exact e');have yl:ys.length=(σ.B.items.filter (λx=>decide ((x.bV:Int)<=(now:Int)))).length:=by rw[<-yp.length_eq,aF]
 have eB:({ σ.B with items:=σ.B.items.filter (λx=>decide ((now:Int)<(x.bV:Int))),over:=σ.B.over+ys.length } :gD.BS)=rY σ.B now:=by unfold rY;rw[yl]
 rw[eB]at F;obtain⟨p,H4,g',i',c'⟩:=go U Z4 { σ with now:=now,C:=fU.jo σ.C (now:Int),B:=rY σ.B now } F s4 (λi A=>GD (σ:= { σ with now:=now,C:=fU.jo σ.C (now:Int) }) _ A);have st:=S.trans (f'.trans g');have b': ∀y,aL p4 y->¬(p.M y\/p.D y)/\T.size<=y:=λy c=>⟨λd=>(N y c).2 (c' y (N y c).1 d),(N y c).1⟩
 have V:(σ.Q).Perm (ys.map gD.IV.abs++(rY σ.B now).items):=by
  rw[G.q];exact(GP _ now).trans (yp.symm.append_right _)
 have pz:rV (ys.map gD.IV.abs++(rY σ.B now).items):=rV.perm G.ok V;refine⟨λi g=> ∃(j:Nat)(q:Ft),i=(j:Int)/\j<=ys.length/\Pt g s q I { σ with now:=now,C:=fU.jo σ.C (now:Int),B:=rY σ.B now,Q:=(ys.map gD.IV.abs).drop j++(rY σ.B now).items } /\bG p U q g/\fi g p4 ys.length c4 4 (ys.flatMap gD.fZ),λi _=>ys.length - i.toNat,
  ⟨0,p,rfl,bL _,H4.perm V,bG.refl _ _,Y⟩,?_⟩
 rintro _ g ⟨j,q,rfl,hj,o,E,O⟩;have k':ys.length<=16:=by rw[yl];exact cM (cr _ _) okB.le
 by_cases w:j<ys.length
 .rw[fY];have c:ys[j]? =some ys[j]:=ai w;obtain⟨pb,po,rfl⟩:=O.addr af;refine⟨af,ay.2 (aS.yH (by rw[aD];exact O.fL gD.gI c) (aS.new λb g1 eb v f1=> ?_))⟩;have J:=o.on f1;have ed:(ys.map gD.IV.abs).drop j=ys[j].abs::(ys.map gD.IV.abs).drop (j+1):=by
   rw[cR (by rw[aF];exact w),List.getElem_map]
  have d':=EH pz j;refine⟨_,ak J.cQ,_,ak v,_,_,_,ak v,J.R1 (x:=ys[j].abs) (l:=(ys.map gD.IV.abs).drop (j+1)++(rY σ.B now).items) (by show((ys.map gD.IV.abs).drop j++_).Perm _;rw[ed];exact .refl _) d' (MM okB (W _ (dQ w))) rfl rfl λg2 P m S=>⟨_,rfl,?_,?_⟩⟩
  .have lb:=aC v;exact S.fr.cell (ak v) (λd=>bX (o.lt b (.inl d)))
  .rw[bA af af];have s2:=E.on f1|>.trans S
   refine⟨⟨j+1,P,af,af,m,s2,(O.frame f1 cu).frame S.fr (λy c d=> ?_)⟩,by show ys.length - Int.toNat ((j:Int)+1)<ys.length - Int.toNat (j:Int);omega⟩;rcases E.jr y d with a|a
   .exact(b' y c).1 (.inl a)
   .have:=Y.dV c;omega
 .rw[ae (λe=>w (bX (aP e)))];refine hk g q ?_ (st.trans E);rw[List.drop_eq_nil_of_le (by rw[aF];omega)]at o;exact o

end eU
end
section
open Go.fM
namespace fx
open iD
variable {h h':aj} {t:Nat} {X:Ft} {R:fj} {p:cg} {c i:Nat} {o:Pz} {D:Nat→Prop} {L:List SC} {A:List fx}
variable {num k:Int} {b:cH} {n m nc':Nat} {s:SC} {d g:aj} {K':List BV} {np':cg} {E:Nat->Prop}
theorem nE.on(T:nE h t o D L)(f:Fr No h h'):nE h' t o D L:=by
 obtain⟨p,c,H,own,a⟩:=T.cQ;refine⟨⟨p,c,f.get H id,own.frame f cu,a⟩,T.NO,λi s j=>(T.ses i s j).frame f (λ_ _ _ _ _=>id) cu,?_,?_,T.ap⟩
 .intro c r e;exact ct (T.L8 c r e) f.1
 .intro c hd;exact ct (T.Dw c hd) f.1
theorem GQ(xs:List AV)(id:Nat):(xs.filter (λx=>decide (x.id≠id))).map AV.abs=(xs.map AV.abs).filter (λa=>decide (a.1≠id)):=by
 rw[dE];rfl
theorem MN{B:List Nat}(id:Nat)(x':k=(id:Int))(H:rP h t X A B)(ok:pz A)(hr:Row h p (bc b))(I:n=b.length)(hp:b≠ []->∀x,aL p x->¬X.M x)(hk: ∀h' O,rP h' t O (mT A num id b) B->bG X h O h'->R (.I (Mc A num id b)) h'):
  Cl 46 #[.P t 0,.I num,.U k,.slice p n m] h R:=by
 subst x' I;have N:=H;obtain⟨o,L,Y,rfl,rfl,hS⟩:=H;have hl:=ok.le;rw[aF]at hl;refine rM.walk (cG ?_);have f1:Fr No h (h.push (.cells #[.U (id:Int)] 27)):=Fr.push _ _;have b':qx (h.push (.cells #[.U (id:Int)] 27)) h.size id:=bR;have N':(h.push (.cells #[.U (id:Int)] 27)).size=h.size+1:=dD _;generalize h.push (.cells #[.U (id:Int)] 27)=d at f1 b' N'⊢;have Z:=Y.on f1;have st1:bG X h X d:=bG.im f1;unfold mT Mc at hk;refine iJ Z (λi s e Q=>⟨_,_,rfl,?_⟩) (λI=>⟨_,_,rfl,?_⟩) af
 .rw[ae bO];subst e;rw[qY,nn Q]at hk;dsimp only at hk;refine aG.of λd' hJ=> ?_
  have jt:(id>1099511627776\/b.length>1000)->d' true d:=by
   intro hh;subst hJ;simp only[bf];simp only[hh,bf]at hk;exact hk d X (N.frame f1 (λ_ _ x=>x)) st1
  have jf: ¬(id>1099511627776\/b.length>1000)->d' false d:=by
   intro hh;subst hJ;simp only[aq,aJ];simp only[hh,aJ]at hk;have S:=Z.ses i s Q;have vc:=ok.at_ i _ (nn Q);have kl:s.kept.length<=6:=by have:=vc.kl;rwa[show s.abs.kept.length=s.kept.length from aF _]at this
   have T: ∀c,aL s.kp c->c≠s.b:=λc q e=>by have d:=S.kl c q;rw[e,S.lb]at d;simp at d
   have G': ∀c,aL s.np c->c≠s.b:=λc q e=>by have d:=S.nl c q;rw[e,S.lb]at d;simp at d
   have m': ∀c,aL s.kp c->¬aL s.np c:=λc q y=>by have d:=S.kl c q;rw[S.nl c y]at d;simp at d
   have kS: ∀c,aL s.kp c->X.M c:=λc q=>(hS c).2 ⟨_,S.kl c q⟩
   have bS:X.M s.b:=(hS s.b).2 ⟨_,S.lb⟩;have j': ¬aL s.kp h.size:=λf=>by have:=(N.lt _ (.inl (kS _ f)));omega
   have B':h.size≠s.b:=λe=>by have:=N.lt _ (.inl bS);omega
   have kD: ∀c,X.D c->¬(c=s.b\/aL s.kp c):=λc q f=>f.elim (λe=>Y.ap c _ (e▸S.lb) q) (λf=>Y.ap c _ (S.kl c f) q)
   refine ay.2 ⟨_,_,_,ak S.cQ,Gm S.qu rfl af b' j' λh4 o4 f4 z'=>⟨_,_,_,rfl,ay.2 ?_⟩⟩;have w':=f4.get S.cQ (λf=>T _ f rfl);refine bH w' bO λF k1 k2 k3=>ay.2 ?_
   have f5:Fr (λx=>x=s.b) h4 F:=Fr.of_eq k2 k3;have c':qx F h.size id:=f5.get z' B';have W:Fr (λx=>x=s.b\/aL s.kp x) d F:=(f4.mono (λ_ _ f=> .inr f)).tt (f5.mono (λ_ _ f=> .inl f));have M':Row F p (bc b):=by
    by_cases hb:b= []
    .rw[hb];exact .inl rfl
    .refine(hr.frame f1 (λ_ _ x=>x)).frame W (λa e f=> ?_);have:=hp hb a.block ⟨a,e,rfl⟩;exact f.elim (λe=>this (e▸bS)) (λf=>this (kS _ f))
   refine⟨_,_,_,ak k1,_,ak c',hC M' rfl af λP C w o6 f6 g6=>⟨_,_,_,rfl,ak (f6.get c' (λx=>x)),ak (f6.get k1 (λx=>x)),?_⟩⟩;refine cG ?_;have f7:Fr No w (w.push (.cells #[.U (id:Int),.slice P b.length C] 161)):=Fr.push _ _;have p':Row (w.push (.cells #[.U (id:Int),.slice P b.length C] 161)) (Sa w.size 0) (AV.enc ⟨id,⟨P,C,b⟩⟩):=jl (cs:=AV.enc ⟨id,⟨P,C,b⟩⟩);have O':(w.push (.cells #[.U (id:Int),.slice P b.length C] 161)).size=w.size+1:=dD _;generalize w.push (.cells #[.U (id:Int),.slice P b.length C] 161)=h7 at f7 p' O'⊢;have f67:=f6.tt f7;have i':qx h7 h.size id:=f67.get c' (λx=>x);have k':=f67.get k1 (λx=>x);refine⟨ak i',ak k',?_⟩;have o5:=o4.frame f5 (λx f e=>T x f e);have o7:=o5.frame f67 (λ_ _ x=>x);have fl:=cr (λx:AV=>decide (x.id≠id)) s.kept;refine dY tA uA o7 p' rfl (λv hv=>by simp at hv;rcases hv with rfl|rfl<;>rfl) af af ?_;intro p8 c8 h8 o8 _ f8 g8;have A':qx h8 h.size id:=f8.get i' j';have C':=f8.get k' (λf=>T _ f rfl);refine⟨_,_,_,rfl,ak A',ay.2 ?_⟩;refine bH C' bO λz q1 q2 q3=>ay.2 ⟨_,_,_,ak q1,?_⟩
   have f9:Fr (λx=>x=s.b) h8 z:=Fr.of_eq q2 q3;have z5:d.size<=F.size:=W.1;have z6:=f6.1;have z8:=f8.1;have P':s.b<d.size:=aC S.cQ;have l': ∀c,aL s.kp c->c<d.size:=λc q=>S.qu.dV q
   have n': ∀c,aL p8 c->aL s.kp c\/h7.size<=c:=g8;have F': ∀c,aL p8 c->c≠s.b:=λc q e=>(n' c q).elim (λf=>T c f e) (λf=>af)
   have U:=o8.frame f9 (λx f e=>F' x f e);have F9:Fr (λx=>x=s.b\/aL s.kp x) d z:=W.tt ((f67.mono (λ_ _=>False.elim)).tt ((f8.mono (λ_ _ f=> .inr f)).tt (f9.mono (λ_ _ f=> .inl f))));have r: ∀c,aL P c->F.size<=c/\c<w.size:=λc q=>⟨g6 c q,o6.dV q⟩
   have I':fi z P b.length C 1 (bc b):=((o6.frame f7 (λ_ _ x=>x)).frame f8 (λc q f=>gF (r c q) (l' c f))).frame f9 (λc q e=>bX (r c q));have r':(s.kept.filter (λx:AV=>decide (x.id≠id))).flatMap AV.enc++AV.enc ⟨id,⟨P,C,b⟩⟩=(s.kept.filter (λx:AV=>decide (x.id≠id))++ [(⟨id,⟨P,C,b⟩⟩:AV)]).flatMap AV.enc:=by rw[cW];simp
   rw[r']at U;have D':(s.kept.filter (λx:AV=>decide (x.id≠id))++ [(⟨id,⟨P,C,b⟩⟩:AV)]).map AV.abs=s.abs.kept.filter (λa=>decide (a.1≠id))++ [(id,b)]:=by
    rw[aW,GQ];rfl
   have M:(s.kept.filter (λx:AV=>decide (x.id≠id))++ [(⟨id,⟨P,C,b⟩⟩:AV)]).length=(s.kept.filter (λx:AV=>decide (x.id≠id))).length+1:=by rw[av];rfl
   have E': ∀a∈s.kept.filter (λx:AV=>decide (x.id≠id))++ [(⟨id,⟨P,C,b⟩⟩:AV)],a.v.ok z (λc=>X.D c\/aL P c):=by
    intro a ha;rcases bN.1 ha with ha|ha
    .exact((S.kd a (ba.1 ha).1).frame F9 kD).mono (λc=> .inl)
    .simp at ha;subst ha;exact BV.j9 I' (λc=> .inr)
   generalize s.kept.filter (λx:AV=>decide (x.id≠id))++ [(⟨id,⟨P,C,b⟩⟩:AV)]=K at*;generalize (s.kept.filter (λx:AV=>decide (x.id≠id))).length=t' at*;refine aG.of λJ1 g'=> ?_
   have fin: ∀(g:aj)(K':List AV)(G:cg)(J:Nat),(∃j,K'=K.drop j)->K'.map AV.abs=iE s.abs.kept id b->At g { s with kept:=K',kp:=G,kc:=J } ->fi g G K'.length J 2 (K'.flatMap AV.enc)->
     (∀c,aL G c->aL s.kp c\/h7.size<=c)->Fr (λx=>x=s.b) z g->J1 g:=by
    intro g K' G J ⟨j,hj⟩ hK v' y' a' f12;subst g';have V:Fr (λx=>x=s.b\/aL s.kp x) d g:=F9.tt (f12.mono (λ_ _ f=> .inl f));obtain⟨O,HH,st⟩:=Z.SW (s':= { s with kept:=K',kp:=G,kc:=J }) (E:=aL P) hS Q rfl V (λc f=>f.elim (λe=>⟨_,e▸S.lb,af,af⟩) (λf=>⟨_,S.kl c f,af,af⟩)) v' y'
     (λc q=>(a' c q).imp (S.kl c) (λf=>af)) (S.xx.frame V (λc q f=>f.elim (G' c q) (λf=>m' c f q))) (λc q=> .inl (S.nl c q))
     (λc q y=>(a' c q).elim (λf=>m' c f y) (λf=>bX (S.xx.dV y)))
     (λc q=>⟨bX ((r c q).1),r7 ((r c q).2) f9.1 f12.1,λf=>(a' c f).elim (λy=>gF (l' c y) (r c q)) (λy=>bX (r c q)),λf=>gF (S.xx.dV f) (r c q)⟩)
     (λa ha=>(E' a (by rw[hj]at ha;exact List.mem_of_mem_drop ha)).frame f12 (λc q e=>q.elim (λq=>kD c q (.inl e)) (λq=>bX (r c q))))
     (λn I=>((S.nd n I).frame V kD).mono (λc=> .inl))
    refine hk g O ?_ (st1.trans st);unfold mj;rw[show((i:Int)+1 - 1).toNat=i by omega];have:({ s with kept:=K',kp:=G,kc:=J } :SC).abs= { s.abs with kept:=iE s.abs.kept id b } :=by
     unfold SC.abs;dsimp only;rw[hK];rfl
    rw[this]at HH;exact HH
   clear g';unfold iE at fin;rw[<-D',aF,M]at fin;by_cases f':((t'+1:Nat):Int)>6
   .simp only[f',bu,bf];rw[fY]at fin;refine ay.2 ⟨_,_,_,ak q1,af,?_⟩;rw[<-M]at U;have o':=U.sub (l:=1) (u:=K.length) af (bk _);rw[<-eS AV.enc 2 gJ K,eO,nL AV.enc 2 gJ]at o';refine JI o'.jb (by rw[bQ,<-M];rfl) (by rw[bQ];omega) λJ' q' u' H' f11 e'=>⟨_,_,_,rfl,ay.2 ?_⟩
    have L':=f11.get q1 (λx=>x);refine bH L' bO λg r1 r2 r3=> ?_
    have f12:Fr (λx=>x=s.b) u' g:=Fr.of_eq r2 r3;have z9:=f9.1;refine fin g (K.drop 1) J' q' ⟨1,rfl⟩ List.map_drop ?_ (H'.frame f12 (λc q e=>bX (e' c q))) (λc q=> .inr (bX (e' c q))) ((f11.mono (λ_ _=>False.elim)).tt f12);exact r1
   .simp only[f',bh,aq,aJ];rw[dj]at fin;refine fin z K p8 c8 ⟨0,rfl⟩ rfl ?_ (by rw[M];exact U) n' (Fr.refl _ _);show z[s.b]? =_;rw[q1];dsimp only;rw[M];rfl
  clear hJ;refine⟨_,ak b',?_⟩;by_cases c1:(id:Int)>1099511627776
  .simp only[c1,bu,bf];exact jt (.inl af)
  .simp only[c1,bh,aq,aJ];by_cases c2:(b.length:Int)>1000
   .simp only[c2,bu];exact jt (.inr af)
   .simp only[c2,bh];exact jf af
 .rw[ag (by rfl)];rw[lS (by rw[aF];exact I)]at hk;exact hk d X (N.frame f1 (λ_ _ x=>x)) st1
theorem OQ(id:Nat)(f:k=(id:Int))(H:Has h t X A)(ok:pz A)(q:Row h p (bc b))(j:n=b.length)(l:b≠ []->∀x,aL p x->¬X.M x)(hk: ∀h' a,Has h' t a (mT A num id b)->bG X h a h'->R (.I (Mc A num id b)) h'):
  Cl 46 #[.P t 0,.I num,.U k,.slice p n m] h R:=by
 obtain⟨B,H⟩:=H;exact MN id f H ok q j l λh' a e st=>hk h' a ⟨B,e⟩ st
theorem Kh(xs:List AV)(id:Nat):Em (xs.map AV.abs) id=(xs.find? (λa=>decide (a.id=id))).map (λa=>a.v.b):=by
 unfold Em;rw[List.find?_map,Option.map_map];rfl
theorem OR(id:Nat)(Z:k=(id:Int))(H:Has h t X A)(ok:pz A)(f: ∀b,rW A num id=some b->∀h' P C,fi h' P b.length C 1 (bc b)->Fr No h h'->(∀x,aL P x->h.size<=x)->R (.tuple #[.slice P b.length C,.bool true]) h')(K:rW A num id=none->gU h R (.tuple #[.Z,.bool false])):
  Cl 42 #[.P t 0,.I num,.U k] h R:=by
 subst Z;obtain⟨_,o,L,y,rfl,_,hS⟩:=H;have hl:=ok.le;rw[aF]at hl;refine rN.walk (cG ?_);have f1:Fr No h (h.push (.cells #[.U (id:Int)] 27)):=Fr.push _ _;have I:qx (h.push (.cells #[.U (id:Int)] 27)) h.size id:=bR;generalize h.push (.cells #[.U (id:Int)] 27)=d at f1 I⊢;have T:=y.on f1;unfold rW at f K;refine iJ T (λi s e l=>⟨_,_,rfl,?_⟩) (λhn=>⟨_,_,rfl,?_⟩) af
 .rw[ae bO];subst e;rw[qY,nn l]at f K;dsimp only at f K;rw[show s.abs.kept=s.kept.map AV.abs from rfl,Kh]at f K;have S:=T.ses i s l;have vc:=ok.at_ i _ (nn l);have kl:s.kept.length<=6:=by have:=vc.kl;rwa[show s.abs.kept.length=s.kept.length from aF _]at this
  refine ay.2 ⟨_,_,_,ak S.cQ,Gl S.qu.jb rfl af I λF f3=>⟨_,rfl,?_⟩⟩;unfold xy;cases r:s.kept.findIdx? (λa=>decide (a.id=id))with
  |none=>
   rw[ag (by rfl)];have:s.kept.find? (λa=>decide (a.id=id))=none:=by
    rw[List.find?_eq_none];intro a M;have:=dk.1 r a M;simpa using this
   rw[this]at K;exact K rfl F (f1.tt f3)
  |some j=>
   dsimp only;obtain⟨u,Y,W⟩:=cB.1 r;rw[dj];have q:s.kept[j]? =some s.kept[j]:=ai u;have Q:s.kept.find? (λa=>decide (a.id=id))=some s.kept[j]:=by
    rw[List.find?_eq_some_iff_getElem];exact⟨Y,j,u,rfl,λi V=>by have:=W i V;simpa using this⟩
   rw[Q]at f;have N:=f3.get S.cQ (λx=>x);have O:=S.qu.frame f3 (λ_ _ x=>x);have z:=S.kd _ (aT q);have b':s.kept[j].v.b.length<=1000:=(vc.kd (AV.abs s.kept[j]) (bw (aT q))).2;generalize s.kept[j]=a at*;obtain⟨ab,a',v⟩:=O.addr af;have w:=O;rw[v]at w;have U:=w.fL gJ q;refine ay.2 ⟨_,_,_,ak N,af,?_⟩;rw[v];refine ay.2 ⟨a.v.p,a.v.b.length,a.v.c,?_,?_⟩
   .rw[aD];exact U.2.1
   refine hC (z.row.frame f3 (λ_ _ x=>x)) rfl af λp4 B J o4 f4 G=>⟨_,_,_,rfl,?_⟩
   exact f a.v.b rfl J p4 B o4 (f1.tt (f3.tt f4)) (λx hx=>gF (G x hx) ((f1.tt f3).1))
 .rw[ag (by rfl)];rw[lS (by rw[aF];exact hn)]at K;exact K rfl d f1
theorem nE.Tc(T:nE d t o X.D L)(y: ∀c,X.M c↔ ∃r,o c=some r)(w:L[i]? =some s)(B:At g { s with notes:=K',np:=np',nc:=nc' })(C:fi g np' K'.length nc' 1 (K'.flatMap qj))(v: ∀c,aL np' c->aL s.np c\/d.size<=c)(f:Fr (λx=>x=s.b\/aL s.np x) d g)(u: ∀c,E c->o c=none/\c<g.size/\¬aL np' c)(hd: ∀n∈K',n.ok g (λc=>X.D c\/E c)):
  ∃l,rP g t l ((L.map SC.abs).set i { s.abs with notes:=K'.map BV.b }) (L.map SC.b)/\Fr X.M d g/\(∀c,l.M c->X.M c\/d.size<=c)/\(∀c,l.D c->X.D c\/E c)/\∀c,X.D c->l.D c:=by
 have S:=T.ses i s w;have F: ∀c,aL s.kp c->c≠s.b:=λc H e=>by have d:=S.kl c H;rw[e,S.lb]at d;simp at d
 have N: ∀c,aL s.kp c->¬aL s.np c:=λc H q=>by have d:=S.kl c H;rw[S.nl c q]at d;simp at d
 have kD: ∀c,X.D c->¬(c=s.b\/aL s.np c):=λc H j=>j.elim (λe=>T.ap c _ (e▸S.lb) H) (λj=>T.ap c _ (S.nl c j) H)
 exact T.Rm (s':= { s with notes:=K',np:=np',nc:=nc' }) (E:=E) y w rfl f (λc j=>j.elim (λe=>⟨_,e▸S.lb,af,af⟩) (λj=>⟨_,S.nl c j,af,af⟩)) B
  (S.qu.frame f (λc H j=>j.elim (F c H) (N c H))) (λc H=> .inl (S.kl c H)) C (λc H=>(v c H).imp (S.nl c) id)
  (λc q H=>(v c H).elim (λj=>N c q j) (λj=>bX (S.qu.dV q)))
  (λc H=>⟨(u c H).1,(u c H).2.1,(λj=>by have a:=S.kl c j;rw[(u c H).1]at a;cases a),(u c H).2.2⟩)
  (λa z=>((S.kd a z).frame f kD).mono (λc=> .inl)) hd
theorem nE.notes(T:nE d t o X.D L)(y: ∀c,X.M c↔ ∃r,o c=some r)(w:L[i]? =some s)(B:At g { s with notes:=K',np:=np',nc:=nc' })(C:fi g np' K'.length nc' 1 (K'.flatMap qj))(v: ∀c,aL np' c->aL s.np c\/d.size<=c)(f:Fr (λx=>x=s.b\/aL s.np x) d g)(q: ∀c,E c->d.size<=c/\c<g.size/\¬aL np' c)(hd: ∀n∈K',n.ok g (λc=>X.D c\/E c)):
  ∃u,rP g t u ((L.map SC.abs).set i { s.abs with notes:=K'.map BV.b }) (L.map SC.b)/\bG X d u g:=by
 have S:=T.ses i s w;have F: ∀c,aL s.kp c->c≠s.b:=λc H e=>by have d:=S.kl c H;rw[e,S.lb]at d;simp at d
 have N: ∀c,aL s.kp c->¬aL s.np c:=λc H l=>by have d:=S.kl c H;rw[S.nl c l]at d;simp at d
 have kD: ∀c,X.D c->¬(c=s.b\/aL s.np c):=λc H j=>j.elim (λe=>T.ap c _ (e▸S.lb) H) (λj=>T.ap c _ (S.nl c j) H)
 exact T.SW (s':= { s with notes:=K',np:=np',nc:=nc' }) (E:=E) y w rfl f (λc j=>j.elim (λe=>⟨_,e▸S.lb,af,af⟩) (λj=>⟨_,S.nl c j,af,af⟩)) B
  (S.qu.frame f (λc H j=>j.elim (F c H) (N c H))) (λc H=> .inl (S.kl c H)) C (λc H=>(v c H).imp (S.nl c) id)
  (λc l H=>(v c H).elim (λj=>N c l j) (λj=>bX (S.qu.dV l)))
  (λc H=>⟨(q c H).1,(q c H).2.1,λj=>gF (S.qu.dV j) ((q c H).1),(q c H).2.2⟩)
  (λa z=>((S.kd a z).frame f kD).mono (λc=> .inl)) hd
theorem ui(H:Has h t X A)(ok:pz A)(hk: ∀h' f P G,Has h' t f (BD A num)->bG X h f h'->BV.ok h' f.D ⟨P,G,BC A num⟩->R (.tuple #[.slice P (BC A num).length G,.I (Ih A num),.I (Md A num)]) h'):
  Cl 167 #[.P t 0,.I num] h R:=by
 have C:=H;obtain⟨_,o,L,T,rfl,_,Z⟩:=H;have hl:=ok.le;rw[aF]at hl;unfold BD BC Ih Md at hk;refine rO.walk (iJ T (λi s e w=>⟨_,_,rfl,aG.of λJ y=> ?_⟩) (λq=>⟨_,_,rfl,aG.of λJ y=> ?_⟩) af)
 .rw[ag (by rfl)];subst e;rw[qY,nn w]at hk;dsimp only at hk;have S:=T.ses i s w;have vc:=ok.at_ i _ (nn w);have nl:s.notes.length<=6:=by have:=vc.nl;rwa[show s.abs.notes.length=s.notes.length from aF _]at this
  refine ay.2 ⟨_,_,_,ak S.cQ,?_⟩;subst y;dsimp only;have a':s.abs.notes=s.notes.map BV.b:=rfl;have nF: ∀s':fx,mj (L.map SC.abs) ((i:Int)+1) s'=(L.map SC.abs).set i s':=λs'=>by unfold mj;rw[show((i:Int)+1 - 1).toNat=i by omega]
  rw[nF,a',aF]at hk;cases v:s.notes with
  |nil=>
   rw[v]at hk;rw[ag (by rfl)];have b':(L.map SC.abs).set i { s.abs with notes:= [] } =L.map SC.abs:=by
    refine uu ?_;rw[nn w];congr 1
    unfold SC.abs;rw[v];rfl
   refine hk h X none 0 ?_ (bG.refl _ _) ⟨.inl rfl,λr=>absurd rfl r,bO⟩;have:(List.drop 1 (List.map BV.b []))=([]:List (cH)):=rfl;rw[this,b'];exact C
  |cons x rest=>
   have r:((((x::rest).length:Nat):Int)==0)=false:=by simp only[aV,dC,ft];omega
   rw[ae (by rw[r];simp)];have e': ∀c,aL s.np c->c≠s.b:=λc a e=>by have d:=S.nl c a;rw[e,S.lb]at d;simp at d
   have own:=S.xx;have K:=S.cQ;rw[v]at own hk nl;have z:h[s.b]? =some (.cells #[.I (s.num:Int),.U (s.token:Int),.bool s.up,.bool s.watch,.slice s.kp s.kept.length s.kc,.slice s.np (x::rest).length s.nc] 76 (0,0)):=by
    have:At h s:=K;unfold At iy.at at this;rwa[v]at this
   obtain⟨U,V,B⟩:=own.addr bO;have O:=own;rw[B]at O;have c':=O.fL nR (i:=0) (x:=x) rfl;refine ay.2 ⟨_,_,_,ak z,⟨af,by simp only[aV];omega⟩,?_⟩;rw[B];refine ay.2 ⟨x.p,x.b.length,x.c,?_,ay.2 ⟨some (AA U V),(x::rest).length,s.nc,?_,⟨af,by simp only[aV];omega⟩,?_⟩⟩
   .have:=c'.1;rw[Nat.zero_mul,fo,fo]at this;rw[show Int.toNat 0*1=0 from rfl,fo];exact this
   .rw[<-B];exact ak z
   have M:=O.sub (l:=1) (u:=(x::rest).length) bO (bk _);rw[<-eS qj 1 nR (x::rest),eO,nL qj 1 nR]at M;refine JJ (xs:=rest) M.jb bO (by simp only[aV]at nl;omega) λp3 W Y o3 f3 I=>⟨_,_,_,rfl,ay.2 ?_⟩
   have q3:=f3.get z id;refine bH q3 bO λj r1 r2 r3=> ?_
   have f4:Fr (λx=>x=s.b) Y j:=Fr.of_eq r2 r3;have f':s.b<h.size:=aC K;have z3:=f3.1;have F:Fr (λx=>x=s.b) h j:=(f3.mono (λ_ _=>False.elim)).tt f4;have kD: ∀c,X.D c->c≠s.b:=λc a e=>T.ap c _ (e▸S.lb) a
   have N: ∀n∈x::rest,n.ok j X.D:=λn q=>(S.nd n (by rw[v];exact q)).frame F kD
   obtain⟨f,Q,st⟩:=T.notes (K':=rest) (np':=p3) (nc':=W) (E:=λ_=>False) Z w r1 (o3.frame f4 (λc a e=>bX (I c a))) (λc a=> .inr (I c a)) (F.mono (λ_ _ hx=> .inl hx)) (λc a=>a.elim) (λn q=>(N n (cp _ q)).mono (λc=> .inl));have d':BV.ok j f.D x:=(N x dh).mono st.vk;exact hk j f x.p x.c ⟨_,Q⟩ st d'
 .rw[ae bO];subst y;dsimp only;rw[lS (by rw[aF];exact q)]at hk;rw[ag (by rfl)];exact hk h X none 0 C (bG.refl _ _) ⟨.inl rfl,λr=>absurd rfl r,bO⟩

end fx
end
section
open Go.fM
namespace eU
open iT (Ev cN kj ia)
open iD
variable {h:aj} {R:fj} {k:Nat}
theorem Iw{e:Ev}{tm sq:Nat}(M:Mk h k e tm sq)(hk: gU h R (.agg #[.bool e.jI,.U e.node,.U e.fX,.string e.host,.string e.jd,.U (tm:Int),.U (sq:Int)])):
  Cl 74 #[pt k] h R:=by
 refine wg.walk (ah.box λb g E f f1=> ?_);have m:=f1.get M id;refine aG.of λJ d=>⟨_,ak m,?_⟩
 subst d;dsimp only;rw[dj];refine⟨_,ak m,_,ak m,_,ak m,_,ak m,_,ak m,_,ak m,_,ak m,ah.set f λH a A c=>ah.ld a (hk H (f1.fresh (Fr.of_eq (S:=λy=>y=b) A c) (λy e=>af)))⟩

end eU
end
section
namespace eU
open iT (Ev cN kj)
variable {h h':aj} {R:fj} {s k:Nat} {X:Ft} {I:sP}
def GR(x:Ev):Prop:=cN x=true/\x≠Ev.zero
instance (x : Ev) : Decidable (GR x) := by unfold GR; infer_instance
theorem w9(x:Ev)(g:GR x->∀h' b,Mk h' b x 0 0->h.size<=b->Fr No h h'->R (.tuple #[pt b,.I 0]) h')(K: ¬GR x->gU h R (.tuple #[.pointer none,.I 3])):Cl 33 #[kj x] h R:=by
 refine Kf.walk (aw.box λb i E e f1=>aG.of λJ d=>aw.ld e (iT.fc x λc f2=>⟨_,rfl,?_⟩));have f:=f2.get e id;cases a:cN x with
 |false=>
  rw[fY];subst d;exact K (λm=>by rw[m.1]at a;cases a) c (f1.tt f2)
 |true=>
  rw[dj];refine aw.ld f ⟨_,iT.tW (y:=Ev.zero) rfl rfl,?_⟩;subst d;by_cases H:x=Ev.zero
  .rw[au H];dsimp only;rw[ag rfl];exact K (λm=>m.2 H) c (f1.tt f2)
  .rw[az H];dsimp only;rw[dj];refine aw.ld f (cG (g ⟨a,H⟩ _ _ bR (cM f1.1 f2.1) ((f1.tt f2).tt (Fr.push _ _))))
theorem gC(x:Ev)(k1:GR x->∀h' s X I,Pt h' s X I (CX x)->Ln h X h'->R (.tuple #[pt s,.I 0]) h')(k2: ¬GR x->gU h R (.tuple #[.pointer none,.I 3])):Cl 8 #[kj x] h R:=by
 refine Ke.walk (aw.box λb f eb hb f1=>aw.ld hb (w9 x (λl d k M g2 f2=>⟨_,_,rfl,?_⟩) (λl d f2=>⟨_,_,rfl,?_⟩)))
 .rw[dj];refine lu.gC 4800 1600 (λ_ G p m P g3 a' f3=>⟨_,_,rfl,?_⟩) (λe=>absurd e dH);rw[dj];refine fx.gC λJ t V z f4 u4=>⟨_,rfl,gg.gC λK r W A u=>⟨_,rfl,fU.gC λN c Z C U=>⟨_,rfl,gD.gC λH o X3 D f7 u7=>⟨_,rfl,cG ?_⟩⟩⟩⟩
  have f8:Fr No H (H.push (.cells #[.P t 0,.P r 0,.P c 0,.P o 0,.P p 0,.P k 0,.U 0,.I 0] 41)):=Fr.push _ _;have B:(H.push (.cells #[.P t 0,.P r 0,.P c 0,.P o 0,.P p 0,.P k 0,.U 0,.I 0] 41))[H.size]? =_:=bR;have z8:(H.push (.cells #[.P t 0,.P r 0,.P c 0,.P o 0,.P p 0,.P k 0,.U 0,.I 0] 41)).size=H.size+1:=dD _;generalize H.push (.cells #[.P t 0,.P r 0,.P c 0,.P o 0,.P p 0,.P k 0,.U 0,.I 0] 41)=g at f8 B z8⊢;have w:=f7.tt f8;have v:=U.fr.tt w;have q:=u.fr.tt v;have n:=f4.tt q;have F:=f3.tt n;have T:=f1.tt (f2.tt F);have z1:=f1.1;have z2:=f2.1;have z3:=f3.1;have z4:=f4.1;have z5:=u.fr.1;have z6:=U.fr.1;have z7:=f7.1;have S:=P.lt;have lk:=aC M
  let Y:Nat->Ft:=λi=>match i with
   |0=>V|1=>W|2=>Z|3=>X3
   |4=>⟨λy=>y=p\/y=m,λ_=>False⟩
   |5=>⟨λy=>y=k,λ_=>False⟩
   |6=>⟨λy=>y=H.size,λ_=>False⟩
   |_=>⟨λ_=>False,λ_=>False⟩
  let L:Nat->Nat:=λi=> [G.size,J.size,K.size,N.size,d.size,f.size].getD i H.size
  let O:Nat->Nat:=λi=> [J.size,K.size,N.size,H.size,G.size,d.size].getD i g.size
  have bd: ∀i y,In (Y i) y->L i<=y/\y<O i:=λi y hy=>by
   rcases i with _|_|_|_|_|_|_|i
   .exact⟨u4 y hy,z.lt y hy⟩
   .exact⟨u.ge y hy,A.lt y hy⟩
   .exact⟨U.ge y hy,C.lt y hy⟩
   .exact⟨u7 y hy,D.lt y hy⟩
   .rcases hy with hy|hy
    .rcases hy with rfl|rfl
     .exact⟨g3,S.1⟩
     .exact⟨a',S.2⟩
    .exact hy.elim
   .rcases hy with hy|hy
    .have hy:y=k:=hy;exact⟨hy▸g2,hy▸lk⟩
    .exact hy.elim
   .rcases hy with hy|hy
    .have hy:y=H.size:=hy;exact⟨by show H.size<=y;omega,by show y<g.size;omega⟩
    .exact hy.elim
   .rcases hy with hy|hy<;>exact hy.elim
  refine k1 l g H.size ⟨λy=> ∃i,(Y i).M y,λy=> ∃i,(Y i).D y⟩ ⟨t,r,c,o,p,k⟩ ⟨Y,λi=> ?_,λi j y b' hy Q=> ?_,λ_=>eE,λ_=>eE⟩ ⟨T,λy hy=> ?_⟩
  .rcases i with _|_|_|_|_|_|_|i
   .exact z.frame q cu
   .exact A.on v
   .exact C.on w
   .exact gD.As.on ⟨[],D,gD.okB.nil⟩ f8
   .exact⟨m,P.frame n id id,λy=>⟨eE,id⟩⟩
   .exact⟨F.get M id,λy=>⟨eE,id⟩⟩
   .exact⟨B,λy=>⟨eE,id⟩⟩
   .exact λy hy=>hy.elim id id
  .have f:=bd i y hy;have d:=bd j y Q;have E: ∀i,¬In (Y (i+7)) y:=λi hy=>hy.elim id id
   rcases i with _|_|_|_|_|_|_|i<;>first|exact E i hy|(rcases j with _|_|_|_|_|_|_|j<;>first|exact E j Q|exact b' rfl|(simp only[L,O,List.getD_cons_zero,List.getD_cons_succ,List.getD_nil]at f d;omega))
  .have key: ∀i,In (Y i) y->h.size<=y:=λi a=>by
    have f:=(bd i y a).1;rcases i with _|_|_|_|_|_|_|i<;>(simp only[L,List.getD_cons_zero,List.getD_cons_succ,List.getD_nil]at f;omega)
   rcases hy with⟨i,a⟩|⟨i,a⟩
   .exact key i (.inl a)
   .exact key i (.inr a)
 .rw[fY];exact k2 l d (f1.tt f2)

end eU
end
section
namespace Cb
structure CV where
 k:Int
 n:Nat
 v:BV
 q:cg
 ll:Nat
 cl:Nat
abbrev hT(x:CV):List Value:= [.int .i64 x.k,.int .u64 (x.n:Int),x.v.val,.slice x.q x.ll x.cl]
theorem gu(x:CV):(hT x).length=4:=rfl
abbrev CV.agg(x:CV):Value:=.agg (hT x).toArray
structure mz (h:aj) (D:Nat->Prop) (q:cg) (l c:Nat) (ys:List CV):Prop where
 len:l=ys.length
 row:Row h q (ys.flatMap hT)
 own:ys≠ []->∀y,aL q y->D y
 cap:l<=c
mutual
def gE (h:aj) (D:Nat->Prop):Tr->CV->Prop
 | .mk k n b l,x=>(x.k=k/\x.n=n/\x.v.b=b/\x.v.ok h D)/\∃ys,mz h D x.q x.ll x.cl ys/\dc h D l ys
def dc (h:aj) (D:Nat->Prop):List Tr->List CV->Prop
 | [], []=>True
 |t::ts,y::ys=>gE h D t y/\dc h D ts ys
 |_,_=>False
end
variable {h h' : aj} {D D' : Nat → Prop}
theorem mz.frame{Q:Nat->Prop}{q:cg}{l c:Nat}{ys:List CV}(H:mz h D q l c ys)(f:Fr Q h h')(b: ∀y,D y->¬Q y):mz h' D q l c ys:=by
 refine⟨H.len,?_,H.own,H.cap⟩;by_cases e:ys= []
 .subst e;exact Row.nil
 .exact H.row.frame f (λa E=>b _ (H.own e _ ⟨a,E,rfl⟩))
theorem mz.mono{q:cg}{l c:Nat}{ys:List CV}(H:mz h D q l c ys)(hd: ∀y,D y->D' y):mz h D' q l c ys:=⟨H.len,H.row,λe y a=>hd y (H.own e y a),H.cap⟩
theorem mz.lt{q:cg}{l c:Nat}{ys:List CV}(H:mz h D q l c ys):mz h (λy=>D y/\y<h.size) q l c ys:=⟨H.len,H.row,λe y a=>⟨H.own e y a,iI H.row (by cases ys with|nil=>exact absurd rfl e|cons=>simp) a⟩,H.cap⟩
theorem EI{x:BV}(H:x.ok h D):x.ok h (λy=>D y/\y<h.size):=⟨H.row,λe y a=>⟨H.own e y a,iI H.row (by cases b:x.b with|nil=>exact absurd b e|cons=>simp[bc]) a⟩,H.cap⟩
mutual
theorem gE.frame {Q:Nat->Prop} (f:Fr Q h h') (hq: ∀y,D y->¬Q y): ∀ {t:Tr} {x:CV},gE h D t x->gE h' D t x
 | .mk k n b l,x,H=>by
  unfold gE at H⊢;obtain⟨⟨h1,h2,h3,h4⟩,ys,h5,h6⟩:=H;exact⟨⟨h1,h2,h3,h4.frame f hq⟩,ys,h5.frame f hq,dc.frame f hq h6⟩
theorem dc.frame {Q:Nat->Prop} (f:Fr Q h h') (hq: ∀y,D y->¬Q y): ∀ {ts:List Tr} {ys:List CV},dc h D ts ys->dc h' D ts ys
 | [], [],_=>trivial
 |t::ts,y::ys,H=>by
  unfold dc at H⊢;exact⟨gE.frame f hq H.1,dc.frame f hq H.2⟩
 | [],_::_,H=>by unfold dc at H;exact H.elim
 |_::_, [],H=>by unfold dc at H;exact H.elim
end
mutual
theorem gE.mono (hd: ∀y,D y->D' y): ∀ {t:Tr} {x:CV},gE h D t x->gE h D' t x
 | .mk k n b l,x,H=>by
  unfold gE at H⊢;obtain⟨⟨h1,h2,h3,h4⟩,ys,h5,h6⟩:=H;exact⟨⟨h1,h2,h3,h4.mono hd⟩,ys,h5.mono hd,dc.mono hd h6⟩
theorem dc.mono (hd: ∀y,D y->D' y): ∀ {ts:List Tr} {ys:List CV},dc h D ts ys->dc h D' ts ys
 | [], [],_=>trivial
 |t::ts,y::ys,H=>by
  unfold dc at H⊢;exact⟨gE.mono hd H.1,dc.mono hd H.2⟩
 | [],_::_,H=>by unfold dc at H;exact H.elim
 |_::_, [],H=>by unfold dc at H;exact H.elim
end
mutual
theorem gE.lt: ∀ {t:Tr} {x:CV},gE h D t x->gE h (λy=>D y/\y<h.size) t x
 | .mk k n b l,x,H=>by
  unfold gE at H⊢;obtain⟨⟨h1,h2,h3,h4⟩,ys,h5,h6⟩:=H;exact⟨⟨h1,h2,h3,EI h4⟩,ys,h5.lt,dc.lt h6⟩
theorem dc.lt: ∀ {ts:List Tr} {ys:List CV},dc h D ts ys->dc h (λy=>D y/\y<h.size) ts ys
 | [], [],_=>trivial
 |t::ts,y::ys,H=>by
  unfold dc at H⊢;exact⟨gE.lt H.1,dc.lt H.2⟩
 | [],_::_,H=>by unfold dc at H;exact H.elim
 |_::_, [],H=>by unfold dc at H;exact H.elim
end
theorem gE.on{t:Tr}{x:CV}(H:gE h D t x)(f:Fr No h h'):gE h' D t x:=gE.frame f cu H
theorem dc.on{ts:List Tr}{ys:List CV}(H:dc h D ts ys)(f:Fr No h h'):dc h' D ts ys:=dc.frame f cu H
theorem dc.len: ∀{ts:List Tr}{ys:List CV},dc h D ts ys->ts.length=ys.length
 | [], [],_=>rfl
 |t::ts,y::ys,H=>by
  unfold dc at H;rw[aV,aV,dc.len H.2]
 | [],_::_,H=>by unfold dc at H;exact H.elim
 |_::_, [],H=>by unfold dc at H;exact H.elim
theorem dc.get: ∀{ts:List Tr}{ys:List CV}{i:Nat}{y:CV},dc h D ts ys->ys[i]? =some y->∃t,ts[i]? =some t/\gE h D t y
 | [], [],_,_,_,a=>by simp at a
 |t::ts,y::ys,0,z,H,a=>by
  unfold dc at H;rw[dF]at a;cases a;exact⟨t,rfl,H.1⟩
 |t::ts,y::ys,i+1,z,H,a=>by
  unfold dc at H;rw[di]at a;obtain⟨u,b,c⟩:=dc.get H.2 a;exact⟨u,by rw[di];exact b,c⟩
 | [],_::_,_,_,H,_=>by unfold dc at H;exact H.elim
 |_::_, [],_,_,H,_=>by unfold dc at H;exact H.elim
theorem dc.snoc: ∀{ts:List Tr}{ys:List CV}{t:Tr}{y:CV},dc h D ts ys->gE h D t y->dc h D (ts++ [t]) (ys++ [y])
 | [], [],_,_,_,a=>by
  show dc h D [_] [_];unfold dc;exact⟨a,trivial⟩
 |u::ts,z::ys,t,y,H,a=>by
  unfold dc at H;show dc h D (u::(ts++ [t])) (z::(ys++ [y]));unfold dc;exact⟨H.1,dc.snoc H.2 a⟩
 | [],_::_,_,_,H,_=>by unfold dc at H;exact H.elim
 |_::_, [],_,_,H,_=>by unfold dc at H;exact H.elim
theorem dc.take: ∀{ts:List Tr}{ys:List CV}(n:Nat),dc h D ts ys->dc h D (ts.take n) (ys.take n)
 | [], [],n,_=>by simp[dc]
 |t::ts,y::ys,0,_=>by simp[dc]
 |t::ts,y::ys,n+1,H=>by
  unfold dc at H;rw[fQ,fQ];unfold dc;exact⟨H.1,dc.take n H.2⟩
 | [],_::_,_,H=>by unfold dc at H;exact H.elim
 |_::_, [],_,H=>by unfold dc at H;exact H.elim
theorem dc.drop: ∀{ts:List Tr}{ys:List CV}(n:Nat),dc h D ts ys->dc h D (ts.drop n) (ys.drop n)
 | [], [],n,_=>by simp[dc]
 |t::ts,y::ys,0,H=>H
 |t::ts,y::ys,n+1,H=>by
  unfold dc at H;rw[List.drop_succ_cons,List.drop_succ_cons];exact dc.drop n H.2
 | [],_::_,_,H=>by unfold dc at H;exact H.elim
 |_::_, [],_,H=>by unfold dc at H;exact H.elim
end Cb
end
section
variable {h:aj} {R:fj}
variable {E:fj} {r c0 c1 C B g:Nat} {d H deep V n:Int} {c:Bool} {K:Option Value->aj->Prop} {f:cg}
theorem Ki.walk{is:Bool}{e:Int}(a:if(!is)then E (.iface 331 (.agg #[.I e])) h else R (.tuple #[]) h):hN Tryz.prog 282 #[.bool is,.I e] h R E:=gZ (lq (cq lf lf)) Gc Tryz.func282 rfl rfl (Eq.mp cU a)
theorem wh.walk(P:aQ h (.cells #[.I 0,.U 0,.bool false] 360) λb H=>aG (λ(c:cg) (next:Int) (e:Int) (I:aj)=>Ce 282 #[.bool (e==0),.I e] I (λv L=>v=.tuple #[]/\aO L (AA r 1) (.I next) λm=>aM c λa=>bt.LD m a λW X Y=>bt.ST m (AA b 0) W X Y λo=>bt.LD o (AA b 0) λQ S U=>R (.agg #[.I Q,.U S,.bool U]) o) E) (λJ=>Hl H r 0 λj T t=>Hi H r 1 λt14=>(Cl 309 #[.slice j T t,.I t14] H λZ M=> ∃p s w y A,Z=.tuple #[.agg #[.I p,.U s,.bool w],.I y,.I A]/\aQ M (.cells #[.I 0,.U 0,.bool false] 360) λk N=>bt.ST N (AA k 0) p s w λO=>([]:List Deferred)= []/\J (Sa k 0) y A O)/\(aQ H (.cells #[.I 0,.U 0,.bool false] 360) λl i=>Cc i r 1 (.I t14)/\Cc i r 0 (.slice j T t)/\Cl 309 #[.slice j T t,.I t14] i λa' F=> ∃q u x z D,a'=.tuple #[.agg #[.I q,.U u,.bool x],.I z,.I D]/\bt.ST F (AA l 0) q u x λG=>([]:List Deferred)= []/\J (Sa l 0) z D G)/\True)):hN Tryz.prog 281 #[.P r 0] h R E:=gZ (lq (sq (.join [(3,.one (.ptr)),(4,.one (.int .i64)),(5,.one (.int .i64))] (.gY (fJ 8 0 (.alts (.fork 8 (fJ 8 9 .done) (.fork 13 (.op 8 (.op 9 (.op 10 (.op 11 (.op 12 (.op 14 (.op 15 (.op 16 .done)))))))) .gG)))))) (lq (lq ll)))) Gc Tryz.func281 rfl rfl (Eq.mp cU P)
theorem wi.walk (b:aG (λ(t25:Bool) (H:aj)=>if t25 then∃t29,Cc H r 1 (.I t29)/\aO H (AA r 1) (.I (wrap .i64 (t29+1))) λc=>R (.bool true) c else R (.bool false) H) (λJ=>Hi h r 1 λt6=> ∃e t T,Cc h r 0 (.slice e t T)/\if(decide (t6<((t:Nat):Int)))then Hl h r 0 λj i k=>Hi h r 1 λt21=>Bd t21 i/\aM j λa=> ∃t23,aX h (a.add (toNat t21*1))=some (.int .u8 t23)/\J (t23==255) h else J false h)):Cl 310 #[.P r 0] h R:=aN (lq (sq (sq (.join [(25,.one (.bool))] (pN 23)) (cq (lq ll) lf)) ll)) Tryz.func310 b
theorem uT.walk (x:aQ h (.cells #[.I d,.U H,.bool c] 360) λb H=> ∃t7,Cc H b 1 (.U t7)/\∃o T m,Cc H r 0 (.slice o T m)/\∃t16,Cc H r 1 (.I t16)/\Ce 282 #[.bool (decide (t7<=(wrap .u64 (wrap .i64 (((T:Nat):Int) - t16))))),.I 8] H (λv c=>v=.tuple #[]/\Cc c r 1 (.I t16)/\Cc c r 0 (.slice o T m)/\Cc c b 1 (.U t7)/\∃i p t,Cc c r 0 (.slice i p t)/\∃t28,Cc c r 1 (.I t28)/\∃t32,Cc c r 1 (.I t32)/\∃t34,Cc c b 1 (.U t34)/\((0:Int)<=wrap .i64 (t32+(wrap .i64 t34))/\wrap .i64 (t32+(wrap .i64 t34))<=((t:Nat):Int))/\((0:Int)<=t28/\t28<=wrap .i64 (t32+(wrap .i64 t34)))/\Cl 50 #[.slice (cK i t (toNat t28) 1) ((toNat (wrap .i64 (t32+(wrap .i64 t34)))) - (toNat t28)) (t - (toNat t28))] c λy a=> ∃l k j,y=.slice l k j/\Cc a b 1 (.U t34)/\Cc a r 1 (.I t32)/\Cc a r 1 (.I t28)/\Cc a r 0 (.slice i p t)/\aG (λ(e:aj)=> ∃t50,Cc e r 1 (.I t50)/\∃t52,Cc e b 1 (.U t52)/\aO e (AA r 1) (.I (wrap .i64 (t50+(wrap .i64 t52)))) λq=>R (.slice l k j) q) (λJ=> ∃t40,Cc a b 0 (.I t40)/\if(t40 !=3)then Ce 282 #[.bool true,.I 3] a (λz s=>z=.tuple #[]/\([]:List Deferred)= []/\J s) E else Cl 316 #[.slice l k j] a λA u=> ∃t44,A=.bool t44/\Ce 282 #[.bool t44,.I 3] u (λD w=>D=.tuple #[]/\([]:List Deferred)= []/\J w) E)) E):hN Tryz.prog 311 #[.P r 0,.agg #[.I d,.U H,.bool c]] h R E:=gZ (lq (sq (pN 15) (sq (pN 19) (sq (.join [] lf) (sq (pN 11) ll))))) Gc Tryz.func311 rfl rfl (Eq.mp cU x)
theorem sW.walk (Z:aQ h (.cells #[.I d,.U H,.bool c] 360) λb H=>aQ H (.cells #[.I 0,.U 0,.Z,.Z] 262) λi c=>Hi c b 0 λt8=>aQ c (.cells #[.I 0,.U 0,.Z,.Z] 262) λa X=>aa.ST X (AA a 0) t8 0 none 0 0 none 0 0 λk=> ∃t11,Cc k b 2 (.bool t11)/\if(!t11)then bt.LD k (AA b 0) λq' r' s'=>Ce 311 #[.P r 0,.agg #[.I q',.U r',.bool s']] k (λv Y=> ∃x w T,v=.slice x w T/\aO Y (AA a 2) (.slice x w T) λt=>aa.LD t (AA a 0) λt' u' x' w' v' A' z' y'=>aa.ST t (AA i 0) t' u' x' w' v' A' z' y' λu=>aa.LD u (AA i 0) λa' c' i' g' e' o' m' k'=>R (.agg #[.I a',.U c',.slice i' g' e',.slice o' m' k']) u) E else∃(I:aj->Prop)(M:aj->Nat),I k/\∀(m:aj),I m->Cl 310 #[.P r 0] m λP' o=> ∃t19,P'=.bool t19/\if(!t19)then Ce 281 #[.P r 0] o (λQ' P=> ∃y z A,Q'=.agg #[.I y,.U z,.bool A]/\aQ P (.cells #[.I 0,.U 0,.bool false] 360) λj Q=>bt.ST Q (AA j 0) y z A λe=>aG (λ(l:aj)=>Hl l a 2 λG F D=>bt.LD l (AA j 0) λB' C' D'=>Ce 311 #[.P r 0,.agg #[.I B',.U C',.bool D']] l (λR' p=>Vl R' λG' F' E'=>Cc p a 2 (.slice G F D)/\aU Tryz.prog (Builtin.append_ #[22,22] 22 #[.slice G F D,.slice G' F' E']) p λS' S=> ∃O N L,S'=.slice O N L/\aO S (AA a 2) (.slice O N L) λq=>(([]:List Deferred)= []/\I q/\M q<M m)) E) (λJ=>Hi e j 0 λt24=> ∃t26,Cc e b 0 (.I t26)/\if(t24==t26)then Hb e j 2 λt30=>Ce 282 #[.bool (!t30),.I 3] e (λT' U=>T'=.tuple #[]/\([]:List Deferred)= []/\J U) E else Ce 282 #[.bool false,.I 3] e (λU' W=>U'=.tuple #[]/\([]:List Deferred)= []/\J W) E)) E else aa.LD o (AA a 0) λH' I' L' K' J' O' N' M'=>aa.ST o (AA i 0) H' I' L' K' J' O' N' M' λs=>aa.LD s (AA i 0) λb' d' j' h' f' p' n' l'=>R (.agg #[.I b',.U d',.slice j' h' f',.slice p' n' l']) s):hN Tryz.prog 284 #[.P r 0,.agg #[.I d,.U H,.bool c]] h R E:=gZ (lq (lq (sq (lq (cq (lq ll) lf)) (sq (bq (.loop [] (sq (lq (cq lf lf)) (bq (lq (sq (.join [] lf) (pN 8))))))) ll)))) Gc Tryz.func284 rfl rfl (Eq.mp cU Z)
theorem wj.walk (hv:aQ h (.cells #[.I d,.U H,.bool c] 360) λb H=>aQ H (.cells #[.I 0,.U 0,.Z,.Z] 262) λk c=>aQ c (.cells #[.I 0,.U 0,.Z,.Z] 262) λa r'=>aa.ST r' (AA a 0) 4 0 none 0 0 none 0 0 λi=> ∃t10,Cc i b 2 (.bool t10)/\if t10 then∃(I:aj->Prop)(M:aj->Nat),I i/\∀(u:aj),I u->Cl 310 #[.P r 0] u λv l=> ∃t12,v=.bool t12/\if(!t12)then∃m T t,Cc l a 3 (.slice m T t)/\Ce 243 #[.P r 0,.I (wrap .i64 (deep+1))] l (λZ' G=> ∃N O S Q P X W U,Z'=.agg #[.I N,.U O,.slice S Q P,.slice X W U]/\Cc G a 3 (.slice m T t)/\aQ G (.cells #[.I N,.U O,.slice S Q P,.slice X W U] 262) λo' J=>Cc J a 3 (.slice m T t)/\aU Tryz.prog (Builtin.append_ #[260,260] 260 #[.slice m T t,.slice (Sa o' 0) 1 1]) J λOw s'=> ∃a' Z Y,Ow=.slice a' Z Y/\aO s' (AA a 3) (.slice a' Z Y) λx=>(([]:List Deferred)= []/\I x/\M x<M u)) E else aa.LD l (AA a 0) λJ' K' N' M' L' Q' P' O'=>aa.ST l (AA k 0) J' K' N' M' L' Q' P' O' λy=>aa.LD y (AA k 0) λt' v' B' z' x' H' F' D'=>R (.agg #[.I t',.U v',.slice B' z' x',.slice H' F' D']) y else∃t25,Cc i b 1 (.U t25)/\∃c' w b',Cc i r 0 (.slice c' w b')/\∃t34,Cc i r 1 (.I t34)/\Ce 282 #[.bool (decide (t25<=(wrap .u64 (wrap .i64 (((w:Nat):Int) - t34))))),.I 8] i (λOA j=>OA=.tuple #[]/\Cc j r 1 (.I t34)/\Cc j r 0 (.slice c' w b')/\Cc j b 1 (.U t25)/\∃t40,Cc j b 1 (.U t40)/\∃(s:Int->aj->Prop)(L:Int->aj->Nat),s 0 j/\∀(t41:Int)(e:aj),s t41 e->if(decide (t41<t40))then∃q p o,Cc e a 3 (.slice q p o)/\Ce 243 #[.P r 0,.I (wrap .i64 (deep+1))] e (λJO z=> ∃d' e' h' g' f' k' j' i',JO=.agg #[.I d',.U e',.slice h' g' f',.slice k' j' i']/\Cc z a 3 (.slice q p o)/\aQ z (.cells #[.I d',.U e',.slice h' g' f',.slice k' j' i'] 262) λp' A=>Cc A a 3 (.slice q p o)/\aU Tryz.prog (Builtin.append_ #[260,260] 260 #[.slice q p o,.slice (Sa p' 0) 1 1]) A λOS q'=> ∃n' m' l',OS=.slice n' m' l'/\aO q' (AA a 3) (.slice n' m' l') λD=>(([]:List Deferred)= []/\s (wrap .u64 (t41+1)) D/\L (wrap .u64 (t41+1)) D<L t41 e)) E else aa.LD e (AA a 0) λR' S' V' U' T' Y' X' W'=>aa.ST e (AA k 0) R' S' V' U' T' Y' X' W' λF=>aa.LD F (AA k 0) λu' w' C' A' y' I' G' E'=>R (.agg #[.I u',.U w',.slice C' A' y',.slice I' G' E']) F) E):hN Tryz.prog 283 #[.P r 0,.agg #[.I d,.U H,.bool c],.I deep] h R E:=gZ (lq (lq (sq (lq (cq (sq (bq (.loop [] (sq (lq (cq lf lf)) (bq (pN 10))))) ll) lf)) (sq (pN 15) (sq (lq (bq (.loop [(41,.one (.int .u64))] (lq (sq (cq lf lf) (sq (bq (pN 10)) lf)))))) ll))))) Gc Tryz.func283 rfl rfl (Eq.mp cU hv)
theorem od.walk (hv:aQ h (.cells #[.I 0,.U 0,.Z,.Z] 262) λb H=>Ce 281 #[.P r 0] H (λv c=> ∃M N O,v=.agg #[.I M,.U N,.bool O]/\aQ c (.cells #[.I 0,.U 0,.bool false] 360) λa Y=>bt.ST Y (AA a 0) M N O λe=>aG (λ(Z:aj)=>Ce 282 #[.bool (decide (deep<=6)),.I 9] Z (λE' l=>E'=.tuple #[]/\Hi l r 2 λt33=>Ce 282 #[.bool (decide (t33>0)),.I 2] l (λF' m=>F'=.tuple #[]/\∃t39,Cc m r 2 (.I t39)/\aO m (AA r 2) (.I (wrap .i64 (t39 - 1))) λi=> ∃t44,Cc i a 0 (.I t44)/\if(t44==0)then Hu i a 1 λt48=>aa.ST i (AA b 0) 0 t48 none 0 0 none 0 0 λo=>aa.LD o (AA b 0) λa' d' m' j' g' v' s' p'=>R (.agg #[.I a',.U d',.slice m' j' g',.slice v' s' p']) o else if(t44==4)then bt.LD i (AA a 0) λy' z' A'=>Ce 283 #[.P r 0,.agg #[.I y',.U z',.bool A'],.I deep] i (λG' P=> ∃t T s q p x w u,G'=.agg #[.I t,.U T,.slice s q p,.slice x w u]/\aa.ST P (AA b 0) t T s q p x w u λj=>aa.LD j (AA b 0) λb' e' n' k' h' w' t' q'=>R (.agg #[.I b',.U e',.slice n' k' h',.slice w' t' q']) j) E else bt.LD i (AA a 0) λB' C' D'=>Ce 284 #[.P r 0,.agg #[.I B',.U C',.bool D']] i (λH' Q=> ∃y z F D A L I G,H'=.agg #[.I y,.U z,.slice F D A,.slice L I G]/\aa.ST Q (AA b 0) y z F D A L I G λk=>aa.LD k (AA b 0) λc' f' o' l' i' x' u' r'=>R (.agg #[.I c',.U f',.slice o' l' i',.slice x' u' r']) k) E) E) E) (λJ=> ∃t9,Cc e a 0 (.I t9)/\if(t9==0)then Ce 282 #[.bool true,.I 3] e (λI' S=>I'=.tuple #[]/\([]:List Deferred)= []/\J S) E else∃t13,Cc e a 0 (.I t13)/\if(t13==2)then Ce 282 #[.bool true,.I 3] e (λJ' U=>J'=.tuple #[]/\([]:List Deferred)= []/\J U) E else∃t18,Cc e a 0 (.I t18)/\if(t18==3)then Ce 282 #[.bool true,.I 3] e (λK' W=>K'=.tuple #[]/\([]:List Deferred)= []/\J W) E else Hi e a 0 λt23=>Ce 282 #[.bool (t23==4),.I 3] e (λL' X=>L'=.tuple #[]/\([]:List Deferred)= []/\J X) E)) E):hN Tryz.prog 243 #[.P r 0,.I deep] h R E:=gZ (lq (lq (sq (.join [] lf) (lq (lq (lq (sq (lq (bq (lq (cq ll (lq (cq ll lf)))))) ll))))))) Gc Tryz.func243 rfl rfl (Eq.mp cU hv)
theorem qJ.ret.walk(a:aQ h (.cells #[.I 0] 331) λb H=>aO H (AA b 0) (.I 0) λc=>K none c):pO Tryz.prog 242 #[.P c0 0,.P c1 0,.P C 0] none h K:=pP (lq (lq (cq (pN 6) lf))) Tryz.func242 rfl rfl (Eq.mp cU a)
theorem qJ.mC.walk{i:Int}(k:aQ h (.cells #[.I 0] 331) λb H=>aO H (AA b 0) (.I i) λc=>Hi c b 0 λt13=>aa.ST c (AA c0 0) 0 0 none 0 0 none 0 0 λa=>Cc a b 0 (.I t13)/\aO a (AA c1 0) (.I 0) λe=>Cc e b 0 (.I t13)/\aO e (AA C 0) (.I t13) λj=>K none j):pO Tryz.prog 242 #[.P c0 0,.P c1 0,.P C 0] (some (.iface 331 (.agg #[.I i]))) h K:=pP (lq (lq (cq (pN 6) lf))) Tryz.func242 rfl rfl (Eq.mp cU k)
theorem Kj.walk (O:aQ h (.cells #[.I 0,.U 0,.Z,.Z] 262) λb H=>aQ H (.cells #[.I 0] 3) λe c=>aQ c (.cells #[.I 0] 24) λi o=>aG (λ(t15:Bool) (p:aj)=>if t15 then aa.ST p (AA b 0) 0 0 none 0 0 none 0 0 λG=>aO G (AA e 0) (.I 0) λI=>aO I (AA i 0) (.I 1) λj=>aa.LD j (AA b 0) λP U e' b' Y n' k' h'=>Hi j e 0 λr1=> ∃r2,Cc j i 0 (.I r2)/\R (.tuple #[.agg #[.I P,.U U,.slice e' b' Y,.slice n' k' h'],.I r1,.I r2]) j else aQ p (.cells #[.slice f B g,.I V,.I 256] 335) λk L=>Ce 243 #[.P k 0,.I 1] L (λv M=> ∃t T x w u A z y,v=.agg #[.I t,.U T,.slice x w u,.slice A z y]/\aa.ST M (AA b 0) t T x w u A z y λl=>aa.LD l (AA b 0) λs' t' w' v' u' z' y' x'=>Hi l k 1 λt28=>aa.ST l (AA b 0) s' t' w' v' u' z' y' x' λm=>Cc m k 1 (.I t28)/\aO m (AA e 0) (.I t28) λD=>aO D (AA i 0) (.I 0) λF=>pO Tryz.prog 242 #[.P b 0,.P e 0,.P i 0] none F (Le (λa=>aa.LD a (AA b 0) λQ W f' c' Z o' l' i'=>Hi a e 0 λq'=> ∃q,Cc a i 0 (.I q)/\R (.tuple #[.agg #[.I Q,.U W,.slice f' c' Z,.slice o' l' i'],.I q',.I q]) a) E)) (λv_ N=>pO Tryz.prog 242 #[.P b 0,.P e 0,.P i 0] (some v_) N (Le (λa=>aa.LD a (AA b 0) λS X g' d' a' p' m' j'=>Hi a e 0 λr'=> ∃s,Cc a i 0 (.I s)/\R (.tuple #[.agg #[.I S,.U X,.slice g' d' a',.slice p' m' j'],.I r',.I s]) a) E))) (λJ=>if(decide (V<0))then([]:List Deferred)= []/\J true o else([]:List Deferred)= []/\J (decide (V>(B:Int))) o)):hN Tryz.prog 193 #[.slice f B g,.I V] h R E:=gZ (lq (sq (sq (.join [(15,.one (.bool))] lf) (cq ll lf)) (lq (lq (lq (sq (pN 8) lf)))))) Gc Tryz.func193 rfl rfl (Eq.mp cU O)
theorem AN.walk(u:Cl 193 #[.slice f B g,.I 0] h λv H=> ∃t T j i e m l k o p,v=.tuple #[.agg #[.I t,.U T,.slice j i e,.slice m l k],.I o,.I p]/\aQ H (.cells #[.I 0,.U 0,.Z,.Z] 262) λb c=>aa.ST c (AA b 0) t T j i e m l k λa=>if(p==0)then if(o==(B:Int))then aa.LD a (AA b 0) λw x A z y G F D=>Cl 208 #[.Z,.agg #[.I w,.U x,.slice A z y,.slice G F D]] a λM q=>Vl M λL J I=>Cl 82 #[.slice L J I,.slice f B g] q λN s=> ∃t24,N=.bool t24/\R (.bool t24) s else R (.bool false) a else R (.bool false) a):Cl 314 #[.slice f B g] h R:=aN (lq (lq ll)) Tryz.func314 u
theorem CY.walk{m:Int}(a:if(decide (m≥2))then if(decide (m<=5))then R (.bool true) h else R (.bool (m==7)) h else R (.bool (m==7)) h):Cl 317 #[.I m] h R:=aN (lq ll) Tryz.func317 a
theorem GS.walk(a:aQ h (.cells #[.I d,.U H,.bool c] 360) λb H=> ∃t4,Cc H b 2 (.bool t4)/\if t4 then bt.LD H (AA b 0) λt T e=>Hi H b 0 λt7=> ∃(eq:Bool),xO Tryz.prog 360 (.agg #[.I t,.U T,.bool e]) (.agg #[.I t7,.U 0,.bool true]) eq/\if eq then Hi H b 0 λt12=>Cl 317 #[.I t12] H λv c=> ∃t13,v=.bool t13/\R (.bool t13) c else R (.bool false) H else∃t16,Cc H b 0 (.I t16)/\if(decide (t16≥0))then∃t20,Cc H b 0 (.I t20)/\R (.bool (decide (t20<=7))) H else R (.bool false) H):Cl 299 #[.agg #[.I d,.U H,.bool c]] h R:=aN (lq (sq (lq (cq ll lf)) ll)) Tryz.func299 a
theorem EJ.walk(a:if(decide (n<24))then R (.I 0) h else if(decide (n<256))then R (.I 1) h else if(decide (n<65536))then R (.I 2) h else if(decide (n<4294967296))then R (.I 4) h else R (.I 8) h):Cl 301 #[.U n] h R:=aN (lq (sq (bq (lq (cq ll (lq (cq ll (lq (cq ll (lq (cq ll lf))))))))) ll)) Tryz.func301 a
theorem Kk.walk(a:Cl 301 #[.U n] h λv H=> ∃t4,v=.I t4/\if(t4==1)then R (.int .u8 24) H else if(t4==2)then R (.int .u8 25) H else if(t4==4)then R (.int .u8 26) H else if(t4==8)then R (.int .u8 27) H else R (.int .u8 (wrap .u8 n)) H):Cl 300 #[.U n] h R:=aN (lq (sq (lq (bq (lq (cq ll (lq (cq ll (lq (cq ll (lq (cq ll lf)))))))))) ll)) Tryz.func300 a
theorem GU.walk (y:aQ h (.cells #[.I d,.U H,.bool c] 360) λb H=>bt.LD H (AA b 0) λz A D=>Cl 299 #[.agg #[.I z,.U A,.bool D]] H λv c=> ∃t9,v=.bool t9/\if(!t9)then R (.tuple #[.Z,.I 3]) c else∃t13,Cc c b 2 (.bool t13)/\if t13 then Hi c b 0 λt15=>aQ c (.cells #[.int .u8 (wrap .u8 ((pB (wrap .u8 ((wrap .u8 t15)*2 ^ min (toNat 5) (IntKind.bits .u8)))|||pB 31).toNat:Int))] 5) λp u=>R (.tuple #[.slice (Sa p 0) 1 1,.I 0]) u else Hi c b 0 λt21=>Hu c b 1 λt25=>Cl 300 #[.U t25] c λF k=> ∃t26,F=.int .u8 t26/\Cc k b 0 (.I t21)/\aQ k (.cells #[.int .u8 (wrap .u8 ((pB (wrap .u8 ((wrap .u8 t21)*2 ^ min (toNat 5) (IntKind.bits .u8)))|||pB t26).toNat:Int))] 5) λq i=>Cc i b 0 (.I t21)/\Hu i b 1 λt30=>Cl 301 #[.U t30] i λG w=>Vi G λt31=> ∃(I:cg->Nat->Nat->Int->aj->Prop)(m:cg->Nat->Nat->Int->aj->Nat),I (Sa q 0) 1 1 0 w/\∀(e:cg)(O o:Nat)(t33:Int)(a:aj),I e O o t33 a->if(decide (t33<t31))then∃t38,Cc a b 1 (.U t38)/\if wrap .i64 (8*(wrap .i64 ((wrap .i64 (t31 - 1)) - t33)))<0 then False else aQ a (.cells #[.int .u8 (wrap .u8 (Int.fdiv t38 (2 ^ min (toNat (wrap .i64 (8*(wrap .i64 ((wrap .i64 (t31 - 1)) - t33))))) (IntKind.bits .u64))))] 5) λs x=>aU Tryz.prog (Builtin.append_ #[22,22] 22 #[.slice e O o,.slice (Sa s 0) 1 1]) x λJ l=> ∃j T t,J=.slice j T t/\(I j T t (wrap .i64 (t33+1)) l/\m j T t (wrap .i64 (t33+1)) l<m e O o t33 a)else R (.tuple #[.slice e O o,.I 0]) a):Cl 261 #[.agg #[.I d,.U H,.bool c]] h R:=aN (lq (sq (bq (lq (cq ll (lq (cq ll lf))))) (sq (pN 10) (lq (sq (lq (bq (.loop [(4,.one (.slice)),(33,.one (.int .i64))] (lq (sq (cq lf lf) (sq (bq ll) lf)))))) ll))))) Tryz.func261 y
theorem Kl.walk (G:aQ h (.cells #[.I 0,.U 0,.bool false] 360) λb H=>aG (λ(t11:Bool) (c:aj)=>if t11 then bt.ST c (AA b 0) 0 0 false λu=>bt.LD u (AA b 0) λL U c'=>R (.tuple #[.agg #[.I L,.U U,.bool c'],.I 0,.I 1]) u else if(V==(B:Int))then bt.ST c (AA b 0) 0 0 false λw=>bt.LD w (AA b 0) λN W d'=>R (.tuple #[.agg #[.I N,.U W,.bool d'],.I 0,.I 8]) w else Bd V B/\aM f λa=>HR c (a.add (toNat V*1)) λt30=>aQ c (.cells #[.I 0,.U 0,.bool false] 360) λe F=>bt.ST F (AA e 0) (wrap .i64 (Int.fdiv t30 (2 ^ min (toNat 5) (IntKind.bits .u8)))) 0 false λj=>Bd V B/\aM f λA=> ∃t37,aX j (A.add (toNat V*1))=some (.int .u8 t37)/\if(decide ((wrap .u8 ((pB t37 &&& pB 31).toNat:Int))<24))then aO j (AA e 1) (.U (wrap .u64 (wrap .u8 ((pB t37 &&& pB 31).toNat:Int)))) λx=>bt.LD x (AA e 0) λj' k' l'=>bt.ST x (AA b 0) j' k' l' λy=>bt.LD y (AA b 0) λO X e'=>R (.tuple #[.agg #[.I O,.U X,.bool e'],.I (wrap .i64 (V+1)),.I 0]) y else aG (λ(t49:Bool) (k:aj)=>if t49 then aO k (AA e 2) (.bool true) λm=>bt.LD m (AA e 0) λm' n' o'=>bt.ST m (AA b 0) m' n' o' λo=>bt.LD o (AA b 0) λP Y f'=>R (.tuple #[.agg #[.I P,.U Y,.bool f'],.I (wrap .i64 (V+1)),.I 0]) o else if(decide ((wrap .u8 ((pB t37 &&& pB 31).toNat:Int))>27))then bt.ST k (AA b 0) 0 0 false λp=>bt.LD p (AA b 0) λQ Z g'=>R (.tuple #[.agg #[.I Q,.U Z,.bool g'],.I 0,.I 3]) p else if wrap .u8 ((wrap .u8 ((pB t37 &&& pB 31).toNat:Int)) - 24)<0 then False else if(decide ((wrap .i64 (1*2 ^ min (toNat (wrap .u8 ((wrap .u8 ((pB t37 &&& pB 31).toNat:Int)) - 24))) (IntKind.bits .i64)))>(wrap .i64 ((B:Int) - (wrap .i64 (V+1))))))then bt.ST k (AA b 0) 0 0 false λq=>bt.LD q (AA b 0) λS a' h'=>R (.tuple #[.agg #[.I S,.U a',.bool h'],.I 0,.I 8]) q else∃(I:Int->aj->Prop)(M:Int->aj->Nat),I 0 k/\∀(t75:Int)(i:aj),I t75 i->if(decide (t75<(wrap .i64 (1*2 ^ min (toNat (wrap .u8 ((wrap .u8 ((pB t37 &&& pB 31).toNat:Int)) - 24))) (IntKind.bits .i64)))))then Hu i e 1 λt79=>Bd (wrap .i64 ((wrap .i64 (V+1))+t75)) B/\aM f λz=> ∃t86,aX i (z.add (toNat (wrap .i64 ((wrap .i64 (V+1))+t75))*1))=some (.int .u8 t86)/\aO i (AA e 1) (.U (wrap .u64 ((mM (wrap .u64 (t79*2 ^ min (toNat 8) (IntKind.bits .u64)))|||mM (wrap .u64 t86)).toNat:Int))) λs=>(I (wrap .i64 (t75+1)) s/\M (wrap .i64 (t75+1)) s<M t75 i)else bt.LD i (AA e 0) λp' q' r'=>bt.ST i (AA b 0) p' q' r' λt=>bt.LD t (AA b 0) λT b' i'=>R (.tuple #[.agg #[.I T,.U b',.bool i'],.I (wrap .i64 ((wrap .i64 (V+1))+(wrap .i64 (1*2 ^ min (toNat (wrap .u8 ((wrap .u8 ((pB t37 &&& pB 31).toNat:Int)) - 24))) (IntKind.bits .i64))))),.I 0]) t) (λl=>if((wrap .u8 ((pB t37 &&& pB 31).toNat:Int))==31)then Hi j e 0 λt54=>Cl 317 #[.I t54] j λv D=> ∃t55,v=.bool t55/\l t55 D else l false j)) (λJ=>if(decide (V<0))then J true H else J (decide (V>(B:Int))) H)):Cl 309 #[.slice f B g,.I V] h R:=aN (lq (sq (bq (sq (.join [(11,.one (.bool))] lf) (cq ll (lq (cq ll lf))))) (lq (lq (lq (sq (bq (lq (cq (lq ll) (sq (.join [(49,.one (.bool))] lf) (cq (lq ll) (lq (cq ll lf))))))) (lq (sq (lq (cq ll lf)) (sq (lq (bq (.loop [(75,.one (.int .i64))] (lq (sq (cq lf lf) (sq (bq (lq (pN 13))) lf)))))) ll))))))))) Tryz.func309 G

end
section
namespace Cb
variable {h h':aj} {R E:fj} {p:cg} {r l c:Nat} {bs:cH}
variable {pos left:Nat}
abbrev OT(e:Int):Value:=.iface 331 (.agg #[.int .i64 e])
structure uY (h:aj) (r:Nat) (p:cg) (c:Nat) (bs:cH) (pos left:Nat):Prop where
 cQ:h[r]? =some (.cells #[.slice p bs.length c,.int .i64 (pos:Int),.int .i64 (left:Int)] 335 (0,0))
 row:Row h p (bc bs)
 cap:bs.length<=c
 pos:pos<=bs.length
 ap:bs≠ []->¬aL p r
 len:bs.length<=1000000
 left:left<=1000000
theorem gM{q:Bool}{e:Int}(k:q=true->R (.tuple #[]) h)(K:q=false->E (OT e) h):hN Tryz.prog 282 #[.bool q,.I e] h R E:=by
 refine Ki.walk ?_;cases q with
 |true=>rw[dj];exact k rfl
 |false=>rw[fY];exact K rfl
theorem uY.frame{Q:Nat->Prop}(H:uY h r p c bs pos left)(f:Fr Q h h')(d: ¬Q r)(g: ∀y,aL p y->bs≠ []->¬Q y):uY h' r p c bs pos left:=by
 refine⟨f.get H.cQ d,?_,H.cap,H.pos,H.ap,H.len,H.left⟩;by_cases e:bs= []
 .subst e;exact Row.nil
 .exact H.row.frame f (λa b=>g _ ⟨a,b,rfl⟩ e)
theorem uY.on(H:uY h r p c bs pos left)(f:Fr No h h'):uY h' r p c bs pos left:=H.frame f id (λ_ _ _=>id)
theorem uY.set{pos' left':Nat}(H:uY h r p c bs pos left)(j:pos'<=bs.length)(i:left'<=1000000)(d1:h'[r]? =some (.cells #[.slice p bs.length c,.I (pos':Int),.I (left':Int)] 335 (0,0)))(d2:h'.size=h.size)(d3: ∀x,x≠r->h'[x]? =h[x]?):
  uY h' r p c bs pos' left'/\Fr (λy=>y=r) h h':=by
 have f:Fr (λy=>y=r) h h':=Fr.of_eq d2 (λc g=>d3 c g);refine⟨⟨d1,?_,H.cap,j,H.ap,H.len,i⟩,f⟩;by_cases e:bs= []
 .subst e;exact Row.nil
 .exact H.row.frame f (λa d b=>H.ap e ⟨a,d,b⟩)
theorem Ix(H:uY h r p c bs pos left)(K: ∀h',tR bs pos=true->pos<bs.length->uY h' r p c bs (pos+1) left->Fr (λy=>y=r) h h'->R (.bool true) h')(k:tR bs pos=false->R (.bool false) h):Cl 310 #[.P r 0] h R:=by
 have b:=H.cQ;have m:=H.len;refine wi.walk (aG.of λJ g=>⟨_,ak b,_,_,_,ak b,?_⟩);by_cases d:pos<bs.length
 .rw[fY];obtain⟨a,rfl⟩:=H.row.some (by cases bs with|nil=>simp at d|cons=>simp[bc]);have j:(bc bs)[pos]? =some (.int .u8 ((bs[pos]).toNat:Int)):=by unfold bc;rw[aI,ai d];rfl
  have C:=H.row.cell j;have f:tR bs pos=decide ((bs[pos]).toNat=255):=by unfold tR;rw[ai d]
  generalize (bs[pos]).toNat=x at C f;refine⟨_,_,_,ak b,_,ak b,af,ay.2 ⟨_,by rw[aD,cv];exact C,?_⟩⟩;subst g;dsimp only;split
  .rename_i q;refine⟨_,ak b,bH b (by show 1<3;omega) λi d1 d2 d3=> ?_⟩;rw[bA af af]at d1;obtain⟨q1,q2⟩:=H.set (pos':=pos+1) af H.left d1 d2 d3;exact K i (by rw[f];have:=eq_of_beq q;exact au af) d q1 q2
  .rename_i q;exact k (by rw[f];exact az λe=>q (by rw[e];rfl))
 .rw[ae (λe=>d (bX (aP e)))];subst g;dsimp only;rw[dj];exact k (by unfold tR;rw[dA af])
theorem GV{m:Nat}(hk:R (.bool (qb m)) h):Cl 317 #[.I (m:Int)] h R:=by
 refine CY.walk ?_;have a:((m:Int)==7)=decide (m=7):=by
  by_cases e:m=7
  .subst e;rfl
  .rw[az e,dC];omega
 have hk: ∀q,q=qb m->R (.bool q) h:=λq e=>by rw[e];exact hk
 unfold qb at hk;rw[a];split
 .rename_i q2;split
  .rename_i Q;exact hk _ (by rw[au];rfl;have:=aP q2;have:=aP Q;omega)
  .rename_i Q;exact hk _ (by rw[az (p:=2<=m/\m<=5)];rfl;intro e;exact Q (au af))
 .rename_i q2;exact hk _ (by rw[az (p:=2<=m/\m<=5)];rfl;intro e;exact q2 (au af))
theorem byte_at(b:Row h p (bc bs)){i:Nat}(H:i<bs.length): ∃a,p=some a/\aX h (a.add (i*1))=some (.int .u8 ((bs[i]).toNat:Int)):=by
 obtain⟨a,rfl⟩:=b.some (by cases bs with|nil=>simp at H|cons=>simp[bc]);exact⟨a,rfl,by rw[cv];exact b.cell (v:=.int .u8 ((bs[i]).toNat:Int)) (by unfold bc;rw[aI,ai H];rfl)⟩
theorem UM: ∀x:Fin 256,IntKind.wrap .i64 (Int.fdiv (x.val:Int) (2 ^ min (Int.toNat 5) (IntKind.bits .u8)))=((x.val/32:Nat):Int):=dH
theorem R2: ∀x:Fin 256,IntKind.wrap .u8 ((BitVec.ofInt (IntKind.bits .u8) (x.val:Int) &&& BitVec.ofInt (IntKind.bits .u8) 31).toNat:Int)=((x.val%32:Nat):Int):=dH
theorem xX{n:Nat}(h:n<18446744073709551616):IntKind.wrap .u64 (n:Int)=(n:Int):=by
 have e:IntKind.wrap .u64 (n:Int)=(n:Int)%18446744073709551616:=by simp[IntKind.wrap,IntKind.bits,IntKind.signed]
 rw[e];omega
theorem Qp{v y:Nat}(H:v<72057594037927936)(a:y<256):IntKind.wrap .u64 ((BitVec.ofInt (IntKind.bits .u64) (IntKind.wrap .u64 ((v:Int)*2 ^ min (Int.toNat 8) (IntKind.bits .u64)))|||BitVec.ofInt (IntKind.bits .u64) (IntKind.wrap .u64 (y:Int))).toNat:Int)=((v*256+y:Nat):Int):=by
 have e1:(v:Int)*2 ^ min (Int.toNat 8) (IntKind.bits .u64)=((v*256:Nat):Int):=by
  rw[show(2:Int) ^ min (Int.toNat 8) (IntKind.bits .u64)=256 from rfl];omega
 rw[e1,xX (n:=v*256) af,xX (n:=y) af];have e2:((BitVec.ofInt (IntKind.bits .u64) ((v*256:Nat):Int)|||BitVec.ofInt (IntKind.bits .u64) (y:Int)).toNat)=v*256+y:=by
  rw[BitVec.toNat_or,BitVec.ofInt_natCast,BitVec.ofInt_natCast,BitVec.toNat_ofNat,BitVec.toNat_ofNat];rw[show(2:Nat) ^ IntKind.bits .u64=18446744073709551616 from rfl,fW af,fW af];have:=Nat.two_pow_add_eq_or_of_lt (i:=8) (b:=y) af v;rw[show(2:Nat) ^ 8=256 from rfl]at this;rw[fS v 256];exact this.symm
 rw[e2];exact xX af
theorem EK(O:Row h p (bc bs))(hl:l=bs.length)(i':bs.length<=1000000)(hp:pos<=bs.length)(k1: ∀h' (m n next:Nat) (o:Bool),Ds bs pos=.ok (m,n,o,next)->Fr No h h'->R (.tuple #[.agg #[.I (m:Int),.U (n:Int),.bool o],.I (next:Int),.I 0]) h')(k2: ∀h' e,Ds bs pos=.error e->Fr No h h'->e≠0->R (.tuple #[.agg #[.I 0,.U 0,.bool false],.I 0,.I e]) h'):Cl 309 #[.slice p l c,.I (pos:Int)] h R:=by
 subst hl;refine Kl.walk (bt.box λb s eb D f1=>aG.of λf' Z=> ?_);rw[dj,az af];subst Z;dsimp only;rw[dj];have zb:=aC D;have err: ∀g e,Fr No s g->Ds bs pos=.error e->e≠0->bt.ST g (AA b 0) 0 0 false λj=>bt.LD j (AA b 0) λJ r1 r2=>R (.tuple #[.agg #[.I J,.U r1,.bool r2],.I 0,.I e]) j:=λg e F hx w=>
  bt.set (F.get D id) λj d1 d2 d3=>bt.ld d1 (k2 j e hx ((f1.tt F).fresh (Fr.of_eq (S:=λy=>y=b) d2 (λc d=>d3 c d)) (λy e=>af)) w)
 by_cases w:pos=bs.length
 .rw[ag (by rw[w];simp)];exact err s 8 (Fr.refl _ _) (by unfold Ds;rw[dA af]) dH
 rw[ae (λe=>w (bX (eq_of_beq e)))];have L:pos<bs.length:=af
 obtain⟨a,rfl,B⟩:=byte_at O L;have H:Ds bs pos=Ds bs pos:=rfl;conv at H=>rhs;unfold Ds;rw[ai L]
 dsimp only at H;have X:=(bs[pos]).toNat_lt;generalize (bs[pos]).toNat=x at B H X;refine⟨af,ay.2 ⟨_,f1.cell (by rw[aD];exact B) id,bt.new λb1 u g' k f2=>⟨af,ay.2 ⟨_,(f1.tt f2).cell (by rw[aD];exact B) id,?_⟩⟩⟩⟩;have j':=aC k;have z2:=f2.1;have z1:=f1.1;rw[UM ⟨x,X⟩]at k;rw[R2 ⟨x,X⟩];rw[show(⟨x,X⟩:Fin 256).val=x from rfl]at k⊢;have e':x/32<8:=af
 generalize em:x/32=m at k H e';have Y:x%32<32:=af
 generalize x%32=f at H Y⊢;rw[bA (n:=(pos:Int)+1) af af];have ok: ∀g (n next:Nat) (o:Bool),bt.at g b1 (m:Int) (n:Int) o->bt.at g b 0 0 false->Fr No h g->Ds bs pos=.ok (m,n,o,next)->
   bt.LD g (AA b1 0) λt0 t1 t2=>bt.ST g (AA b 0) t0 t1 t2 λv=>bt.LD v (AA b 0) λJ r1 r2=>R (.tuple #[.agg #[.I J,.U r1,.bool r2],.I (next:Int),.I 0]) v:=λg n next o q1 q2 F s=>
  bt.ld q1 (bt.set q2 λv d1 d2 d3=>bt.ld d1 (k1 v m n next o s (F.fresh (Fr.of_eq (S:=λy=>y=b) d2 (λc d=>d3 c d)) (λy e=>af))))
 have z:=f1.tt f2;have G:=f2.get D id;by_cases C:f<24
 .rw[fY];rw[ag C]at H;refine bH k (by show 1<3;omega) λj d1 d2 d3=> ?_
  rw[xX af]at d1;exact ok j f (pos+1) false d1 ((d3 b af).trans G) (z.fresh (Fr.of_eq (S:=λy=>y=b1) d2 (λc d=>d3 c d)) (λy e=>af)) H
 rw[ae (λe=>C (bX (aP e)))];rw[ae C]at H;refine aG.of λP b'=> ?_
 have rest: ∀q,q=decide (f=31/\qb m=true)->P q u:=by
  intro q M;subst b';dsimp only;cases q with
  |true=>
   rw[ag rfl];rw[ag (aP M.symm)]at H;refine bH k (by show 2<3;omega) λj d1 d2 d3=> ?_
   exact ok j 0 (pos+1) true d1 ((d3 b af).trans G) (z.fresh (Fr.of_eq (S:=λy=>y=b1) d2 (λc d=>d3 c d)) (λy e=>af)) H
  |false=>
   rw[dj];rw[ae (fC M.symm)]at H;by_cases A:f>27
   .rw[fY];rw[ag A]at H;exact err u 3 f2 H dH
   rw[ae (λe=>A (bX (aP e)))];rw[ae A]at H;have T:IntKind.wrap .u8 ((f:Int) - 24)=(f:Int) - 24:=wrap_u8 af af;rw[T,dj];obtain⟨N,U,lN,gN,V⟩: ∃N:Nat,IntKind.wrap .i64 (1*2 ^ min (Int.toNat ((f:Int) - 24)) (IntKind.bits .i64))=(N:Int)/\N<=8/\1<=N/\2 ^ (f - 24)=N:=by
    have:f=24\/f=25\/f=26\/f=27:=af
    rcases this with rfl|rfl|rfl|rfl
    .exact⟨1,cU,af,af,rfl⟩
    .exact⟨2,cU,af,af,rfl⟩
    .exact⟨4,cU,af,af,rfl⟩
    .exact⟨8,cU,af,af,rfl⟩
   rw[V]at H;rw[U,bA (n:=(bs.length:Int) - ((pos:Int)+1)) af af];by_cases cs:(N:Int)>(bs.length:Int) - ((pos:Int)+1)
   .rw[ag (au cs)];rw[fY]at H;exact err u 8 f2 H dH
   rw[ae (λe=>cs (aP e))];rw[dj]at H;refine⟨λt g=> ∃i:Nat,t=(i:Int)/\i<=N/\bt.at g b1 (m:Int) (Pp ((bs.drop (pos+1)).take i):Int) false/\Fr (λy=>y=b1) u g,λt _=>N - t.toNat,⟨0,rfl,bL _,by rw[eh];exact k,Fr.refl _ _⟩,?_⟩;rintro _ g ⟨i,rfl,hi,I,F⟩;have K:Fr No h g:=z.fresh F (λy e=>af);by_cases c':i<N
   .rw[fY,bA (n:=(pos:Int)+1+(i:Int)) af af];obtain⟨a',W,Q⟩:=byte_at O (i:=pos+1+i) af;cases W;refine⟨_,ak I,af,ay.2 ⟨_,by rw[show Int.toNat ((pos:Int)+1+(i:Int))=pos+1+i by omega];exact K.cell Q id,?_⟩⟩;have hv:=LF ((bs.drop (pos+1)).take i);have d':=fH (n:=256) af (show((bs.drop (pos+1)).take i).length<=7 by rw[bE];omega);rw[show(256:Nat) ^ 7=72057594037927936 from rfl]at d';refine bH I (by show 1<3;omega) λg2 d1 d2 d3=> ?_
    rw[Qp af (bs[pos+1+i]).toNat_lt,<-D3]at d1;rw[bA (n:=(i:Int)+1) af af];refine⟨⟨i+1,af,af,?_,F.tt (Fr.of_eq d2 (λc d=>d3 c d))⟩,by show N - Int.toNat ((i:Int)+1)<N - Int.toNat (i:Int);omega⟩;rw[bD,ff,ai af];exact d1
   .rw[ae (λe=>c' (bX (aP e)))];obtain rfl:i=N:=af
    rw[bA (n:=(pos:Int)+1+(i:Int)) af af,show(pos:Int)+1+(i:Int)=((pos+1+i:Nat):Int) by omega];exact ok g _ (pos+1+i) false I (F.get G af) K H
 split
 .rename_i q;have q:f=31:=by have:=eq_of_beq q;omega
  refine⟨_,ak k,GV ⟨_,rfl,rest _ (by rw[q];simp)⟩⟩
 .rename_i q;exact rest false (by rw[eq_comm,eL];intro e;exact q (by rw[e.1];decide))

end Cb
end
section
namespace Cb
variable {h h':aj} {R E:fj} {p:cg} {r c:Nat} {bs:cH} {pos left:Nat}
theorem zL(H:uY h r p c bs pos left)(M: ∀h' (m n next:Nat) (o:Bool),Ds bs pos=.ok (m,n,o,next)->uY h' r p c bs next left->Fr (λy=>y=r) h h'->R (.agg #[.I (m:Int),.U (n:Int),.bool o]) h')(N: ∀h' e,Ds bs pos=.error e->Fr No h h'->E (OT e) h'):hN Tryz.prog 281 #[.P r 0] h R E:=by
 refine wh.walk (bt.box λb l O w f1=>aG.of λJ v=> ?_);have a:=H.on f1;have U:=aC H.cQ;have T:=aC w;have done: ∀g b1 (m n next:Nat) (o:Bool),bt.at g b1 (m:Int) (n:Int) o->l.size<=b1->Fr No l g->Ds bs pos=.ok (m,n,o,next)->J (Sa b1 0) (next:Int) 0 g:=by
  intro g b1 m n next o k Z f q1;have q2:=(yB q1).2.1;subst v;have t:=a.on f;refine gM (λ_=>⟨rfl,bH t.cQ (by show 1<3;omega) λC d1 d2 d3=> ?_⟩) (λe=>absurd e dH);obtain⟨z,f5⟩:=t.set (pos':=next) q2 H.left d1 d2 d3;have D:=(d3 b1 (bX f1.1)).trans k;have I:=(d3 b (bX f1.1)).trans (f.get w id);refine ay.2 (bt.ld D (bt.set I λu e1 e2 A=>bt.ld e1 ?_));have f6:Fr (λy=>y=b) C u:=Fr.of_eq e2 (λc j=>A c j);refine M u m n next o q1 (z.frame f6 af (λy L e d=> ?_)) ?_
  .have:=iI H.row (by cases K:bs with|nil=>exact absurd K e|cons=>simp[bc]) L;omega
  .exact(Fr.no (f1.tt f) f5).trans f6 cu (λx i e=>af)
 have fail: ∀g b1 e,Fr No l g->Ds bs pos=.error e->e≠0->J (Sa b1 0) 0 e g:=by
  intro g b1 e f i d;subst v;exact gM (λq=>absurd (cy q) d) (λ_=>N g e i (f1.tt f))
 refine⟨_,_,_,ak a.cQ,_,ak a.cQ,?_,?_,trivial⟩
 .refine EK a.row rfl H.len H.pos (λg m n next o q1 f=>⟨_,_,_,_,_,rfl,bt.new λb1 G e1 k F=>⟨rfl,done G b1 m n next o k (bX f.1) (f.tt F) q1⟩⟩) (λg e i f d=>⟨_,_,_,_,_,rfl,bt.new λb1 G e1 k F=>⟨rfl,fail G b1 e (f.tt F) i d⟩⟩)
 .refine bt.box λB P e2 s f10=>⟨cE (a.on f10).cQ rfl,cE (a.on f10).cQ rfl,?_⟩
  have Q:=aC s;refine EK (a.on f10).row rfl H.len H.pos (λg m n next o q1 f=>⟨_,_,_,_,_,rfl,bt.set (f.get s id) λG d1 d2 d3=>⟨rfl,done G B m n next o d1 af ((f10.tt f).fresh (Fr.of_eq (S:=λy=>y=B) d2 (λc j=>d3 c j)) (λy e=>af)) q1⟩⟩) (λg e i f d=>⟨_,_,_,_,_,rfl,bt.set (f.get s id) λG d1 d2 d3=>⟨rfl,fail G B e ((f10.tt f).fresh (Fr.of_eq (S:=λy=>y=B) d2 (λc j=>d3 c j)) (λy e=>af)) i d⟩⟩)

end Cb
end
section
namespace Cb
variable {V:cH→Bool} {h h0 h':aj} {R E:fj} {p:cg} {r l c:Nat} {bs:cH} {pos left:Nat}
variable {c0 c1 C:Nat} {K:Option Value->aj->Prop}
def mE(V:cH->Bool)(h0:aj):Prop:= ∀(g:aj)(p:cg)(c:Nat)(bs:cH)(R:fj),Fr No h0 g->Row g p (bc bs)->bs.length<=1000000->bs.length<=c->(∀G,Fr No g G->R (.bool (V bs)) G)->Cl 316 #[.slice p bs.length c] g R
theorem EL {m n : Nat} {o : Bool} (U : mE V h0) (u : Fr No h0 h) (H : uY h r p c bs pos left) (hn : n < 18446744073709551616)
    (k1 : ∀ h' (v : BV), mf V bs pos m n = .ok v.b → v.ok h' (λy => h.size ≤ y) → v.b.length = n → pos + n ≤ bs.length → uY h' r p c bs (pos + n) left → Fr (λy => y = r) h h' → R v.val h')
    (kE : ∀ h' e, mf V bs pos m n = .error e → Fr No h h' → E (OT e) h') : hN Tryz.prog 311 #[.pointer (some ⟨r, 0, none⟩), .agg #[.int .i64 (m : Int), .int .u64 (n : Int), .bool o]] h R E := by
  refine uT.walk (bt.box λb h1 eb hb f1 => ?_)
  have H1 := H.on f1
  have zr := aC H.cQ
  have zb := aC hb
  have hp := H.pos
  have hlen := H.len
  have UN := H.cap
  refine ⟨_, cE hb rfl, _, _, _, cE H1.cQ rfl, _, cE H1.cQ rfl, ?_⟩
  rw [bA (n := ((bs.length : Nat) : Int) - (pos : Int)) (by omega) (by omega), wrap_u64 (by omega) (by omega)]
  refine gM (λhq => ?_) (λhq => kE h1 8 (by have := of_decide_eq_false hq; unfold mf; rw [if_neg (by omega)]) f1)
  have hq : pos + n ≤ bs.length := by have := of_decide_eq_true hq; omega
  have eD : (bs.take (pos + n)).drop pos = (bs.drop pos).take n := by rw [List.take_drop]
  have e1 : IntKind.wrap .i64 ((pos : Int) + (IntKind.wrap .i64 (n : Int))) = ((pos + n : Nat) : Int) := by rw [bA (n := (n : Int)) (by omega) (by omega), bA (by omega) (by omega)]; omega
  refine ⟨rfl, cE H1.cQ rfl, cE H1.cQ rfl, cE hb rfl, _, _, _, cE H1.cQ rfl, _, cE H1.cQ rfl, _, cE H1.cQ rfl, _, cE hb rfl, ⟨by rw [e1]; omega, by rw [e1]; omega⟩, ⟨by omega, by rw [e1]; omega⟩, ?_⟩
  rw [e1]
  have row : Row h1 (cK p c (Int.toNat (pos : Int)) 1) (bc ((bs.take (pos + n)).drop pos)) := by
    have := H1.row.sub (cap := c) (l := pos) (u := pos + n) (sz := 1) (by omega) (by omega)
    rw [Nat.mul_one, Nat.mul_one] at this
    rw [Int.toNat_natCast]
    unfold bc at this ⊢
    rw [List.map_drop, List.map_take]
    exact this
  have ln : ((bs.take (pos + n)).drop pos).length = n := by rw [List.length_drop, List.length_take]; omega
  refine iD.hC row (by rw [ln]; omega) (by rw [ln]; omega) λp' c' h3 o3 f3 g3 => ⟨_, _, _, rfl, cE (f3.get hb id) rfl, cE (H1.on f3).cQ rfl, cE (H1.on f3).cQ rfl, cE (H1.on f3).cQ rfl, aG.of λJ hJ => ⟨_, cE (f3.get hb id) rfl, ?_⟩⟩
  have done : ∀ g, Fr No h3 g → (m ≠ 3 ∨ V ((bs.drop pos).take n) = true) → J g := by
    intro g fg hv
    subst hJ
    have Hg := (H1.on f3).on fg
    have UO := (f3.tt fg).get hb id
    refine ⟨_, cE Hg.cQ rfl, _, cE UO rfl, bH Hg.cQ (by show 1 < 3; omega) λh5 d1 d2 d3 => ?_⟩
    rw [e1] at d1
    obtain ⟨H5, f5⟩ := Hg.set (pos' := pos + n) hq H.left d1 d2 d3
    have ov := (o3.frame fg (λ_ _ => id)).frame f5 (λy hy e => by have := g3 y hy; have := f1.1; omega)
    refine k1 h5 ⟨p', c', (bs.take (pos + n)).drop pos⟩ (by unfold mf; rw [if_pos (by omega), if_pos hv]; exact congrArg _ eD.symm) (BV.j9 ov (λy hy => by have := g3 y hy; have := f1.1; omega)) ln hq H5 (Fr.no (f1.tt (f3.tt fg)) f5)
  split
  · rename_i q
    exact gM (λ_ => ⟨rfl, rfl, done h3 (Fr.refl _ _) (.inl λe => by rw [e] at q; exact absurd q (by decide))⟩) (λe => absurd e (by decide))
  · rename_i q
    have m3 : m = 3 := by
      have : ¬ ((m : Int) ≠ 3) := λe => q (by simpa using e)
      omega
    refine U h3 p' c' _ _ (u.tt (f1.tt f3)) o3.jb (by rw [ln]; omega) o3.le λg fg => ⟨_, rfl, ?_⟩
    rw [eD]
    exact gM (λhv => ⟨rfl, rfl, done g fg (.inr hv)⟩) (λhv => kE g 3 (by unfold mf; rw [if_pos (by omega), if_neg (λe => e.elim (λe => e m3) (λe => by rw [hv] at e; cases e))]) (f1.tt (f3.tt fg)))
def uV(g:aj)(r:Nat):Nat:=match aX g ⟨r,1,none⟩with
 |some (.int _ z)=>z.toNat
 |_=>0
theorem uY.uV(H:uY h r p c bs pos left):uV h r=pos:=by
 unfold Cb.uV;rw[show aX h (AA r 1)=some (.I (pos:Int))from ak H.cQ];exact aD _
theorem BQ{D:Nat->Prop}{v:BV}{m:Int}(H:v.ok h D):gE h D (.mk m 0 v.b []) ⟨m,0,v,none,0,0⟩:=by
 unfold gE;exact⟨⟨rfl,rfl,rfl,H⟩, [],⟨rfl,Row.nil,λe=>absurd rfl e,bk _⟩,by unfold dc;trivial⟩
theorem Km{m n:Nat}{o:Bool}(U:mE V h0)(u:Fr No h0 h)(hr:h0.size<=r)(H:uY h r p c bs pos left)(hn:n<18446744073709551616)(k1: ∀h' (x:CV) (b:cH) (next:Nat),CC V bs pos m n o=.ok (b,next)->gE h' (λy=>h.size<=y) (.mk m 0 b []) x->uY h' r p c bs next left->Fr (λy=>y=r) h h'->R x.agg h')(D: ∀h' e,CC V bs pos m n o=.error e->Fr (λy=>y=r) h h'->E (OT e) h'):hN Tryz.prog 284 #[.P r 0,.agg #[.I (m:Int),.U (n:Int),.bool o]] h R E:=by
 refine sW.walk (bt.box λb h1 eb J f1=>aa.box λb1 h2 V' g' f2=>⟨_,ak (f2.get J id),aa.new λB j W' Y f4=>⟨_,ak ((f2.tt f4).get J id),?_⟩⟩);have zr:=aC H.cQ;have zb:=aC J;have St:=aC g';have RW:=aC Y;have z1:=f1.1;have z2:=f2.1;have z4:=f4.1;have F:=f1.tt (f2.tt f4);have H4:=H.on F;have j':=(f2.tt f4).get J id;have i':=f4.get g' id;have Z':=H.len;have z: ∀y,aL p y->bs≠ []->y<h.size:=λy d e=>iI H.row (by cases C':bs with|nil=>exact absurd C' e|cons=>simp[bc]) d
 have fin: ∀g (v:BV) (next:Nat),aa.at g B m 0 v.p v.b.length v.c none 0 0->aa.at g b1 0 0 none 0 0 none 0 0->v.ok g (λy=>j.size<=y)->CC V bs pos m n o=.ok (v.b,next)->uY g r p c bs next left->Fr (λy=>y=r\/y=B) j g->
   aa.LD g (AA B 0) λt0 t1 R' Q' P' U' T' S'=>aa.ST g (AA b1 0) t0 t1 R' Q' P' U' T' S' λA=>aa.LD A (AA b1 0) λr0 r1 L' K' J' O' N' M'=>R (.agg #[.I r0,.U r1,.slice L' K' J',.slice O' N' M']) A:=by
  intro g v next q2 q1 qv ql qr qf;refine aa.ld q2 (aa.set q1 λA d1 d2 d3=>aa.ld d1 ?_);have f7:Fr (λy=>y=b1) g A:=Fr.of_eq d2 (λc s=>d3 c s);refine k1 A ⟨m,0,v,none,0,0⟩ v.b next ql (BQ ((qv.frame f7 (λy d e=>af)).mono (λy d=>af))) (qr.frame f7 af (λy d e w=>bX (z y d e))) ?_;exact((Fr.no F qf).trans f7 (S'':=λy=>y=r) (λx N e=>af) (λx N e=>af))
 cases o with
 |false=>
  rw[fY];refine bt.ld j' (EL U (u.tt F) H4 hn (λX v pv H' lv le H5 f5=>⟨_,_,_,rfl,?_⟩) (λX e pe f5=>D X e (by simp only[CC,pe]) ((F.tt f5).mono λ_ _=>False.elim)));have A':=f5.get Y af;refine bH A' (by show 2<4;omega) λh6 d1 d2 d3=> ?_
  have f6:Fr (λy=>y=B) X h6:=Fr.of_eq d2 (λc s=>d3 c s);refine fin h6 v (pos+n) d1 (f6.get (f5.get i' af) af) (H'.frame f6 (λy d e=>af)) (by simp only[CC,pv]) (H5.frame f6 af (λy d e w=>bX (z y d e))) (f5.trans f6 (λ_ _=> .inl) (λ_ _=> .inr))
 |true=>
  rw[dj];refine⟨λg=> ∃(k next:Nat)(v:BV),(bs.length+1<=k+next/\D4 V bs m k next v.b=CC V bs pos m n true)/\aa.at g B m 0 v.p v.b.length v.c none 0 0/\fi g v.p v.b.length v.c 1 (bc v.b)/\(∀y,aL v.p y->j.size<=y)/\uY g r p c bs next left/\Fr (λy=>y=r\/y=B) j g/\v.b.length<=next,λg=>bs.length+1 - uV g r,
   ⟨bs.length+1,pos,⟨none,0, []⟩,⟨af,rfl⟩,Y,.nil rfl rfl rfl rfl,(λy ⟨a,e,_⟩=>by cases e),H4,Fr.refl _ _,bL _⟩,?_⟩
  rintro g ⟨k,next,v,⟨Y',f⟩,g2,ov,nv,I,t,hv⟩;have UP:=I.pos;have z':=t.get i' af;have B':=t.get j' af;obtain⟨k,rfl⟩: ∃k',k=k'+1:=⟨k - 1,af⟩;refine Ix I (λh9 w Q2 H9 f9=>⟨_,rfl,?_⟩) (λw=>⟨_,rfl,?_⟩);all_goals unfold D4 at f;simp only[w,bf,aq,aJ]at f
  .rw[dj];exact fin h9 v (next+1) (f9.get g2 af) (f9.get z' af) (BV.j9 (ov.frame f9 (λy d e=>bX (nv y d))) nv) f.symm H9 (t.trans f9 cu (λ_ _=> .inl))
  .rw[fY];refine zL I (λe' m' n' q' o' L t' f10=>⟨_,_,_,rfl,bt.new λb3 i X' Z f12=>aG.of λv' hJ=>⟨_,ak Z,_,ak (f12.get (f10.get B' af) id),?_⟩⟩) (λe' e L f10=>D e' e (by rw[<-f,L]) ?_)
   .obtain⟨VR,VS,E',_⟩:=yB L;rw[L]at f;dsimp only at f;have u':=t'.on f12;have d':Fr (λy=>y=r\/y=B) j i:=(t.trans f10 cu (λ_ _=> .inl)).on f12;have zg:=t.1;have VT:=f10.1;have P:aa.at i B m 0 v.p v.b.length v.c none 0 0:=f12.get (f10.get g2 af) id;have F':=(ov.frame f10 (λy d e=>bX (nv y d))).frame f12 cu;have G:Fr (λy=>y=r) h i:=(Fr.no F d').mono (λx N e=>af);have w':Fr No h0 i:=u.fresh G (λy e=>af);have done: ∀Q,Fr No i Q->(m'=m/\o'=false)->v' Q:=by
     intro Q f3 D';rw[ag D']at f;subst hJ;refine⟨_,_,_,ak (f3.get P id),bt.ld (f3.get Z id) (EL U (w'.tt f3) (u'.on f3) E' (λT s' pw I' lw le b' f14=>⟨_,_,_,rfl,ak (f14.get (f3.get P id) af),?_⟩) (λT e pe f14=>D T e (by rw[<-f,pe]) (G.on (f3.tt f14))))⟩;have G':=(F'.frame f3 cu).frame f14 (λy d e=>bX (nv y d));have lv:v.b.length<=1000000:=af
     refine dY iD.tU iD.uU G' I'.row (by rw[iV,cv]) (pW s'.b) af af ?_;intro p' c' f' r' _ f15 y';rw[<-jR]at r';have z12:=f12.1;have z3:=f3.1;have VU:=f14.1;refine⟨_,_,_,rfl,bH (f15.get (f14.get (f3.get P id) af) (λd=>bX (nv _ d))) (by show 2<4;omega) λW d1 d2 d3=>⟨rfl,?_,?_⟩⟩
     .have f16:Fr (λy=>y=B) f' W:=Fr.of_eq d2 (λc s=>d3 c s);have l': ∀y,aL p' y->j.size<=y:=λy d=>by
       rcases y' y d with a|a
       .exact nv y a
       .omega
      have O:=b'.frame f15 (λd=>bX (nv _ d)) (λy d e a'=>gF (nv _ a') (z y d e));rw[pw]at f;refine⟨k,q'+n',⟨p',c',v.b++s'.b⟩,⟨af,f⟩,by rw[av];exact d1,by rw[av];exact r'.frame f16 (λy d e=>bX (l' y d)),l',O.frame f16 af (λy d e w=>bX (z y d e)),?_,by rw[av];omega⟩;have a1:Fr (λy=>y=r\/y=B) j T:=(d'.on f3).trans f14 cu (λ_ _=> .inl);have a2:Fr (λy=>y=r\/y=B) j f':=a1.trans f15 cu (λx N d=>bX (nv x d));exact a2.trans f16 cu (λ_ _=> .inr)
     .have x':uV W r=q'+n':=by
       have O:=b'.frame f15 (λd=>bX (nv _ d)) (λy d e a'=>gF (nv _ a') (z y d e));exact(O.frame (Fr.of_eq (S:=λy=>y=B) d2 (λc s=>d3 c s)) af (λy d e w=>bX (z y d e))).uV
      show bs.length+1 - uV W r<bs.length+1 - uV g r;rw[x',I.uV];omega
    split
    .rename_i q;have em:m'=m:=by have:=eq_of_beq q;omega
     refine⟨_,ak Z,gM (λM=>⟨rfl,rfl,done i (Fr.refl _ _) ⟨em,by cases o' with|true=>cases M|false=>rfl⟩⟩) (λM=>D i 3 (by rw[<-f,ae (λe=>by rw[e.2]at M;cases M)]) G)⟩
    .rename_i q;exact gM (λe=>absurd e dH) (λ_=>D i 3 (by rw[<-f,ae (λe=>q (by rw[e.1];simp))]) G)
   .exact((Fr.no F t).on f10).mono (λx N e=>af)
theorem tI:nJ Tryz.prog 260 262 4 64 (.agg #[.I 0,.U 0,.Z,.Z]):=⟨cU,cU,rfl⟩
theorem uI:Tryz.prog.underlying 260=some (.slice 262):=cU
theorem oe(x:CV): ∀v∈hT x,fI v=true:=by
 intro v H;simp only[bJ,List.not_mem_nil,or_false]at H;rcases H with rfl|rfl|rfl|rfl<;>rfl
theorem gB: ∀(ts:List Tr),9*ts.length<=dw ts
 | []=>bL _
 | .mk k n b l::ts=>by
  have:=gB ts;simp only[dw,room,aV];omega
def GW(V:cH->Bool)(h0:aj)(r:Nat)(p:cg)(c:Nat)(bs:cH)(L:Nat):Prop:= ∀(h:aj)(pos left:Nat)(R E:fj),Fr No h0 h->uY h r p c bs pos left->
 (∀h' (t:Tr) (x:CV) (next left':Nat),gP V bs L pos left=.ok (t,next,left')->gE h' (λy=>h.size<=y) t x->uY h' r p c bs next left'->Fr (λy=>y=r) h h'->R x.agg h')->
 (∀h' e,gP V bs L pos left=.error e->Fr (λy=>y=r) h h'->E (OT e) h')->hN Tryz.prog 243 #[.pointer (some ⟨r,0,none⟩),.int .i64 (7 - (L:Int))] h R E
structure Qq (h4 g:aj) (r b2:Nat) (p:cg) (c:Nat) (bs:cH) (pos next left:Nat) (ts:List Tr) (ys:List CV) (q:cg) (cl:Nat):Prop where
 cQ:aa.at g b2 4 0 none 0 0 q ys.length cl
 own:fi g q ys.length cl 4 (ys.flatMap hT)
 ge: ∀y,aL q y->h4.size<=y
 tr:dc g (λy=>h4.size<=y/\¬aL q y) ts ys
 room:dw ts<=10*(next - pos)
 le:pos<=next
 rd:uY g r p c bs next left
 fr:Fr (λy=>y=r\/y=b2) h4 g
theorem MO{d g:aj}{b next i:Nat}{ts:List Tr}{ys:List CV}{q:cg}{cl:Nat}{deep:Int}{Φ:aj->Prop}(IH:GW V h0 r p c bs i)(u4:Fr No h0 d)(o':h0.size<=r)(r4:r<d.size)(b4:b<d.size)(rb:r≠b)(b0:h0.size<=b)(hd:deep=6 - (i:Int))(n':i<=6)(rows: ∀y,aL p y->bs≠ []->y<d.size/\y≠b)(L:Qq d g r b p c bs pos next left ts ys q cl)(hk: ∀v u left' t j' Q s,gP V bs i next left=.ok (t,u,left')->Qq d v r b p c bs pos u left' (ts++ [t]) j' Q s->next<u->Φ v)(kE: ∀h' e,gP V bs i next left=.error e->Fr (λy=>y=r\/y=b) d h'->E (OT e) h'):
  ∃(o:cg)(m T:Nat),aX g (AA b 3)=some (.slice o m T)/\
  Ce 243 #[.P r 0,.I (IntKind.wrap .i64 (deep+1))] g (λg' z=>
  ∃(I J:Int)(P:cg)(O M:Nat)(W:cg)(U S:Nat),g'=.agg #[.I I,.U J,.slice P O M,.slice W U S]/\
  aX z (AA b 3)=some (.slice o m T)/\
  aQ z (.cells #[.I I,.U J,.slice P O M,.slice W U S] 262) λa' A=>
  aX A (AA b 3)=some (.slice o m T)/\
  aU Tryz.prog (Builtin.append_ #[260,260] 260 #[.slice o m T,.slice (Sa a' 0) 1 1]) A λi' c'=>
  ∃(Z:cg)(Y X:Nat),i'=.slice Z Y X/\
  aO c' (AA b 3) (.slice Z Y X) λb'=>Φ b') E:=by
 have zg:=L.fr.1;have m':=L.rd.len;have hp:=L.rd.pos;have l':=L.le;have ll:ys.length<=2000000:=by
  have h1:=gB ts;have h2:=L.room;have h3:=L.tr.len;omega
 refine⟨_,_,_,ak L.cQ,?_⟩;rw[bA (n:=deep+1) af af];rw[show deep+1=7 - (i:Int) by omega];refine IH g next left _ E (u4.fresh L.fr (λy e=>af)) L.rd (λj t x f' e' k tx H7 f7=> ?_) (λj e k f7=>kE j e k (L.fr.trans f7 cu (λ_ _=> .inl)));obtain⟨rx,lx,_,_⟩:=D5 i _ _ _ _ _ L.rd.pos k;have z7:=f7.1;have B:=f7.get L.cQ af;refine⟨_,_,_,_,_,_,_,_,rfl,ak B,aa.box λb3 h8 k' d' f8=>⟨ak (f8.get B id),?_⟩⟩;have z8:=f8.1;have o8:=(L.own.frame f7 (λy H e=>bX (L.ge y H))).frame f8 cu;have F: ∀y,aL q y->y<g.size:=λy H=>L.own.dV H
 refine dY tI uI o8 (ds:=hT x) (.inr ⟨_,rfl,aa.held d'⟩) rfl (oe x) af af λQ s h9 o9 _ f9 G=>⟨_,_,_,rfl,?_⟩
 have z9:=f9.1;have N: ∀y,aL q y->d.size<=y:=L.ge;have b9:=f9.get (f8.get B id) (λH=>bX (N _ H));refine bH b9 (by show 3<4;omega) λw d1 d2 d3=> ?_
 have f10:Fr (λy=>y=b) h9 w:=Fr.of_eq d2 (λc hc=>d3 c hc);have D: ∀y,aL Q y->d.size<=y:=λy H=>by
  rcases G y H with a|a
  .exact N y a
  .omega
 have ef:ys.flatMap hT++hT x=(ys++ [x]).flatMap hT:=by rw[cW];simp
 have H9:=(H7.on f8).frame f9 (λH=>bX (N _ H)) (λy H e f=>gF (N _ f) ((rows y H e).1));refine hk w f' e' t (ys++ [x]) Q s k ⟨?_,?_,D,?_,?_,af,H9.frame f10 af (λy H e he=>(rows y H e).2 he),?_⟩ lx
 .rw[av];exact d1
 .rw[av,<-ef];exact o9.frame f10 (λy H e=>bX (D y H))
 .have t1:=((L.tr.lt.frame f7 (λy H e=>af)).frame f8 cu).frame f9 (λy H f=>H.1.2 f);have t2:=tx.lt.mono (D':=λy=>g.size<=y/\y<j.size) (λ_=>id);have t2:=(t2.on f8).mono (D':=λy=>g.size<=y/\y<j.size) (λ_=>id);have t2:=gE.frame f9 (λy H f=>bX (F y f)) t2;have m1:=dc.mono (D':=λy=>d.size<=y/\¬aL Q y) (λy H=>⟨H.1.1,λf=>by
   rcases G y f with a|a
   .exact H.1.2 a
   .have:=H.2;omega⟩) t1
  have m2:=gE.mono (D':=λy=>d.size<=y/\¬aL Q y) (λy H=>⟨af,λf=>by
   rcases G y f with a|a
   .have:=F y a;omega
   .omega⟩) t2
  exact dc.frame f10 (λy H e=>af) (m1.snoc m2)
 .rw[hZ];have:=L.room;simp only[dw];omega
 .have a1:=(L.fr.trans f7 (S'':=λy=>y=r\/y=b) cu (λ_ _=> .inl)).on f8;have a2:=a1.trans f9 (S'':=λy=>y=r\/y=b) cu (λx hx H=>bX (N x H));exact a2.trans f10 cu (λ_ _=> .inr)
theorem OU {lv m n : Nat} {o : Bool} {deep : Int} (IH : GW V h0 r p c bs lv) (u : Fr No h0 h) (hr : h0.size ≤ r) (H : uY h r p c bs pos left) (hd : deep = 6 - (lv : Int)) (UQ : lv ≤ 6) (hn : n < 18446744073709551616)
    (k1 : ∀ h' (ts : List Tr) (x : CV) (next left' : Nat), mP bs (gP V bs lv) pos left n o = .ok (ts, next, left') → gE h' (λy => h.size ≤ y) (.mk 4 0 [] ts) x → uY h' r p c bs next left' → Fr (λy => y = r) h h' → R x.agg h')
    (kE : ∀ h' e, mP bs (gP V bs lv) pos left n o = .error e → Fr (λy => y = r) h h' → E (OT e) h') : hN Tryz.prog 283 #[.pointer (some ⟨r, 0, none⟩), .agg #[.int .i64 (m : Int), .int .u64 (n : Int), .bool o], .int .i64 deep] h R E := by
  refine wj.walk (bt.box λb h1 eb hb f1 => aa.box λb1 h2 Su Kn f2 => aa.new λb2 h4 UR Uo f4 => ⟨_, cE ((f2.tt f4).get hb id) rfl, ?_⟩)
  have zr := aC H.cQ
  have zb := aC hb
  have St := aC Kn
  have RW := aC Uo
  have z0 := u.1
  have z1 := f1.1
  have z2 := f2.1
  have z4 := f4.1
  have F4 := f1.tt (f2.tt f4)
  have H4 := H.on F4
  have Ii := (f2.tt f4).get hb id
  have Td := f4.get Kn id
  have hlen := H.len
  have US := H.pos
  have rows : ∀ y, aL p y → bs ≠ [] → y < h4.size ∧ y ≠ b2 := λy hy e => by
    have := iI H.row (by cases Te : bs with | nil => exact absurd Te e | cons => simp [bc]) hy
    omega
  have Uq : ∀ g e, mP bs (gP V bs lv) pos left n o = .error e → Fr (λy => y = r ∨ y = b2) h4 g → E (OT e) g := λg e hx fg => kE g e hx ((Fr.no F4 fg).mono (λx hx q => by omega))
  have fin : ∀ g next left' ts ys q cl, Qq h4 g r b2 p c bs pos next left' ts ys q cl → mP bs (gP V bs lv) pos left n o = .ok (ts, next, left') →
      aa.LD g ⟨b2, 0, none⟩ λt0 t1 UU UW UX UY UZ U0 => aa.ST g ⟨b1, 0, none⟩ t0 t1 UU UW UX UY UZ U0 λh7 => aa.LD h7 ⟨b1, 0, none⟩ λr0 r1 U1 U2 U3 U5 U6 U7 => R (.agg #[.int .i64 r0, .int .u64 r1, .slice U1 U2 U3, .slice U5 U6 U7]) h7 := by
    intro g next left' ts ys q cl L hx
    refine aa.ld L.cQ (aa.set (L.fr.get Td (by omega)) λh7 d1 d2 d3 => aa.ld d1 ?_)
    have f7 : Fr (λy => y = b1) g h7 := Fr.of_eq d2 (λc hc => d3 c hc)
    have o7 := L.own.frame f7 (λy hy e => by have := L.ge y hy; omega)
    have t7 := dc.frame f7 (λy hy e => by omega) L.tr
    refine k1 h7 ts ⟨4, 0, ⟨none, 0, []⟩, q, ys.length, cl⟩ next left' hx ?_ (L.rd.frame f7 (by omega) (λy hy e he => by
      have := iI H.row (by cases Te : bs with | nil => exact absurd Te e | cons => simp [bc]) hy; omega)) ?_
    · unfold gE
      exact ⟨⟨rfl, rfl, rfl, ⟨Row.nil, λe => absurd rfl e, Nat.le_refl _⟩⟩, ys, ⟨rfl, o7.jb, λ_ y hy => by have := L.ge y hy; omega, o7.le⟩, dc.mono (λy hy => by omega) t7⟩
    · exact ((Fr.no F4 L.fr).trans f7 (S'' := λy => y = r) (λx hx e => by omega) (λx hx e => by omega))
  have L0 : Qq h4 h4 r b2 p c bs pos pos left [] [] none 0 := ⟨Uo, .nil rfl rfl rfl rfl, (λy ⟨a, e, _⟩ => by cases e), by unfold dc; trivial, by simp [dw], Nat.le_refl _, H4, Fr.refl _ _⟩
  have step := fun {g next left' ts ys q cl} {Φ : aj → Prop} (L : Qq h4 g r b2 p c bs pos next left' ts ys q cl) hk (hE : ∀ e, gP V bs lv next left' = .error e → mP bs (gP V bs lv) pos left n o = .error e) => MO (V := V) (Φ := Φ) (E := E) (deep := deep) IH (u.tt F4) hr (by omega) RW (by omega) (by omega) hd UQ rows L hk (λg e hx fg => Uq g e (hE e hx) fg)
  cases o with
  | true =>
    rw [if_pos rfl]
    refine ⟨λg => ∃ k next left' ts ys q cl, (bs.length + 1 ≤ k + next ∧ wT bs (gP V bs lv) k next left' ts = mP bs (gP V bs lv) pos left n true) ∧ Qq h4 g r b2 p c bs pos next left' ts ys q cl, λg => bs.length + 1 - uV g r, ⟨_, _, _, _, _, _, _, ⟨by omega, rfl⟩, L0⟩, ?_⟩
    rintro g ⟨k, next, left', ts, ys, q, cl, ⟨U9, Iy⟩, L⟩
    have UP := L.rd.pos
    obtain ⟨k, rfl⟩ : ∃ k', k = k' + 1 := ⟨k - 1, by omega⟩
    refine Ix L.rd (λh6 he Q2 H6 f6 => ⟨_, rfl, ?_⟩) (λhe => ⟨_, rfl, ?_⟩)
    all_goals unfold wT at Iy; simp only [he, if_true, Bool.false_eq_true, if_false] at Iy
    · rw [if_neg (by decide)]
      have t6 := dc.frame f6 (λy hy e => by omega) L.tr
      refine fin h6 (next + 1) left' ts ys q cl ⟨f6.get L.cQ (by omega), L.own.frame f6 (λy hy e => by have := L.ge y hy; omega), L.ge, t6, by have := L.room; have := L.le; omega, by have := L.le; omega, H6, L.fr.trans f6 (λ_ _ => id) (λ_ _ => .inl)⟩ Iy.symm
    · rw [if_pos (by decide)]
      refine step L (λg' next' R3 t Va q' Tf hi L' Q2 => ⟨rfl, ⟨k, _, _, _, _, _, _, ⟨by omega, by rw [hi] at Iy; exact Iy⟩, L'⟩, ?_⟩) (λe hi => by rw [← Iy, hi])
      show bs.length + 1 - uV g' r < bs.length + 1 - uV g r
      rw [L'.rd.uV, L.rd.uV]
      have := L'.rd.pos
      omega
  | false =>
    rw [if_neg (by decide)]
    refine ⟨_, cE Ii rfl, _, _, _, cE H4.cQ rfl, _, cE H4.cQ rfl, ?_⟩
    rw [bA (n := ((bs.length : Nat) : Int) - (pos : Int)) (by omega) (by omega), wrap_u64 (by omega) (by omega)]
    refine gM (λhq => ?_) (λhq => Uq h4 8 (by have := of_decide_eq_false hq; unfold mP; dsimp only; rw [if_neg (by omega)]) (Fr.refl _ _))
    have hq : pos + n ≤ bs.length := by have := of_decide_eq_true hq; omega
    refine ⟨rfl, cE H4.cQ rfl, cE H4.cQ rfl, cE Ii rfl, _, cE Ii rfl, ?_⟩
    have e0 : mP bs (gP V bs lv) pos left n false = tV (gP V bs lv) n pos left [] := by unfold mP; dsimp only; rw [if_pos (by omega)]
    refine ⟨λt g => ∃ i next left' ts ys q cl, t = ((i : Nat) : Int) ∧ i ≤ n ∧ tV (gP V bs lv) (n - i) next left' ts = mP bs (gP V bs lv) pos left n false ∧ Qq h4 g r b2 p c bs pos next left' ts ys q cl, λt _ => n - t.toNat, ⟨0, _, _, _, _, _, _, rfl, Nat.zero_le _, e0.symm, L0⟩, ?_⟩
    rintro _ g ⟨i, next, left', ts, ys, q, cl, rfl, hi, Iy, L⟩
    by_cases Vc : i < n
    · rw [if_pos (decide_eq_true (by omega))]
      rw [show n - i = (n - (i + 1)) + 1 by omega] at Iy
      unfold tV at Iy
      refine step L (λg' next' R3 t Va q' Tf Tg L' Q2 => ⟨rfl, ?_, ?_⟩) (λe Tg => by rw [← Iy, Tg])
      · rw [wrap_u64 (n := (i : Int) + 1) (by omega) (by omega)]
        exact ⟨i + 1, _, _, _, _, _, _, by omega, by omega, by rw [Tg] at Iy; exact Iy, L'⟩
      · rw [wrap_u64 (n := (i : Int) + 1) (by omega) (by omega)]
        show n - Int.toNat ((i : Int) + 1) < n - Int.toNat (i : Int)
        omega
    · rw [if_neg (λe => Vc (by have := of_decide_eq_true e; omega))]
      rw [show n - i = 0 by omega] at Iy
      exact fin g next left' ts ys q cl L Iy.symm
theorem MP(U:mE V h0)(hr:h0.size<=r): ∀L,L<=6->GW V h0 r p c bs L:=by
 intro L;induction L with
 |zero=>
  intro _ h pos left R E u H k1 k;refine od.walk (aa.box λb h1 eb Z f1=>zL (H.on f1) (λw m n next o i A f2=>⟨_,_,_,rfl,bt.new λb1 f f' d f4=>aG.of λJ W=> ?_⟩) (λw e i f2=>k w e (by unfold gP;rw[i]) ((f1.tt f2).mono λ_ _=>False.elim)));have z1:=f1.1;have zr:=aC H.cQ;have F:Fr (λy=>y=r) h f:=(Fr.no f1 f2).on f4;have done:(m=0\/m=2\/m=3\/m=4)->J f:=by
   intro hm;subst W;exact gM (λb'=>absurd b' dH) (λ_=>k f 9 (by unfold gP;rw[i];dsimp only;rw[ag hm]) F)
  refine⟨_,ak d,?_⟩;split
  .rename_i q;exact gM (λ_=>⟨rfl,rfl,done (.inl (bX (eq_of_beq q)))⟩) (λe=>absurd e dH)
  rename_i Q;refine⟨_,ak d,?_⟩;split
  .rename_i q;exact gM (λ_=>⟨rfl,rfl,done (.inr (.inl (bX (eq_of_beq q))))⟩) (λe=>absurd e dH)
  rename_i q2;refine⟨_,ak d,?_⟩;split
  .rename_i q;exact gM (λ_=>⟨rfl,rfl,done (.inr (.inr (.inl (bX (eq_of_beq q)))))⟩) (λe=>absurd e dH)
  rename_i q3;refine⟨_,ak d,?_⟩;refine gM (λq=>⟨rfl,rfl,done (.inr (.inr (.inr (bX (eq_of_beq q)))))⟩) (λq=>k f 3 (by unfold gP;rw[i];dsimp only;rw[ae];rintro(rfl|rfl|rfl|rfl)<;>first|exact Q rfl|exact q2 rfl|exact q3 rfl|exact absurd q dH) F)
 |succ L M=>
  intro t' h pos left R E u H k1 k;have M:=M af;have zr:=aC H.cQ;refine od.walk (aa.box λb h1 eb Z f1=>zL (H.on f1) (λw m n next o i A f2=>⟨_,_,_,rfl,bt.new λb1 f f' d f4=>aG.of λJ W=> ?_⟩) (λw e i f2=>k w e (by unfold gP;rw[i]) ((f1.tt f2).mono λ_ _=>False.elim)));obtain⟨s',_,hn,_⟩:=yB i;have a:gP V bs (L+1) pos left=gP V bs (L+1) pos left:=rfl;conv at a=>rhs;unfold gP;rw[i]
  dsimp only at a;have zb:=aC Z;have u':=aC d;have z1:=f1.1;have z2:=f2.1;have z4:=f4.1;have hp:=H.pos;have j':=A.pos;have r':=A.left;have F:Fr (λy=>y=r) h f:=(Fr.no f1 f2).on f4;have U4:Fr No h0 f:=u.fresh F (λy e=>af);have B:=A.on f4;have g':=f4.get (f2.get Z af) id;have k': ∀y,aL p y->bs≠ []->y<h.size:=λy j e=>iI H.row (by cases i':bs with|nil=>exact absurd i' e|cons=>simp[bc]) j
  have c': ∀g (t:Tr) (x:CV) N v,aa.at g b 0 0 none 0 0 none 0 0->gE g (λy=>h1.size<=y) t x->gP V bs (L+1) pos left=.ok (t,N,v)->uY g r p c bs N v->Fr (λy=>y=r) h g->
    aa.ST g (AA b 0) x.k (x.n:Int) x.v.p x.v.b.length x.v.c x.q x.ll x.cl λz=>aa.LD z (AA b 0) λr0 r1 n' m' l' q' p' o'=>R (.agg #[.I r0,.U r1,.slice n' m' l',.slice q' p' o']) z:=by
   intro g t x N v gb T rx Hg fg;refine aa.set gb λz d1 d2 d3=>aa.ld d1 ?_
   have f9:Fr (λy=>y=b) g z:=Fr.of_eq d2 (λc hc=>d3 c hc);exact k1 z t x N v rx (gE.mono (λy j=>af) (gE.frame f9 (λy j e=>af) T)) (Hg.frame f9 af (λy j e he=>bX (k' y j e))) (fg.trans f9 cu (λx hx e=>af))
  have done:(m=0\/m=2\/m=3\/m=4)->J f:=by
   intro hm;rw[ag hm]at a;subst W;refine gM (λ_=>⟨rfl,_,ak B.cQ,gM (λG=>⟨rfl,_,ak B.cQ,bH B.cQ (by show 2<3;omega) λS d1 d2 d3=> ?_⟩) (λG=>k f 2 (by rw[a,ag (bX (fC G))]) F)⟩) (λb'=>absurd (fC b') af);have G:=aP G;rw[dj]at a;rw[bA (n:=(left:Int) - 1) af af,show(left:Int) - 1=((left - 1:Nat):Int) by omega]at d1;obtain⟨I,f8⟩:=B.set (pos':=next) (left':=left - 1) j' af d1 d2 d3;have D:=f8.get d af;have a':=f8.get g' af;have s:Fr (λy=>y=r) h S:=F.tt f8;have U8:Fr No h0 S:=u.fresh s (λy e=>af);have z8:=f8.1;refine⟨_,ak D,?_⟩;split
   .rename_i q;rw[ag (bX (eq_of_beq q))]at a;refine⟨_,ak D,?_⟩;refine c' S (.mk 0 n [] []) ⟨0,n,⟨none,0, []⟩,none,0,0⟩ next (left - 1) a' ?_ a I s;unfold gE;exact⟨⟨rfl,rfl,rfl,⟨Row.nil,λe=>absurd rfl e,bk _⟩⟩, [],⟨rfl,Row.nil,λe=>absurd rfl e,bk _⟩,by unfold dc;trivial⟩
   .rename_i Q;rw[ae (λe=>Q (by rw[e];rfl))]at a;split
    .rename_i q;have m4:m=4:=by have:=eq_of_beq q;omega
     rw[ag m4]at a;refine bt.ld D (OU M U8 hr I af af hn (λO ts x N v X T d' f10=>⟨_,_,_,_,_,_,_,_,rfl,?_⟩) (λO e X f10=>k O e (by rw[a,X]) (s.tt f10)));exact c' O (.mk 4 0 [] ts) x N v (f10.get a' af) (gE.mono (λy j=>af) T) (by rw[a,X]) d' (s.tt f10)
    .rename_i q;rw[ae (λe=>q (by rw[e];rfl))]at a;refine bt.ld D (Km U U8 hr I hn (λP x sb N Y T e' f12=>⟨_,_,_,_,_,_,_,_,rfl,?_⟩) (λP e Y f12=>k P e (by rw[a,Y]) (s.tt f12)));exact c' P (.mk m 0 sb []) x N (left - 1) (f12.get a' af) (gE.mono (λy j=>af) T) (by rw[a,Y]) e' (s.tt f12)
  refine⟨_,ak d,?_⟩;split
  .rename_i q;exact gM (λ_=>⟨rfl,rfl,done (.inl (bX (eq_of_beq q)))⟩) (λe=>absurd e dH)
  rename_i Q;refine⟨_,ak d,?_⟩;split
  .rename_i q;exact gM (λ_=>⟨rfl,rfl,done (.inr (.inl (bX (eq_of_beq q))))⟩) (λe=>absurd e dH)
  rename_i q2;refine⟨_,ak d,?_⟩;split
  .rename_i q;exact gM (λ_=>⟨rfl,rfl,done (.inr (.inr (.inl (bX (eq_of_beq q)))))⟩) (λe=>absurd e dH)
  rename_i q3;refine⟨_,ak d,?_⟩;refine gM (λq=>⟨rfl,rfl,done (.inr (.inr (.inr (bX (eq_of_beq q)))))⟩) (λq=>k f 3 (by rw[a,ae];rintro(rfl|rfl|rfl|rfl)<;>first|exact Q rfl|exact q2 rfl|exact q3 rfl|exact absurd q dH) F)
theorem Ko(hk: ∀h',Fr No h h'->K none h'):pO Tryz.prog 242 #[.P c0 0,.P c1 0,.P C 0] none h K:=by
 refine qJ.ret.walk (cG (wN dH (hk _ (Fr.push _ _))))
theorem Kq{e g0 G:Int}{u z:cg}{t s w v:Nat}{N o:Int}(h0:aa.at h c0 g0 G u t s z w v)(i:h[c1]? =some (.cells #[.I N] 3 (0,0)))(j:h[C]? =some (.cells #[.I o] 24 (0,0)))(D:c0≠c1)(F:c0≠C)(I:c1≠C)(hk: ∀h',aa.at h' c0 0 0 none 0 0 none 0 0->h'[c1]? =some (.cells #[.I 0] 3 (0,0))->h'[C]? =some (.cells #[.I e] 24 (0,0))->Fr (λy=>y=c0\/y=c1\/y=C) h h'->K none h'):
  pO Tryz.prog 242 #[.P c0 0,.P c1 0,.P C 0] (some (OT e)) h K:=by
 refine qJ.mC.walk (cG (wN dH ?_));have f:Fr No h (h.push (.cells (#[Value.I 0].setIfInBounds 0 (.I e)) 331 (0,0))):=Fr.push _ _;have a:(h.push (.cells (#[Value.I 0].setIfInBounds 0 (.I e)) 331 (0,0)))[h.size]? =some (.cells #[.I e] 331 (0,0)):=bR;have Z:=aC h0;have J:=aC i;have L:=aC j;generalize h.push (.cells (#[Value.I 0].setIfInBounds 0 (.I e)) 331 (0,0))=g at f a⊢;refine⟨_,ak a,aa.set (f.get h0 id) λG d1 d2 d3=> ?_⟩;have f1:Fr (λy=>y=c0) g G:=Fr.of_eq d2 (λc H=>d3 c H);refine⟨ak (f1.get a af),bH (f1.get (f.get i id) af) (by show 0<1;omega) λb A k m=> ?_⟩;have f2:Fr (λy=>y=c1) G b:=Fr.of_eq k (λc H=>m c H);refine⟨ak (f2.get (f1.get a af) af),bH (f2.get (f1.get (f.get j id) af) af) (by show 0<1;omega) λd b1 B n=> ?_⟩;have f3:Fr (λy=>y=C) b d:=Fr.of_eq B (λc H=>n c H);exact hk d (f3.get (f2.get d1 af) af) (f3.get A af) b1 (((Fr.no f f1).trans f2 (S'':=λy=>y=c0\/y=c1) (λ_ _=> .inl) (λ_ _=> .inr)).trans f3 (λx _ q=>q.imp id .inl) (λ_ _ q=> .inr (.inr q)))
theorem zM(U:mE V h)(row:Row h p (bc bs))(hl:l=bs.length)(cap:bs.length<=c)(d':bs.length<=1000000)(k1: ∀h' (t:Tr) (x:CV) (next:Nat),oY V bs=.ok (t,next)->gE h' (λy=>h.size<=y) t x->Fr No h h'->R (.tuple #[x.agg,.I (next:Int),.I 0]) h')(k2: ∀h' e,oY V bs=.error e->Fr No h h'->R (.tuple #[CV.agg ⟨0,0,⟨none,0, []⟩,none,0,0⟩,.I 0,.I e]) h'):
  Cl 193 #[.slice p l c,.I 0] h R:=by
 subst hl;refine hN.Uz (Kj.walk (aa.box λb d eb P f1=>cG (cG ?_)));have zb:=aC P;have z1:=f1.1;have f2:Fr No d (d.push (.cells #[.I 0] 3)):=Fr.push _ _;have A:(d.push (.cells #[.I 0] 3))[d.size]? =some (.cells #[.I 0] 3 (0,0)):=bR;generalize d.push (.cells #[.I 0] 3)=f at f2 A⊢;have f3:Fr No f (f.push (.cells #[.I 0] 24)):=Fr.push _ _;have j:(f.push (.cells #[.I 0] 24))[f.size]? =some (.cells #[.I 0] 24 (0,0)):=bR;have z2:=aC A;generalize f.push (.cells #[.I 0] 24)=i at f3 j⊢;have z3:=aC j;obtain⟨b1,D⟩: ∃b1,b1=d.size:=⟨_,rfl⟩;obtain⟨B,I⟩: ∃B,B=f.size:=⟨_,rfl⟩;rw[<-D]at A;rw[<-I]at j;rw[<-D,<-I];refine aG.of λe' hJ=> ?_
 rw[dj,az af];refine⟨rfl,?_⟩;subst hJ;dsimp only;rw[dj];refine cG ?_;have f4:Fr No i (i.push (.cells #[.slice p bs.length c,.I 0,.I 256] 335)):=Fr.push _ _;have o:(i.push (.cells #[.slice p bs.length c,.I 0,.I 256] 335))[i.size]? =some (.cells #[.slice p bs.length c,.I 0,.I 256] 335 (0,0)):=bR;generalize i.push (.cells #[.slice p bs.length c,.I 0,.I 256] 335)=N at f4 o⊢;obtain⟨q,J⟩: ∃q,q=i.size:=⟨_,rfl⟩;rw[<-J]at o;rw[<-J];have T:=f2.tt f3;have u:=T.tt f4;have F:=f1.tt u;have f':=f2.1;have g':=f3.1;have S: ∀y,aL p y->bs≠ []->y<h.size:=λy H e=>iI row (by cases c':bs with|nil=>exact absurd c' e|cons=>simp[bc]) H
 have W:uY N q p c bs 0 256:=⟨o,row.frame F cu,cap,bL _,λe H=>bX (S _ H e),d',af⟩;have Q:=u.get P id;have w:=(f3.tt f4).get A id;have z:=f4.get j id;refine MP U af 6 (bk _) N 0 256 _ _ F W (λO t x next left' s tx X f9=> ?_) (λO e s f9=> ?_)
 .refine⟨_,_,_,_,_,_,_,_,rfl,aa.set (f9.get Q af) λn d1 d2 d3=>aa.ld d1 ?_⟩;have g:Fr (λy=>y=b) O n:=Fr.of_eq d2 (λc a=>d3 c a);have v:=X.frame g af (λy H e he=>bX (S y H e));refine⟨_,ak v.cQ,aa.set d1 λL e1 e2 Z=> ?_⟩;have G:Fr (λy=>y=b) n L:=Fr.of_eq e2 (λc a=>Z c a);refine⟨ak (G.get v.cQ af),bH (G.get (g.get (f9.get w af) af) af) (by show 0<1;omega) λM c1 C Y=> ?_⟩;have k:Fr (λy=>y=b1) L M:=Fr.of_eq C (λc a=>Y c a);refine bH (k.get (G.get (g.get (f9.get z af) af) af) af) (by show 0<1;omega) λa' m1 m2 m3=> ?_
  have m:Fr (λy=>y=B) M a':=Fr.of_eq m2 (λc a=>m3 c a);refine Ko λb' f14=>aa.ld (f14.get (m.get (k.get e1 af) af) id) ⟨_,ak (f14.get (m.get c1 af) id),_,ak (f14.get m1 id),?_⟩
  have z4:=f4.1;have t13:=gE.frame f14 cu (gE.frame m (λy H e=>af) (gE.frame k (λy H e=>af) (gE.frame G (λy H e=>af) (gE.frame g (λy H e=>af) tx))));refine k1 b' t x next (by unfold oY;rw[s]) (gE.mono (λy H=>af) t13) ?_;exact((((((F.fresh f9 (λy e=>af)).fresh g (λy e=>af)).fresh G (λy e=>af)).fresh k (λy e=>af)).fresh m (λy e=>af)).tt f14)
 .refine Kq (f9.get Q af) (f9.get w af) (f9.get z af) af af af λn q1 q2 q3 g=>aa.ld q1 ⟨_,ak q2,_,ak q3,?_⟩
  exact k2 n e (by unfold oY;rw[s]) ((F.fresh f9 (λy e=>af)).fresh g (λy e=>af))

end Cb
end
section
variable {h:aj} {R:fj}
variable {k e i:cg} {j B d c g f:Nat} {x X:Int}
theorem MQ.walk{n:Int}(l:aQ h (.cells #[.I 0,.U 0,.Z,.Z] 262) λb a=>aa.ST a (AA b 0) 0 n none 0 0 none 0 0 λH=>aa.LD H (AA b 0) λr m q p o u t s=>R (.agg #[.I r,.U m,.slice q p o,.slice u t s]) H):Cl 205 #[.U n] h R:=aN (lq ll) Tryz.func205 l
theorem GX.walk(m:aQ h (.cells #[.I 0,.U 0,.Z,.Z] 262) λb a=>Cl 50 #[.slice k j B] a λv l=>Vl v λy w T=>aa.ST l (AA b 0) 2 0 y w T none 0 0 λH=>aa.LD H (AA b 0) λr n q p o u t s=>R (.agg #[.I r,.U n,.slice q p o,.slice u t s]) H):Cl 210 #[.slice k j B] h R:=aN (lq ll) Tryz.func210 m
theorem Kr.walk{s:ByteArray}(m:aQ h (.cells #[.I 0,.U 0,.Z,.Z] 262) λb a=>aU Tryz.prog (convert 9 22 (.string s)) a λv l=>Vl v λz y T=>aa.ST l (AA b 0) 3 0 z y T none 0 0 λH=>aa.LD H (AA b 0) λr n q p o w u t=>R (.agg #[.I r,.U n,.slice q p o,.slice w u t]) H):Cl 255 #[.string s] h R:=aN (lq ll) Tryz.func255 m
theorem EM.walk(hv:aQ h (.cells #[.I x,.U X,.slice e d c,.slice i g f] 262) λb V=>aQ V (.cells #[.I 0,.U 0,.Z,.Z] 262) λo u=>Hl u b 2 λK' J' I'=>Cl 50 #[.slice K' J' I'] u λv Y=> ∃S Q P,v=.slice S Q P/\aO Y (AA b 2) (.slice S Q P) λw=> ∃z t j',Cc w b 3 (.slice z t j')/\aO w (AA b 3) (.Z) λZ=> ∃(I:Int->aj->Prop)(M:Int->aj->Nat),I 0 Z/\∀(t15:Int)(H:aj),I t15 H->if(decide (t15<((t:Nat):Int)))then Bd t15 t/\aM z λa=>aa.LD H (a.add (toNat t15*4)) λk' l' o' n' m' r' q' p'=>aQ H (.cells #[.I 0,.U 0,.Z,.Z] 262) λp a'=>aa.ST a' (AA p 0) k' l' o' n' m' r' q' p' λl=>Hl l b 3 λn m T=>aa.LD l (AA p 0) λs' t' w' v' u' z' y' x'=>Cl 288 #[.agg #[.I s',.U t',.slice w' v' u',.slice z' y' x']] l λL' y=> ∃A C F E D K J G,L'=.agg #[.I A,.U C,.slice F E D,.slice K J G]/\Cc y b 3 (.slice n m T)/\aQ y (.cells #[.I A,.U C,.slice F E D,.slice K J G] 262) λU q=>Cc q b 3 (.slice n m T)/\aU Tryz.prog (Builtin.append_ #[260,260] 260 #[.slice n m T,.slice (Sa U 0) 1 1]) q λM' W=> ∃O N L,M'=.slice O N L/\aO W (AA b 3) (.slice O N L) λr=>(I (wrap .i64 (t15+1)) r/\M (wrap .i64 (t15+1)) r<M t15 H)else aa.LD H (AA b 0) λA' B' E' D' C' H' G' F'=>aa.ST H (AA o 0) A' B' E' D' C' H' G' F' λs=>aa.LD s (AA o 0) λb' c' f' e' d' i' h' g'=>R (.agg #[.I b',.U c',.slice f' e' d',.slice i' h' g']) s):Cl 288 #[.agg #[.I x,.U X,.slice e d c,.slice i g f]] h R:=aN (lq (lq (lq (lq (sq (lq (bq (.loop [(15,.one (.int .i64))] (lq (sq (cq lf lf) (sq (bq (lq (pN 8))) lf)))))) ll))))) Tryz.func288 hv
theorem Ks.walk{u:cg}{L W:Nat}(V:aQ h (.cells #[.I 0,.U 0,.Z,.Z] 262) λb O=>aQ O (.cells #[.I 0,.U 0,.Z,.Z] 262) λl P=>aa.ST P (AA l 0) 4 0 none 0 0 none 0 0 λQ=> ∃(I:Int->aj->Prop)(M:Int->aj->Nat),I 0 Q/\∀(t9:Int)(H:aj),I t9 H->if(decide (t9<(L:Int)))then Bd t9 L/\aM u λa=>aa.LD H (a.add (toNat t9*4)) λg' h' k' j' i' n' m' l'=>aQ H (.cells #[.I 0,.U 0,.Z,.Z] 262) λo S=>aa.ST S (AA o 0) g' h' k' j' i' n' m' l' λm=>Hl m l 3 λn T t=>aa.LD m (AA o 0) λo' p' s' r' q' v' u' t'=>Cl 288 #[.agg #[.I o',.U p',.slice s' r' q',.slice v' u' t']] m λv r=> ∃w y C A z F E D,v=.agg #[.I w,.U y,.slice C A z,.slice F E D]/\Cc r l 3 (.slice n T t)/\aQ r (.cells #[.I w,.U y,.slice C A z,.slice F E D] 262) λN s=>Cc s l 3 (.slice n T t)/\aU Tryz.prog (Builtin.append_ #[260,260] 260 #[.slice n T t,.slice (Sa N 0) 1 1]) s λE' U=> ∃K J G,E'=.slice K J G/\aO U (AA l 3) (.slice K J G) λp=>(I (wrap .i64 (t9+1)) p/\M (wrap .i64 (t9+1)) p<M t9 H)else aa.LD H (AA l 0) λw' x' A' z' y' D' C' B'=>aa.ST H (AA b 0) w' x' A' z' y' D' C' B' λq=>aa.LD q (AA b 0) λY Z c' b' a' f' e' d'=>R (.agg #[.I Y,.U Z,.slice c' b' a',.slice f' e' d']) q):Cl 247 #[.slice u L W] h R:=aN (lq (lq (sq (lq (bq (.loop [(9,.one (.int .i64))] (lq (sq (cq lf lf) (sq (bq (lq (pN 8))) lf)))))) ll))) Tryz.func247 V
theorem xa.walk{b:cg}{A a:Nat}(H: ∃(t6:ByteArray),pH Tryz.prog 22 9 (.slice b A a) h t6/\∃(t8:ByteArray),pH Tryz.prog 22 9 (.slice k j B) h t8/\R (.bool (t6.toList==t8.toList)) h):Cl 82 #[.slice b A a,.slice k j B] h R:=aN (lq ll) Tryz.func82 H
theorem Kt.walk{A:Int}{m:Int}{p:cg}{o n:Nat}{s:cg}{r q:Nat}{t:Int}{a:Int}{y:cg}{w u:Nat}{D:cg}{C z:Nat}(G:aQ h (.cells #[.I A,.U m,.slice p o n,.slice s r q] 262) λb E=>aQ E (.cells #[.I t,.U a,.slice y w u,.slice D C z] 262) λa H=>Hi H b 0 λt6=> ∃t8,Cc H a 0 (.I t8)/\if(t6==t8)then Hu H b 1 λt12=> ∃t14,Cc H a 1 (.U t14)/\if(t12==t14)then Hl H b 2 λJ I T=>Hl H a 2 λM L K=>Cl 82 #[.slice J I T,.slice M L K] H λv l=> ∃t22,v=.bool t22/\if t22 then Hl l b 3 λP O N=>Hl l a 3 λU S Q=>Cl 289 #[.slice P O N,.slice U S Q,.func (.func 248) #[] #[]] l λV F=> ∃t29,V=.bool t29/\R (.bool t29) F else R (.bool false) l else R (.bool false) H else R (.bool false) H):Cl 248 #[.agg #[.I A,.U m,.slice p o n,.slice s r q],.agg #[.I t,.U a,.slice y w u,.slice D C z]] h R:=aN (lq ll) Tryz.func248 G
theorem gk.same.walk{p:cg}{s w:Nat}{q:cg}{S y:Nat}(u:if((s:Int) !=(S:Int))then R (.bool false) h else∃(I:Int->aj->Prop)(M:Int->aj->Nat),I 0 h/\∀(t17:Int)(H:aj),I t17 H->if(decide (t17<(s:Int)))then Bd t17 s/\aM p λa=>aa.LD H (a.add (toNat t17*4)) λT z E D C J G F=>aQ H (.cells #[.I 0,.U 0,.Z,.Z] 262) λb r=>aa.ST r (AA b 0) T z E D C J G F λo=>Bd t17 S/\aM q λA=>aa.LD o (A.add (toNat t17*4)) λK L P O N V U Q=>aQ o (.cells #[.I 0,.U 0,.Z,.Z] 262) λn t=>aa.ST t (AA n 0) K L P O N V U Q λl=>aa.LD l (AA b 0) λW Y b' a' Z e' d' c'=>aa.LD l (AA n 0) λf' g' j' i' h' m' l' k'=>Cl 248 #[.agg #[.I W,.U Y,.slice b' a' Z,.slice e' d' c'],.agg #[.I f',.U g',.slice j' i' h',.slice m' l' k']] l λv m=> ∃t29,v=.bool t29/\if(!t29)then R (.bool false) m else(I (wrap .i64 (t17+1)) m/\M (wrap .i64 (t17+1)) m<M t17 H)else R (.bool true) H):Cl 289 #[.slice p s w,.slice q S y,.func (.func 248) #[] #[]] h R:=aN (lq (sq (lq (cq ll lf)) (sq (lq (bq (.loop [(17,.one (.int .i64))] (lq (sq (cq lf lf) (sq (bq (lq (lq (lq (cq ll lf))))) lf)))))) ll))) Tryz.func289 u
theorem MR.walk(o:aQ h (.cells #[.I x,.U X,.slice e d c,.slice i g f] 262) λb H=> ∃t4,Cc H b 0 (.I t4)/\if(t4==0)then∃F m E,Cc H b 2 (.slice F m E)/\if(((m:Nat):Int)==0)then∃q t p,Cc H b 3 (.slice q t p)/\R (.bool (((t:Nat):Int)==0)) H else R (.bool false) H else if(t4==2)then∃t20,Cc H b 1 (.U t20)/\if(t20==0)then∃s T r,Cc H b 3 (.slice s T r)/\R (.bool (((T:Nat):Int)==0)) H else R (.bool false) H else if(t4==3)then∃t31,Cc H b 1 (.U t31)/\if(t31==0)then∃w a u,Cc H b 3 (.slice w a u)/\if(((a:Nat):Int)==0)then Hl H b 2 λA z y=>Cl 316 #[.slice A z y] H λv n=> ∃t42,v=.bool t42/\R (.bool t42) n else R (.bool false) H else R (.bool false) H else if(t4==4)then∃t47,Cc H b 1 (.U t47)/\if(t47==0)then∃D l C,Cc H b 2 (.slice D l C)/\R (.bool (((l:Nat):Int)==0)) H else R (.bool false) H else R (.bool false) H):Cl 298 #[.agg #[.I x,.U X,.slice e d c,.slice i g f]] h R:=aN (lq (sq (lq (bq (lq (cq ll (lq (cq ll (lq (cq ll (lq (cq ll lf)))))))))) ll)) Tryz.func298 o
theorem Ku.walk{deep:Int}{left:Int}(s:aQ h (.cells #[.I x,.U X,.slice e d c,.slice i g f] 262) λb l=>aG (λ(t19:Bool) (m:aj)=>if t19 then R (.I (-1)) m else Hl m b 3 λE t e'=> ∃(I:Int->Int->aj->Prop)(M:Int->Int->aj->Nat),I (wrap .i64 (left - 1)) 0 m/\∀(L:Int)(t25:Int)(H:aj),I L t25 H->if(decide (t25<(t:Int)))then Bd t25 t/\aM E λa=>aa.LD H (a.add (toNat t25*4)) λF G O N K S Q P=>aQ H (.cells #[.I 0,.U 0,.Z,.Z] 262) λo q=>aa.ST q (AA o 0) F G O N K S Q P λp=>aa.LD p (AA o 0) λU V Z Y W c' b' a'=>Cl 260 #[.agg #[.I U,.U V,.slice Z Y W,.slice c' b' a'],.I (wrap .i64 (deep+1)),.I L] p λv n=> ∃t33,v=.I t33/\if(decide (t33<0))then R (.I (-1)) n else(I t33 (wrap .i64 (t25+1)) n/\M t33 (wrap .i64 (t25+1)) n<M L t25 H)else R (.I L) H) (λJ=>if(decide (deep>6))then J true l else if(decide (left<1))then J true l else aa.LD l (AA b 0) λT u z y w D C A=>Cl 298 #[.agg #[.I T,.U u,.slice z y w,.slice D C A]] l λd' r=> ∃t17,d'=.bool t17/\J (!t17) r)):Cl 260 #[.agg #[.I x,.U X,.slice e d c,.slice i g f],.I deep,.I left] h R:=aN (lq (sq (sq (.join [(19,.one (.bool))] lf) (cq ll lf)) (lq (sq (lq (bq (.loop [(2,.one (.int .i64)),(25,.one (.int .i64))] (lq (sq (cq lf lf) (sq (bq (lq (lq (lq (cq ll lf))))) lf)))))) ll)))) Tryz.func260 s
theorem GY.walk(l:aQ h (.cells #[.I x,.U X,.slice e d c,.slice i g f] 262) λb H=>aa.LD H (AA b 0) λt T o n m r q p=>Cl 260 #[.agg #[.I t,.U T,.slice o n m,.slice r q p],.I 1,.I 256] H λv a=> ∃t4,v=.I t4/\R (.bool (decide (t4≥0))) a):Cl 207 #[.agg #[.I x,.U X,.slice e d c,.slice i g f]] h R:=aN (lq ll) Tryz.func207 l
theorem MS.walk{K:cg}{G F:Nat} (hv:aQ h (.cells #[.I x,.U X,.slice e d c,.slice i g f] 262) λb m=>Hu m b 1 λt11=>Hi m b 0 λt13=>aG (λ(n:Int) (y:aj)=>Hi y b 0 λt29=>Cl 261 #[.agg #[.I t29,.U n,.bool false]] y λv z=> ∃S Q P i',v=.tuple #[.slice S Q P,.I i']/\Hl z b 2 λW V U=>aU Tryz.prog (Builtin.append_ #[22,22] 22 #[.slice K G F,.slice S Q P]) z λG' A=>Vl G' λl' k' j'=>Cc A b 2 (.slice W V U)/\aU Tryz.prog (Builtin.append_ #[22,22] 22 #[.slice l' k' j',.slice W V U]) A λH' C=>Vl H' λo' n' m'=>Hl C b 3 λp' Y J'=> ∃(I:cg->Nat->Nat->Int->aj->Prop)(M:cg->Nat->Nat->Int->aj->Nat),I o' n' m' 0 C/\∀(p:cg)(O o:Nat)(t44:Int)(l:aj),I p O o t44 l->if(decide (t44<(Y:Int)))then Bd t44 Y/\aM p' λa=>aa.LD l (a.add (toNat t44*4)) λq' r' u' t' s' x' w' v'=>aQ l (.cells #[.I 0,.U 0,.Z,.Z] 262) λw b'=>aa.ST b' (AA w 0) q' r' u' t' s' x' w' v' λD=>aa.LD D (AA w 0) λy' z' C' B' A' F' E' D'=>Cl 208 #[.slice p O o,.agg #[.I y',.U z',.slice C' B' A',.slice F' E' D']] D λI' E=> ∃q T t,I'=.slice q T t/\(I q T t (wrap .i64 (t44+1)) E/\M q T t (wrap .i64 (t44+1)) E<M p O o t44 l)else R (.slice p O o) l) (λJ=>aG (λ(t14:Bool) (H:aj)=>aG (λ(c':Int) (Z:aj)=>J c' Z) (λs=>if t14 then∃f' L e',Cc H b 2 (.slice f' L e')/\s (wrap .u64 ((L:Nat):Int)) H else aG (λ(d':Int) (a':aj)=>s d' a') (λu=>if(t13==4)then∃h' N g',Cc H b 3 (.slice h' N g')/\u (wrap .u64 ((N:Nat):Int)) H else u t11 H))) (λr=>if(t13==2)then r (t13==2) m else r (t13==3) m))):Cl 208 #[.slice K G F,.agg #[.I x,.U X,.slice e d c,.slice i g f]] h R:=aN (lq (lq (sq (lq (.join [(5,.one (.int .u64))] (bq (sq (lq (.join [(14,.one (.bool))] (cq lf lf))) (.join [(5,.one (.int .u64))] (cq lf (lq (.join [(5,.one (.int .u64))] (cq lf lf))))))))) (lq (sq (.gY (.op 0 (.op 1 (.op 3 (.op 4 (.op 2 (.op 5 (.op 6 .done)))))))) (sq (lq (bq (.loop [(0,.one (.slice)),(44,.one (.int .i64))] (lq (sq (cq lf lf) (sq (bq ll) lf)))))) ll)))))) Tryz.func208 hv
theorem GZ.walk(n:aQ h (.cells #[.I x,.U X,.slice e d c,.slice i g f] 262) λb a=>aa.LD a (AA b 0) λo p s r q y w u=>Cl 207 #[.agg #[.I o,.U p,.slice s r q,.slice y w u]] a λv H=> ∃t5,v=.bool t5/\if(!t5)then R (.tuple #[.Z,.I 3]) H else aa.LD H (AA b 0) λz A E D C I G F=>Cl 208 #[.Z,.agg #[.I z,.U A,.slice E D C,.slice I G F]] H λV m=> ∃l T t,V=.slice l T t/\R (.tuple #[.slice l T t,.I 0]) m):Cl 178 #[.agg #[.I x,.U X,.slice e d c,.slice i g f]] h R:=aN (lq (sq (lq (cq ll lf)) ll)) Tryz.func178 n

end
section
namespace Cb
variable {h h':aj} {R:fj} {p:cg} {l c:Nat} {bs:cH}
variable {D:Nat->Prop} {t:Tr} {x:CV} {g0:aj} {bb cl:Nat} {k n:Int} {v:BV} {ts:List Tr} {ys:List CV} {q:cg}
def rZ(h:aj)(D:Nat->Prop)(t:Tr)(x:CV):Prop:=(x.k=t.k/\x.n=t.n/\x.v.b=t.b/\x.v.ok h D)/\∃ys:List CV,x.ll=ys.length/\fi h x.q ys.length x.cl 4 (ys.flatMap hT)/\(∀y,aL x.q y->D y)/\dc h (λy=>D y/\¬aL x.q y) t.l ys
theorem rZ.Q3(H:rZ h D t x):gE h D t x:=by
 obtain⟨e,ys,a,d,f,g⟩:=H;cases t with
 |mk k n b l=>
  unfold gE;exact⟨e,ys,⟨a,d.jb,λ_=>f,by rw[a];exact d.le⟩,dc.mono (λ_ i=>i.1) g⟩
structure PG (g0 g:aj) (bb:Nat) (k n:Int) (v:BV) (ts:List Tr) (ys:List CV) (q:cg) (cl:Nat):Prop where
 cQ:aa.at g bb k n v.p v.b.length v.c q ys.length cl
 own:fi g q ys.length cl 4 (ys.flatMap hT)
 ge: ∀y,aL q y->g0.size<=y
 tr:dc g (λy=>g0.size<=y/\¬aL q y) ts ys
 fr:Fr (λy=>y=bb) g0 g
theorem EN{g:aj}{y:CV}{Φ:aj->Prop}(L:PG g0 g bb k n v ts ys q cl)(w':bb<g0.size)(ll:ys.length<=100000000)(V: ∀(G:aj)(R:fj),Fr No g G->(∀h' z,rZ h' (λc=>G.size<=c) t z->Fr No G h'->R z.agg h')->Cl 288 #[y.agg] G R)(hk: ∀m Y Q C,PG g0 m bb k n v (ts++ [t]) Y Q C->Y.length=ys.length+1->Φ m):
  aQ g (.cells #[.I 0,.U 0,.Z,.Z] 262) λB e'=>
  aa.ST e' (AA B 0) y.k (y.n:Int) y.v.p y.v.b.length y.v.c y.q y.ll y.cl λj=>
  ∃(f:cg)(d T:Nat),aX j (AA bb 3)=some (.slice f d T)/\
  aa.LD j (AA B 0) λk' l' o' n' m' r' q' p'=>
  Cl 288 #[.agg #[.I k',.U l',.slice o' n' m',.slice r' q' p']] j λs' s=>
  ∃(w A:Int)(J:cg)(I E:Nat)(O:cg)(M K:Nat),s'=.agg #[.I w,.U A,.slice J I E,.slice O M K]/\
  aX s (AA bb 3)=some (.slice f d T)/\
  aQ s (.cells #[.I w,.U A,.slice J I E,.slice O M K] 262) λX r=>
  aX r (AA bb 3)=some (.slice f d T)/\
  aU Tryz.prog (Builtin.append_ #[260,260] 260 #[.slice f d T,.slice (Sa X 0) 1 1]) r λt' c'=>
  ∃(U:cg)(S P:Nat),t'=.slice U S P/\
  aO c' (AA bb 3) (.slice U S P) λd'=>Φ d':=by
 have zg:=L.fr.1;refine aa.new λb2 h8 u' f' f8=>⟨_,_,_,ak (f8.get L.cQ id),aa.ld f' (V h8 _ f8 λh9 z tz f9=>⟨_,_,_,_,_,_,_,_,rfl,ak ((f8.tt f9).get L.cQ id),aa.box λb3 a' v' g' f10=>⟨ak (((f8.tt f9).tt f10).get L.cQ id),?_⟩⟩)⟩
 have F:=(f8.tt f9).tt f10;have z8:=f8.1;have z9:=f9.1;have x':=f10.1;have i':=L.own.frame F cu;have u: ∀y,aL q y->y<g.size:=λy H=>L.own.dV H
 refine dY tI uI i' (ds:=hT z) (.inr ⟨_,rfl,aa.held g'⟩) rfl (oe z) af af λQ C b' j' _ f11 i=>⟨_,_,_,rfl,?_⟩
 have y':=f11.1;have W:=f11.get (F.get L.cQ id) (λH=>bX (L.ge _ H));refine bH W (by show 3<4;omega) λo d1 d2 d3=> ?_
 have f12:Fr (λy=>y=bb) b' o:=Fr.of_eq d2 (λc hc=>d3 c hc);have N: ∀y,aL Q y->g0.size<=y:=λy H=>by
  rcases i y H with a|a
  .exact L.ge y a
  .omega
 have Z:ys.flatMap hT++hT z=(ys++ [z]).flatMap hT:=by rw[cW];simp
 refine hk o (ys++ [z]) Q C ⟨?_,?_,N,?_,?_⟩ bO
 .rw[av];exact d1
 .rw[av,<-Z];exact j'.frame f12 (λy H e=>bX (N y H))
 .have t1:=(dc.on L.tr.lt F).frame f11 (λy H b=>H.1.2 b);have t2:=gE.mono (D':=λy=>g.size<=y/\y<a'.size) (λy H=>af) (tz.Q3.lt.on f10);have t2:=gE.frame f11 (λy H b=>bX (u y b)) t2;have m1:=dc.mono (D':=λy=>g0.size<=y/\¬aL Q y) (λy H=>⟨H.1.1,λb=>by
   rcases i y b with a|a
   .exact H.1.2 a
   .have:=H.2;omega⟩) t1
  have m2:=gE.mono (D':=λy=>g0.size<=y/\¬aL Q y) (λy H=>⟨af,λb=>by
   rcases i y b with a|a
   .have:=u y a;omega
   .omega⟩) t2
  exact dc.frame f12 (λy H e=>af) (m1.snoc m2)
 .exact((L.fr.on F).trans f11 (S'':=λy=>y=bb) cu (λx hx H=>bX (L.ge x H))).trans f12 cu cu
theorem fN{n:Nat}(hk: gU h R (CV.agg ⟨0,n,⟨none,0, []⟩,none,0,0⟩)):Cl 205 #[.U (n:Int)] h R:=
 MQ.walk (aa.new λb H e a f2=>aa.ld a (hk H f2))
theorem Qr{n:Nat}:rZ h D (num n) ⟨0,n,⟨none,0, []⟩,none,0,0⟩:=
 ⟨⟨rfl,rfl,rfl,⟨Row.nil,λe=>absurd rfl e,bk _⟩⟩, [],rfl,.nil rfl rfl rfl rfl,(λy ⟨a,e,_⟩=>by cases e),by show dc h _ [] [];unfold dc;trivial⟩
theorem jh(row:Row h p (bc bs))(j:l=bs.length)(o:bs.length<=1000000)(hk: ∀h' (v:BV),v.b=bs->v.ok h' (λy=>h.size<=y)->Fr No h h'->R (CV.agg ⟨2,0,v,none,0,0⟩) h'):Cl 210 #[.slice p l c] h R:=by
 refine GX.walk (aa.box λb m E d f1=>iD.hC (row.frame f1 cu) j af λP C f o2 f2 g=>⟨_,_,_,rfl,aa.set (f2.get d id) λa d1 d2 d3=>aa.ld d1 ?_⟩);have z:=f1.1;have f3:Fr (λy=>y=b) f a:=Fr.of_eq d2 (λc i=>d3 c i);refine hk a ⟨P,C,bs⟩ rfl (BV.j9 (o2.frame f3 (λy H e=>gF (g y H) (aC d))) (λy H=>bX (g y H))) ((f1.tt f2).fresh f3 (λy e=>af))
theorem lT{l:List Tr}(h:t∈l):room t<=dw l:=by
 induction l with
 |nil=>cases h
 |cons u l i=>
  simp only[dw];rcases bJ.1 h with rfl|h
  .omega
  .have:=i h;omega
theorem PG.zero(H:aa.at g0 bb k n v.p v.b.length v.c none 0 0):PG g0 g0 bb k n v [] [] none 0:=
 ⟨H,.nil rfl rfl rfl rfl,(λy ⟨a,e,_⟩=>by cases e),by unfold dc;trivial,Fr.refl _ _⟩
theorem zN: ∀(N:Nat)(t:Tr),deep t<=N->room t<=100000000->∀(h:aj)(D:Nat->Prop)(x:CV)(R:fj),gE h D t x->(∀h' z,rZ h' (λy=>h.size<=y) t z->Fr No h h'->R z.agg h')->Cl 288 #[x.agg] h R
 |0,.mk k n b l,hd,_,_,_,_,_,_,_=>by simp only[deep]at hd;omega
 |N+1,.mk k n b l,hd,Z,h,D,x,R,B,hk=>by
  simp only[deep]at hd;simp only[room]at Z;unfold gE at B;obtain⟨⟨rfl,rfl,rfl,a'⟩,ys,j,T⟩:=B;have lt:=T.len;have l9:=gB l;have e0:=j.len;refine EM.walk (aa.box λbb h1 d' m f1=>aa.box λb1 h2 c' s f2=>⟨_,_,_,ak (f2.get m id),iD.hC ((a'.row.frame f1 cu).frame f2 cu) rfl af λP C W o3 f3 G=>⟨_,_,_,rfl,bH (f3.get (f2.get m id) id) (by show 2<4;omega) λr d1 d2 d3=>⟨_,_,_,ak d1,bH d1 (by show 3<4;omega) λf e1 e2 S=> ?_⟩⟩⟩);have i':=aC m;have f':=aC s;have z1:=f1.1;have z2:=f2.1;have z3:=f3.1;have f4:Fr (λy=>y=bb) W r:=Fr.of_eq d2 (λc d=>d3 c d);have f5:Fr (λy=>y=bb) r f:=Fr.of_eq e2 (λc d=>S c d);have J:=f1.tt (f2.tt f3);have K:Fr No h f:=(J.fresh f4 (λy e=>af)).fresh f5 (λy e=>af);have X:=f5.get (f4.get (f3.get s id) af) af;have o5:=(o3.frame f4 (λy H e=>bX (G y H))).frame f5 (λy H e=>bX (G y H));have I:=PG.zero (g0:=f) (bb:=bb) (k:=x.k) (n:=(x.n:Int)) (v:=⟨P,C,x.v.b⟩) e1;refine⟨λt g=> ∃(i:Nat)(zs:List CV)(q:cg)(cl:Nat),t=(i:Int)/\i<=ys.length/\PG f g bb x.k (x.n:Int) ⟨P,C,x.v.b⟩ (l.take i) zs q cl/\zs.length=i,λt _=>ys.length - t.toNat,⟨0, [],none,0,rfl,bL _,by rw[eh];exact I,rfl⟩,?_⟩;rintro _ g ⟨i,zs,q,cl,rfl,hi,L,lz⟩;have F:Fr No h g:=K.fresh L.fr (λy e=>af);by_cases u:i<ys.length
  .rw[fY];have H:ys[i]? =some ys[i]:=ai u;generalize ys[i]=y at H;obtain⟨t,w,ty⟩:=T.get H;have tm:=aT w;have d1:=qV tm;have r1:=lT tm;obtain⟨a,E⟩:=j.row.some (by intro e;have:=bT List.length e;rw[eS hT 4 gu,bm]at this;omega);rw[E];have A:=j.row.frame F cu;rw[E]at A;refine⟨af,ay.2 (aa.yH (by rw[aD];exact A.fL gu H) (EN (t:=t) L af af (λV O U Y=>zN N t af af V D y O (ty.on (F.tt U)) Y) λg' b' q' Q M e'=> ?_))⟩;rw[bA (n:=(i:Int)+1) af af];refine⟨⟨i+1,b',q',Q,af,af,?_,af⟩,by show ys.length - Int.toNat ((i:Int)+1)<ys.length - Int.toNat (i:Int);omega⟩;rw[bD,w];exact M
  .rw[ae (λe=>u (bX (aP e)))];rw[bB (show l.length<=i by omega)]at L;refine aa.ld L.cQ (aa.set (L.fr.get X af) λo k1 k2 k3=>aa.ld k1 ?_);have f13:Fr (λy=>y=b1) g o:=Fr.of_eq k2 (λc d=>k3 c d);have og:=o5.frame L.fr (λy H e=>bX (G y H));refine hk o ⟨x.k,x.n,⟨P,C,x.v.b⟩,q,zs.length,cl⟩ ⟨⟨rfl,rfl,rfl,BV.j9 (og.frame f13 (λy H e=>bX (G y H))) (λy H=>bX (G y H))⟩,zs,rfl,L.own.frame f13 (λy H e=>r7 (L.ge y H) f4.1 f5.1),(λy H=>r7 (L.ge y H) f4.1 f5.1),?_⟩ (F.fresh f13 (λy e=>af));exact dc.mono (λy H=>⟨r7 H.1 f4.1 f5.1,H.2⟩) (dc.frame f13 (λy H e=>r7 H.1 f4.1 f5.1) L.tr)
theorem qX(T:gE h D t x)(H:room t<=100000000)(hk: ∀h' z,rZ h' (λy=>h.size<=y) t z->Fr No h h'->R z.agg h'):Cl 288 #[x.agg] h R:=
 zN (deep t) t (bk _) H h D x R T hk
theorem jF(b:mz h D q l cl ys)(T:dc h D ts ys)(hr:dw ts<=100000000)(hk: ∀h' z,rZ h' (λy=>h.size<=y) (rC ts) z->Fr No h h'->R z.agg h'):Cl 247 #[.slice q l cl] h R:=by
 have lt:=T.len;have l9:=gB ts;have P:=b.len;refine Ks.walk (aa.box λb1 X S j f1=>aa.new λbb f U m f2=> ?_);have c':=aC m;have b':=aC j;have z1:=f1.1;have z2:=f2.1;have s:=f1.tt f2;have E:=f2.get j id;have C:=PG.zero (g0:=f) (bb:=bb) (k:=4) (n:=0) (v:=⟨none,0, []⟩) m;refine⟨λt g=> ∃(i:Nat)(zs:List CV)(q:cg)(cl:Nat),t=(i:Int)/\i<=ys.length/\PG f g bb 4 0 ⟨none,0, []⟩ (ts.take i) zs q cl/\zs.length=i,λt _=>ys.length - t.toNat,⟨0, [],none,0,rfl,bL _,by rw[eh];exact C,rfl⟩,?_⟩;rintro _ g ⟨i,zs,q2,A,rfl,Y,L,lz⟩;have F:Fr No h g:=s.fresh L.fr (λy e=>af);by_cases o:i<ys.length
 .rw[fY];have H:ys[i]? =some ys[i]:=ai o;generalize ys[i]=y at H;obtain⟨t,r,ty⟩:=T.get H;have r1:=lT (aT r);obtain⟨a,rfl⟩:=b.row.some (by intro e;have:=bT List.length e;rw[eS hT 4 gu,bm]at this;omega);have N:=b.row.frame F cu;refine⟨af,ay.2 (aa.yH (by rw[aD];exact N.fL gu H) (EN (t:=t) L af af (λW O B I=>qX (ty.on (F.tt B)) af I) λV Z Q w u a'=> ?_))⟩;rw[bA (n:=(i:Int)+1) af af];refine⟨⟨i+1,Z,Q,w,af,af,?_,af⟩,by show ys.length - Int.toNat ((i:Int)+1)<ys.length - Int.toNat (i:Int);omega⟩;rw[bD,r];exact u
 .rw[ae (λe=>o (bX (aP e)))];rw[bB (show ts.length<=i by omega)]at L;refine aa.ld L.cQ (aa.set (L.fr.get E af) λd K J M=>aa.ld K ?_);have f13:Fr (λy=>y=b1) g d:=Fr.of_eq J (λc G=>M c G);refine hk d ⟨4,0,⟨none,0, []⟩,q2,zs.length,A⟩ ⟨⟨rfl,rfl,rfl,⟨Row.nil,λe=>absurd rfl e,bk _⟩⟩,zs,rfl,L.own.frame f13 (λy H e=>bX (L.ge y H)),(λy H=>bX (L.ge y H)),?_⟩ (F.fresh f13 (λy e=>af));exact dc.mono (λy H=>⟨bX H.1,H.2⟩) (dc.frame f13 (λy H e=>bX H.1) L.tr)

end Cb
end
section
namespace Cb
variable {V:cH→Bool} {h H h':aj} {R:fj} {D:Nat→Prop}
variable {t:Tr} {x:CV}
theorem G0{α:Type}(b:List α):(((b.length:Int))==0)=b.isEmpty:=by
 cases b with
 |nil=>rfl
 |cons a b=>simp only[aV,List.isEmpty_cons,dC,ft];omega
theorem G1(U:mE V H)(u:Fr No H h)(T:gE h D t x)(q:room t<=1000000)(hk: gU h R (.bool (LB V t.k t.n t.b t.l))):Cl 298 #[x.agg] h R:=by
 cases t with
 |mk k n b l=>
  simp only[room]at q;unfold gE at T;obtain⟨⟨rfl,rfl,rfl,O⟩,ys,L,p⟩:=T;have ll:x.ll=l.length:=by rw[L.len,p.len]
  have hk: ∀h' o,o=LB V x.k x.n x.v.b l->Fr No h h'->R (.bool o) h':=λh' o e f=>by rw[e];exact hk h' f
  unfold LB at hk;have N:((x.n:Int)==0)=decide (x.n=0):=by by_cases e:x.n=0<;>simp[e]
  refine MR.walk (aa.box λbb a E c f1=>⟨_,ak c,?_⟩);by_cases K:x.k=0
  .rw[ag (cy K)];simp only[K,bf]at hk;refine⟨_,_,_,ak c,?_⟩;rw[G0];by_cases e:x.v.b.isEmpty=true
   .rw[ag e];refine⟨_,_,_,ak c,hk a _ ?_ f1⟩;rw[ll,G0,e];rfl
   .rw[ae e];refine hk a _ ?_ f1;rw[show x.v.b.isEmpty=false by cases m:x.v.b.isEmpty with|false=>rfl|true=>exact absurd m e];rfl
  rw[ae (cy K)];simp only[K,aJ]at hk;by_cases d:x.k=2
  .rw[ag (cy d)];simp only[d,bf]at hk;refine⟨_,ak c,?_⟩;rw[N];by_cases e:x.n=0
   .rw[ag (au e)];refine⟨_,_,_,ak c,hk a _ ?_ f1⟩;rw[ll,G0,au e];rfl
   .rw[ae (by rw[az e];decide)];refine hk a _ ?_ f1;rw[az e];rfl
  rw[ae (cy d)];simp only[d,aJ]at hk;by_cases i:x.k=3
  .rw[ag (cy i)];simp only[i,bf]at hk;refine⟨_,ak c,?_⟩;rw[N];by_cases e:x.n=0
   .rw[ag (au e)];refine⟨_,_,_,ak c,?_⟩;rw[ll,G0];by_cases e2:l.isEmpty=true
    .rw[ag e2];exact⟨_,_,_,ak c,U a _ _ x.v.b _ (u.tt f1) (O.row.frame f1 cu) af O.cap λg F=>⟨_,rfl,hk g _ (by rw[au e,e2];rfl) (f1.tt F)⟩⟩
    .rw[ae e2];refine hk a _ ?_ f1;rw[show l.isEmpty=false by cases m:l.isEmpty with|false=>rfl|true=>exact absurd m e2,Bool.and_false];rfl
   .rw[ae (by rw[az e];decide)];refine hk a _ ?_ f1;rw[az e];rfl
  rw[ae (cy i)];simp only[i,aJ]at hk;by_cases j:x.k=4
  .rw[ag (cy j)];simp only[j,bf]at hk;refine⟨_,ak c,?_⟩;rw[N];by_cases e:x.n=0
   .rw[ag (au e)];refine⟨_,_,_,ak c,hk a _ ?_ f1⟩;rw[G0,au e];rfl
   .rw[ae (by rw[az e];decide)];refine hk a _ ?_ f1;rw[az e];rfl
  rw[ae (cy j)];simp only[j,aJ]at hk;exact hk a _ rfl f1
theorem EO(U:mE V H): ∀(N:Nat)(t:Tr),deep t<=N->room t<=1000000->∀(h:aj)(D:Nat->Prop)(x:CV)(d left:Int)(R:fj),Fr No H h->gE h D t x->0<=d->d<=7->left<=1000->
  (gU h R (.I (mO V t d left)))->Cl 260 #[x.agg,.I d,.I left] h R
 |0,.mk k n b l,hd,_,_,_,_,_,_,_,_,_,_,_,_,_=>by simp only[deep]at hd;omega
 |N+1,.mk k n b l,hd,w,h,D,x,d,left,R,u,T,d0,d7,hl,hk=>by
  have Y:=T;simp only[deep]at hd;have S:=w;simp only[room]at w;unfold gE at T;obtain⟨⟨rfl,rfl,rfl,d'⟩,ys,L,m⟩:=T;have lt:=m.len;have l9:=gB l;have e0:=L.len;refine Ku.walk (aa.box λbb p b' s f1=>aG.of λJ r=> ?_);have bad: ∀g,Fr No h g->mO V (.mk x.k x.n x.v.b l) d left= -1->J true g:=λg f c=>by
   subst r;dsimp only;rw[ag rfl];have:=hk g f;rw[c]at this;exact this
  by_cases c1:d>6
  .rw[ag (au c1)];exact bad p f1 (by unfold mO;rw[ag (.inl c1)])
  rw[ae (λe=>c1 (aP e))];by_cases C:left<1
  .rw[ag (au C)];exact bad p f1 (by unfold mO;rw[ag (.inr C)])
  rw[ae (λe=>C (aP e))];have B: ¬(d>6\/left<1):=λe=>e.elim c1 C
  unfold mO at hk bad;rw[ae B]at hk bad;refine aa.ld s (G1 U (u.tt f1) (Y.on f1) S λI f2=>⟨_,rfl,?_⟩);simp only[Tr.k,Tr.n,Tr.b,Tr.l];generalize LB V x.k x.n x.v.b l=o at hk bad⊢;cases o with
  |false=>exact bad I (f1.tt f2) (by rw[dj])
  |true=>
   rw[ag rfl]at hk;subst r;rw[dj];have P:=f2.get s id;refine⟨_,_,_,ak P,?_⟩;rw[bA (n:=left - 1) af af];refine⟨λlf t g=> ∃i:Nat,t=(i:Int)/\i<=ys.length/\Fr No h g/\lf<=1000/\0<=lf/\me V (l.drop i) (d+1) lf=me V l (d+1) (left - 1),λ_ t _=>ys.length - t.toNat,⟨0,rfl,bL _,f1.tt f2,af,af,rfl⟩,?_⟩;rintro lf _ g ⟨i,rfl,hi,f,W,c',c⟩;by_cases v:i<ys.length
   .rw[fY];have j:ys[i]? =some ys[i]:=ai v;generalize ys[i]=y at j;obtain⟨t,z,ty⟩:=m.get j;have tm:=aT z;have Z:=qV tm;have rm:=lT tm;have G:l.drop i=t::l.drop (i+1):=by
     obtain⟨q1,q2⟩:=aA.1 z;rw[cR q1,q2]
    rw[G]at c;obtain⟨a,E⟩:=L.row.some (by intro e;have:=bT List.length e;rw[eS hT 4 gu,bm]at this;omega);rw[E];have A:=L.row.frame f cu;rw[E]at A;refine⟨af,ay.2 (aa.yH (by rw[aD];exact A.fL gu j) (aa.new λb1 K a' O f5=>aa.ld O ?_))⟩;rw[bA (n:=d+1) af af];refine EO U N t af af K D y (d+1) lf _ (u.tt (f.tt f5)) (ty.on (f.tt f5)) af af W λM f6=>⟨_,rfl,?_⟩
    have F:=f.tt (f5.tt f6);have X:=D1 (V:=V) (t:=t) (d:=d+1) (left:=lf);conv at c=>lhs;unfold me
    generalize mO V t (d+1) lf=q at c X⊢;by_cases Q:q<0
    .rw[ag (au Q)];rw[ag Q]at c;have:=hk M F;rw[<-c]at this;exact this
    .rw[ae (λe=>Q (aP e)),bA (n:=(i:Int)+1) af af];rw[ae Q]at c;exact⟨⟨i+1,af,af,F,af,af,c⟩,by show ys.length - Int.toNat ((i:Int)+1)<ys.length - Int.toNat (i:Int);omega⟩
   .rw[ae (λe=>v (bX (aP e)))];rw[dZ (show l.length<=i by omega)]at c;have:=hk g f;rw[<-c]at this;unfold me at this;exact this
theorem fc(U:mE V H)(u:Fr No H h)(T:gE h D t x)(d:room t<=1000000)(hk: gU h R (.bool (gK V t))):Cl 207 #[x.agg] h R:=
 GY.walk (aa.box λbb a e c f1=>aa.ld c (EO U (deep t) t (bk _) d a D x 1 256 _ (u.tt f1) (T.on f1) dH dH dH λb f2=>⟨_,rfl,hk b (f1.tt f2)⟩))

end Cb
end
section
namespace Cb
variable {h:aj} {R:fj} {D D':Nat→Prop}
theorem oT{p q:cg}{n m c d:Nat}{a b:cH}(r:Row h p (bc a))(g:Row h q (bc b))(f:n=a.length)(H:m=b.length)(hk:R (.bool (decide (a=b))) h):Cl 82 #[.slice p n c,.slice q m d] h R:=by
 refine xa.walk ⟨_,iD.conv r f,_,iD.conv g H,?_⟩;rw[nK,nK];have:(a==b)=decide (a=b):=by by_cases e:a=b<;>simp[e]
 rw[this];exact hk
theorem EP: ∀(N:Nat)(t s:Tr),deep t<=N->room t<=100000000->∀(h:aj)(D D':Nat->Prop)(x y:CV)(R:fj),gE h D t x->gE h D' s y->(gU h R (.bool (nC t s)))->Cl 248 #[x.agg,y.agg] h R
 |0,.mk k n b l,_,hd,_,_,_,_,_,_,_,_,_,_=>by simp only[deep]at hd;omega
 |N+1,.mk k n b l,.mk k' n' b' L,hd,c',h,D,D',x,y,R,M,ty,hk=>by
  simp only[deep]at hd;simp only[room]at c';unfold gE at M ty;obtain⟨⟨rfl,rfl,rfl,d'⟩,xs,p,T⟩:=M;obtain⟨⟨rfl,rfl,rfl,e'⟩,ys,r,A⟩:=ty;have lx:=T.len;have ly:=A.len;have l9:=gB l;have ex:=p.len;have S:=r.len;refine Kt.walk (aa.box λb1 h1 f' W f1=>aa.box λb2 j g' o f2=> ?_);have F:=f1.tt f2;have m:=f2.get W id;have no: ∀g,Fr No h g->nC (.mk x.k x.n x.v.b l) (.mk y.k y.n y.v.b L)=false->R (.bool false) g:=λg f e=>by have:=hk g f;rw[e]at this;exact this
  refine⟨_,ak m,_,ak o,?_⟩;by_cases c1:x.k=y.k
  case neg=>
   rw[ae (cy c1)];exact no j F (by unfold nC;rw[az c1];rfl)
  rw[ag (cy c1)];refine⟨_,ak m,_,ak o,?_⟩;by_cases C:x.n=y.n
  case neg=>
   rw[ae (λe=>C (bX (eq_of_beq e)))];exact no j F (by unfold nC;rw[az C,Bool.and_false];rfl)
  rw[ag (by rw[C];simp)];refine⟨_,_,_,ak m,_,_,_,ak o,oT (d'.row.frame F cu) (e'.row.frame F cu) rfl rfl ⟨_,rfl,?_⟩⟩;by_cases d:x.v.b=y.v.b
  case neg=>
   rw[ae (cy d)];exact no j F (by unfold nC;rw[az d,Bool.and_false];rfl)
  rw[ag (cy d)];have O:nC (.mk x.k x.n x.v.b l) (.mk y.k y.n y.v.b L)=rD l L:=by unfold nC;rw[au c1,au C,au d];simp
  rw[O]at hk;refine⟨_,_,_,ak m,_,_,_,ak o,?_⟩;rw[ex,S];have done: ∀g,Fr No h g->∀q,q=rD l L->∃t29:Bool,Value.bool q=.bool t29/\R (.bool t29) g:=λg f q e=>⟨q,rfl,by rw[e];exact hk g f⟩
  refine gk.same.walk ?_;by_cases cl:xs.length=ys.length
  case neg=>
   rw[ag (by simp only[dX,ft];omega)];refine done j F false ?_;cases Z:rD l L with
   |false=>rfl
   |true=>exact absurd (bT List.length ((yA l L).1 Z)) af
  rw[ae (by simp only[dX,ft];omega)];refine⟨λt g=> ∃i:Nat,t=(i:Int)/\i<=xs.length/\Fr No h g/\rD l L=rD (l.drop i) (L.drop i),λt _=>xs.length - t.toNat,⟨0,rfl,bL _,F,rfl⟩,?_⟩;rintro _ g ⟨i,rfl,hi,f,H⟩;by_cases G:i<xs.length
  .rw[fY];have w:xs[i]? =some xs[i]:=ai G;have z:ys[i]? =some (ys[i]' af):=ai _;generalize xs[i]=u at w;generalize ys[i]' af=v at z;obtain⟨t,I,tu⟩:=T.get w;obtain⟨s,hs,tv⟩:=A.get z;have tm:=aT I;have dm:=qV tm;have rm:=lT tm;have P:l.drop i=t::l.drop (i+1):=by
    obtain⟨q1,q2⟩:=aA.1 I;rw[cR q1,q2]
   have Q:L.drop i=s::L.drop (i+1):=by
    obtain⟨q1,q2⟩:=aA.1 hs;rw[cR q1,q2]
   rw[P,Q]at H;have H:rD l L=(nC t s && rD (l.drop (i+1)) (L.drop (i+1))):=by rw[H];simp only[rD]
   obtain⟨a,E⟩:=p.row.some (by intro e;have:=bT List.length e;rw[eS hT 4 gu,bm]at this;omega);obtain⟨a',B⟩:=r.row.some (by intro e;have:=bT List.length e;rw[eS hT 4 gu,bm]at this;omega);rw[E,B];have J:=p.row;have K:=r.row;rw[E]at J;rw[B]at K;refine⟨af,ay.2 (aa.yH (by rw[aD];exact(J.frame f cu).fL gu w) (aa.new λb3 h3 h' X f3=>⟨af,ay.2 (aa.yH (by rw[aD];exact(K.frame (f.tt f3) cu).fL gu z) (aa.new λb4 U i' Y f4=>aa.ld (f4.get X id) (aa.ld Y ?_)))⟩))⟩;have c:=f.tt (f3.tt f4);refine EP N t s af af U D D' u v _ (tu.on c) (tv.on c) λV f6=>⟨_,rfl,?_⟩
   cases q:nC t s with
   |false=>
    rw[fY];exact done V (c.tt f6) false (by rw[H,q];rfl)
   |true=>
    rw[dj,bA (n:=(i:Int)+1) af af];exact⟨⟨i+1,af,af,c.tt f6,by rw[H,q];rfl⟩,by show xs.length - Int.toNat ((i:Int)+1)<xs.length - Int.toNat (i:Int);omega⟩
  .rw[ae (λe=>G (bX (aP e)))];rw[dZ (show l.length<=i by omega),dZ (show L.length<=i by omega)]at H;exact done g f true (by rw[H];simp only[rD])
theorem iu{t s:Tr}{x y:CV}(T:gE h D t x)(ty:gE h D' s y)(H:room t<=100000000)(hk: gU h R (.bool (nC t s))):Cl 248 #[x.agg,y.agg] h R:=
 EP (deep t) t s (bk _) H h D D' x y R T ty hk

end Cb
end
section
namespace Cb
variable {h h':aj} {R:fj}
variable {m:Int} {n:Nat}
theorem MT(n:Nat):IntKind.wrap .u8 (n:Int)=((UInt8.ofNat n).toNat:Int):=by
 have e:IntKind.wrap .u8 (n:Int)=(n:Int)%256:=by simp[IntKind.wrap,IntKind.bits,IntKind.signed]
 rw[e,fb];omega
theorem Kv{n:Int}(hk: gU h R (.bool (decide (0<=m/\m<=7)))):Cl 299 #[.agg #[.I m,.U n,.bool false]] h R:=by
 refine GS.walk (bt.box λb a E H f1=>⟨_,ak H,?_⟩);rw[dj];have hk:=hk a f1;refine⟨_,ak H,?_⟩;by_cases c1:m≥0
 .rw[ag (au c1)];refine⟨_,ak H,?_⟩;rw[show decide (0<=m/\m<=7)=decide (m<=7) by simp[show 0<=m from c1]]at hk;exact hk
 .rw[ae (λe=>c1 (aP e))];rw[az (λe=>c1 e.1)]at hk;exact hk
theorem BR(hk:R (.I (D2 n:Int)) h):Cl 301 #[.U (n:Int)] h R:=by
 obtain⟨z,H⟩: ∃z:Int,z=(n:Int):=⟨_,rfl⟩;rw[<-H];refine EJ.walk ?_;unfold D2 at hk
 repeat' split
 all_goals simp only[aY]at*
 .rw[fY]at hk;exact hk
 .rw[dj,fY]at hk;exact hk
 .rw[dj,dj,fY]at hk;exact hk
 .rw[dj,dj,dj,fY]at hk;exact hk
 .rw[dj,dj,dj,dj]at hk;exact hk
theorem OW(hk:R (.int .u8 (xf n:Int)) h):Cl 300 #[.U (n:Int)] h R:=by
 refine Kk.walk (BR ⟨_,rfl,?_⟩);unfold xf at hk;unfold D2;by_cases c1:n<24
 .rw[ag c1]at hk⊢;rw[dj,dj,dj,dj];rw[MT,fb,fW af];exact hk
 rw[ae c1]at hk⊢;by_cases c:n<256
 .rw[ag c]at hk⊢;rw[fY];exact hk
 rw[ae c]at hk⊢;by_cases C:n<65536
 .rw[ag C]at hk⊢;rw[dj,fY];exact hk
 rw[ae C]at hk⊢;by_cases a:n<4294967296
 .rw[ag a]at hk⊢;rw[dj,dj,fY];exact hk
 rw[ae a]at hk⊢;rw[dj,dj,dj,fY];exact hk
theorem OX(n:Nat):xf n<32:=by unfold xf;repeat (first|omega|split)
theorem Qs: ∀(m:Fin 8)(z:Fin 32),IntKind.wrap .u8 ((BitVec.ofInt (IntKind.bits .u8) (IntKind.wrap .u8 ((IntKind.wrap .u8 (m.val:Int))*2 ^ min (Int.toNat 5) (IntKind.bits .u8)))|||BitVec.ofInt (IntKind.bits .u8) (z.val:Int)).toNat:Int)=((32*m.val+z.val:Nat):Int):=dH
theorem MU(n k:Nat):Int.fdiv (n:Int) (2 ^ k)=((n/2 ^ k:Nat):Int):=by
 rw[Int.fdiv_eq_ediv_of_nonneg _ (by exact_mod_cast bL (2 ^ k))]
 exact_mod_cast rfl
theorem Kw(hk: ∀h' (p:cg) (C:Nat) (e:Int),Row h' p (bc (LC m n))->(LC m n).length<=C->Fr No h h'->R (.tuple #[.slice p (LC m n).length C,.I e]) h'):Cl 261 #[.agg #[.I m,.U (n:Int),.bool false]] h R:=by
 refine GU.walk (bt.box λb J I d f1=>bt.ld d (Kv λH f2=>⟨_,rfl,?_⟩));by_cases cm:0<=m/\m<=7
 case neg=>
  rw[az cm,fY];have E:LC m n= []:=by unfold LC;rw[ae cm]
  rw[E]at hk;exact hk H none 0 3 Row.nil bO (f1.tt f2)
 rw[au cm,dj];obtain⟨m,rfl⟩:=eK cm.1;have c:=f2.get d id;refine⟨_,ak c,?_⟩;rw[dj];refine⟨_,ak c,_,ak c,OW ⟨_,rfl,ak c,cG ?_⟩⟩;have F:=f1.tt f2;have i32:=OX n;rw[Qs ⟨m,af⟩ ⟨xf n,i32⟩];rw[show(32*(⟨m,af⟩:Fin 8).val+(⟨xf n,i32⟩:Fin 32).val)=32*m+xf n from rfl];have z:((32*m+xf n:Nat):Int)=((UInt8.ofNat (32*m+xf n)).toNat:Int):=by rw[fb,fW af]
 rw[z];have E:LC (m:Int) n=UInt8.ofNat (32*m+xf n)::Po (D2 n) n:=by unfold LC;rw[ag cm,aD]
 rw[E]at hk;generalize UInt8.ofNat (32*m+xf n)=w at hk⊢;have f3:Fr No H (H.push (.cells #[.int .u8 (w.toNat:Int)] 5)):=Fr.push _ _;have O:fi (H.push (.cells #[.int .u8 (w.toNat:Int)] 5)) (Sa H.size 0) 1 1 1 (bc [w]):=.row H.size 0 #[.int .u8 (w.toNat:Int)] 5 rfl bR af bO rfl (λj v q=>by
  cases j with
  |zero=>simpa[bc]using q
  |succ j=>simp[bc]at q)
 generalize H.push (.cells #[.int .u8 (w.toNat:Int)] 5)=M at f3 O⊢;have Z:=f1.1;have T:=f2.1;have U:=aC d;refine⟨ak (f3.get c id),_,ak (f3.get c id),BR ⟨_,rfl,?_⟩⟩;have K:=HW n;generalize D2 n=k at hk K⊢;refine⟨λp L C t g=> ∃(i:Nat),t=(i:Int)/\i<=k/\L=1+i/\fi g p (1+i) C 1 (bc (w::(Po k n).take i))/\(∀y,aL p y->H.size<=y)/\Fr No H g,λ_ _ _ t _=>k - t.toNat,⟨0,rfl,bL _,rfl,by rw[eh];exact O,(λy ⟨a,e,s⟩=>by cases e;rw[<-s];exact bk _),f3⟩,?_⟩;rintro p _ C _ g ⟨i,rfl,Q,rfl,o,N,f⟩;by_cases l:i<k
 .rw[fY];refine⟨_,ak (f.get c id),?_⟩;rw[bA (n:=(k:Int) - 1) af af,bA (n:=(k:Int) - 1 - (i:Int)) af af,bA (n:=8*((k:Int) - 1 - (i:Int))) af af,dj];have u:min (Int.toNat (8*((k:Int) - 1 - (i:Int)))) (IntKind.bits .u64)=8*(k - 1 - i):=by
   rw[show IntKind.bits .u64=64 from rfl];omega
  rw[u,MU,MT];refine iC iD.tU iD.uU o rfl (λv r=>by simp at r;rw[r];rfl) af af λS D P B f9 G=>⟨_,_,_,rfl,?_⟩
  rw[bA (n:=(i:Int)+1) af af];refine⟨⟨i+1,af,af,af,?_,λy A=> ?_,f.fresh f9 N⟩,by show k - Int.toNat ((i:Int)+1)<k - Int.toNat (i:Int);omega⟩
  .have x:(Po k n).take (i+1)=(Po k n).take i++ [UInt8.ofNat (n/2 ^ (8*(k - 1 - i)))]:=by
    rw[bD];unfold Po;rw[aI,List.getElem?_range l];rfl
   rw[x,<-dp,jR];exact B
  .rcases G y A with a|a
   .exact N y a
   .have:=f.1;omega
 .rw[ae (λe=>l (bX (aP e)))];obtain rfl:i=k:=af
  rw[bB (by rw[xS];omega)]at o;have:=hk g p C 0 o.jb (by rw[aV,xS,Nat.add_comm];exact o.le) (F.tt f);rw[aV,xS,Nat.add_comm]at this;exact this
theorem G2{l:List Tr}{i:Nat}{t:Tr}(H:l[i]? =some t):dw (l.take (i+1))=dw (l.take i)+room t:=by
 rw[bD,H,hZ];show _+dw [t]=_;simp[dw]
theorem ny(l:List Tr)(i:Nat):dw (l.take i)<=dw l:=by
 conv=>rhs;rw[<-List.take_append_drop i l]
 rw[hZ];omega
theorem Iz: ∀(N:Nat)(t:Tr),deep t<=N->∀(h:aj)(D:Nat->Prop)(x:CV)(p:cg)(l c:Nat)(a:cH)(R:fj),l=a.length->a.length+room t<=20000000->fi h p a.length c 1 (bc a)->gE h D t x->(∀y,aL p y->¬D y)->
  (∀h' P C,fi h' P (a++enc t).length C 1 (bc (a++enc t))->Fr (λy=>aL p y) h h'->(∀y,aL P y->aL p y\/h.size<=y)->R (.slice P (a++enc t).length C) h')->Cl 208 #[.slice p l c,x.agg] h R
 |0,.mk k n b l,hd,_,_,_,_,_,_,_,_,_,_,_,_,_,_=>by simp only[deep]at hd;omega
 |N+1,.mk k n b l,hd,h,D,x,p,_,c,a,R,rfl,ha,Y,T,j,hk=>by
  simp only[deep]at hd;simp only[room]at ha;unfold enc at hk;have T:=T.lt;unfold gE at T;obtain⟨⟨rfl,rfl,rfl,X⟩,ys,L,I⟩:=T;have lt:=I.len;have l9:=gB l;have e0:=L.len;refine MS.walk (aa.box λbb K q' d f1=>⟨_,ak d,_,ak d,aG.of λc' hJ=> ?_⟩);have r':=aC d;have z1:=f1.1;have np: ∀y,aL p y->y<h.size:=λy H=>Y.dV H
  have done:c' (wQ x.k x.n x.v.b l:Int) K:=by
   subst hJ;refine⟨_,ak d,Kw λh3 q3 c3 e3 a' d' f3=>⟨_,_,_,_,rfl,_,_,_,ak (f3.get d id),?_⟩⟩;have k':=HX x.k (wQ x.k x.n x.v.b l);generalize LC x.k (wQ x.k x.n x.v.b l)=B at a' d' k' hk⊢;have z3:=f3.1;have r:=f1.tt f3;refine dY iD.tU iD.uU (Y.frame r cu) a' (by rw[iV,cv]) (pW B) af af λZ c4 h4 o4 _ f4 g4=>⟨_,_,_,rfl,ak (f4.get (f3.get d id) (λH=>bX (np _ H))),?_⟩
   have z4:=f4.1;have G: ∀y,aL Z y->aL p y\/h3.size<=y:=g4;have n':Row h4 x.v.p (bc x.v.b):=by
    by_cases e:x.v.b= []
    .rw[e];exact Row.nil
    .exact((X.row.frame r cu).frame f4 (λJ s H=>j _ H (X.own e _ ⟨J,s,rfl⟩).1))
   refine dY iD.tU iD.uU o4 n' (by rw[iV,cv]) (pW x.v.b) af af λp5 c5 h5 O _ f5 g5=> ?_
   have m': ¬aL Z bb:=λH=>by
    rcases G _ H with q|q
    .have:=np _ q;omega
    .omega
   have g':=f5.get (f4.get (f3.get d id) (λH=>bX (np _ H))) m';refine⟨_,_,_,rfl,_,_,_,ak g',?_⟩;have z5:=f5.1;rw[<-jR,<-jR,du]at O;have Fp:Fr (λy=>aL p y) h h5:=(Fr.no r f4).trans f5 cu (λy H q=>by
    rcases G y q with q|q
    .exact q
    .omega)
   have n5: ∀y,aL p5 y->aL p y\/h.size<=y:=λy H=>by
    rcases g5 y H with q|q
    .rcases G y q with q|q
     .exact .inl q
     .exact .inr af
    .exact .inr af
   have el:a.length+B.length+x.v.b.length=(a++(B++x.v.b)).length:=by simp only[av];omega
   rw[el]at O⊢;refine⟨λP l' C t g=> ∃(i:Nat)(w:cH),t=(i:Int)/\i<=ys.length/\l'=(a++w).length/\fi g P (a++w).length C 1 (bc (a++w))/\w=B++x.v.b++xg (l.take i)/\Fr (λy=>aL p y) h g/\∀y,aL P y->aL p y\/h.size<=y,λ_ _ _ t _=>ys.length - t.toNat,
    ⟨0,B++x.v.b,rfl,bL _,rfl,O,by rw[eh];simp[xg],Fp,n5⟩,?_⟩
   rintro P _ C _ g ⟨i,w,rfl,hi,rfl,W,E,F,ng⟩;have rl:=ny l i;have lw:w.length<=9+x.v.b.length+dw (l.take i):=by
    rw[E,av,av];have:=yC (l.take i);omega
   by_cases o:i<ys.length
   .rw[fY];have H:ys[i]? =some ys[i]:=ai o;generalize ys[i]=y at H;obtain⟨t,v,ty⟩:=I.get H;have tm:=aT v;have dm:=qV tm;have rm:=lT tm;have rt:=G2 v;have i':ys≠ []:=by intro e;rw[e]at o;simp at o
    obtain⟨J,s⟩:=L.row.some (by intro e;have:=bT List.length e;rw[eS hT 4 gu,bm]at this;omega);have b':=L.row.frame F (λa2 e2 j'=>j _ j' (L.own i' _ ⟨a2,e2,rfl⟩).1);rw[s]at b'⊢;refine⟨af,ay.2 (aa.yH (by rw[aD];exact b'.fL gu H) (aa.new λb1 M p' f' f8=>aa.ld f' ?_))⟩;have o':gE M (λy=>D y/\y<h.size) t y:=(gE.frame F (λz f A=>j z A f.1) ty).on f8;have zg:=F.1;have z8:=f8.1;refine Iz N t af M (λy=>D y/\y<h.size) y P _ C (a++w) _ rfl (by rw[av];have:=ny l (i+1);omega) (W.frame f8 cu) o' (λz f A=>by
     rcases ng z f with q|q
     .exact j z q A.1
     .omega) λh9 p9 c9 V f9 n9=>⟨_,_,_,rfl,?_⟩
    rw[bA (n:=(i:Int)+1) af af];rw[du]at V⊢;refine⟨⟨i+1,w++enc t,af,af,rfl,V,by rw[bD,v];show _=_++xg (l.take i++ [t]);rw[Ju,E,du _ (xg (l.take i))],(F.on f8).trans f9 cu (λz f q=> ?_),λz f=> ?_⟩,by show ys.length - Int.toNat ((i:Int)+1)<ys.length - Int.toNat (i:Int);omega⟩
    .rcases ng z q with q|q
     .exact q
     .omega
    .rcases n9 z f with q|q
     .exact ng z q
     .exact .inr af
   .rw[ae (λe=>o (bX (aP e)))];rw[bB (show l.length<=i by omega)]at E;subst E;exact hk g P C W F ng
  have ub:IntKind.wrap .u64 (x.v.b.length:Int)=(x.v.b.length:Int):=wrap_u64 af af;have ul:IntKind.wrap .u64 (x.ll:Int)=(l.length:Int):=by rw[e0,<-lt];exact wrap_u64 af af
  unfold wQ at done;refine aG.of λJ1 e'=> ?_
  have U: ∀q,q=decide (x.k=2\/x.k=3)->J1 q K:=by
   intro q S;subst e';refine aG.of λJ2 u=> ?_
   split
   .rename_i q1;rw[ag (aP (S.symm.trans q1))]at done;exact⟨_,_,_,ak d,by subst u;rw[ub];exact done⟩
   .rename_i q1;rw[ae (λe=>q1 (S.trans (au e)))]at done;refine aG.of λJ3 Q=> ?_
    split
    .rename_i q2;rw[ag (cy q2)]at done;exact⟨_,_,_,ak d,by subst Q;subst u;rw[ul];exact done⟩
    .rename_i q2;rw[ae (cy q2)]at done;subst Q;subst u;exact done
  split
  .rename_i q;exact U _ (by simp only[da]at q;rw[q];decide)
  .rename_i q;refine U _ ?_;by_cases e:x.k=3
   .rw[e];decide
   .simp only[da]at q;simp[q,e]

end Cb
end
section
namespace Cb
variable {V:cH→Bool} {h H h':aj} {R:fj} {D:Nat→Prop}
variable {t:Tr} {x:CV}
theorem IA(T:gE h D t x)(d:room t<=1000000)(hk: ∀h' p c,fi h' p (enc t).length c 1 (bc (enc t))->(∀y,aL p y->h.size<=y)->Fr No h h'->R (.slice p (enc t).length c) h'):Cl 208 #[.Z,x.agg] h R:=
 Iz (deep t) t (bk _) h D x none 0 0 [] R rfl (by simp only[bm];omega) (.nil rfl rfl rfl rfl) T (λy ⟨a,e,_⟩=>by cases e) λh' P C o f n=>hk h' P C o (λy b=>(n y b).resolve_left (λ⟨a,e,_⟩=>by cases e)) (f.mono λy _ ⟨a,e,_⟩=>by cases e)
theorem wk(U:mE V H)(u:Fr No H h)(T:gE h D t x)(d:room t<=1000000)(k:gK V t=true->∀h' p c,fi h' p (enc t).length c 1 (bc (enc t))->(∀y,aL p y->h.size<=y)->Fr No h h'->R (.tuple #[.slice p (enc t).length c,.I 0]) h')(K:gK V t=false->gU h R (.tuple #[.Z,.I 3])):Cl 178 #[x.agg] h R:=by
 refine GZ.walk (aa.box λbb i E a f1=>aa.ld a (fc U (u.tt f1) (T.on f1) d λe f2=>⟨_,rfl,?_⟩));have z:=f1.1;have Z:=f2.1;cases b:gK V t with
 |false=>
  rw[fY];exact K b e (f1.tt f2)
 |true=>
  rw[dj];exact aa.ld (f2.get a id) (IA ((T.on f1).on f2) d λf p c o n f3=>⟨_,_,_,rfl,k b f p c o (λy g=>bX (n y g)) ((f1.tt f2).tt f3)⟩)
theorem mE.mono{a:aj}(U:mE V H)(f:Fr No H a):mE V a:=λg p c bs R F=>U g p c bs R (f.tt F)
def jv(V:cH->Bool)(bs:cH):Bool:=match oY V bs with| .ok (t,n)=>decide (n=bs.length) && decide (enc t=bs)| .error _=>false
theorem ER{p:cg}{l c:Nat}{bs:cH}(U:mE V h)(row:Row h p (bc bs))(k:l=bs.length)(cap:bs.length<=c)(m:bs.length<=90000)(hk: gU h R (.bool (jv V bs))):Cl 314 #[.slice p l c] h R:=by
 subst k;unfold jv at hk;refine AN.walk (zM U row rfl cap af (λi t x next g T f1=>⟨_,_,_,_,_,_,_,_,_,_,rfl,aa.new λbb a E b f3=> ?_⟩) (λi e f f1=>⟨_,_,_,_,_,_,_,_,_,_,rfl,aa.new λbb a E b f3=> ?_⟩))
 .have F:=f1.tt f3;rw[g]at hk;obtain⟨rt,N⟩:=yE g;rw[fY];by_cases c1:next=bs.length
  .rw[ag (by rw[c1];simp)];refine aa.ld b (IA (T.on f3) af λj q d o n f4=>⟨_,_,_,rfl,oT o.jb (row.frame (F.tt f4) cu) rfl rfl ⟨_,rfl,?_⟩⟩);have:=hk j (F.tt f4);simp only[c1,bu,dP]at this;exact this
  .rw[ae (λe=>c1 (bX (eq_of_beq e)))];have:=hk a F;simp only[c1,bh,eY]at this;exact this
 .have F:=f1.tt f3;have:=hk a F;rw[f]at this;rw[ae (λq=>qW f (eq_of_beq q))];exact this

end Cb
end
section
variable {h:aj}
variable {K:Nat->aj->Prop} {b:Nat} {a:Addr}
abbrev aa.fV(h:aj)(b:Nat)(x:aa.S):Prop:=h[b]? =some (.cells x.arr 262 (0,0))
theorem aa.ex{K:aa.S->Prop}(x:aa.S)(hk:K x):aa.EX K:=⟨_,_,_,_,_,_,_,_,hk⟩
theorem aa.fR{x:aa.S}{K:aa.S->Prop}(H:aa.fV h b x)(hk:K x):aa.cO h (AA b 0) K:=
 ⟨_,ak H,_,ak H,_,_,_,ak H,_,_,_,ak H,hk⟩
theorem aa.mA{x:aa.S}{K:aa.S->Prop}(H:dI a x.l 0 h)(hk:K x):aa.cO h a K:=by
 obtain⟨q,q1,q2,q3,_⟩:=H;rw[fo]at q;exact⟨_,q,_,q1,_,_,_,q2,_,_,_,q3,hk⟩
theorem aa.zO{x:aa.S}(H:aa.fV h b x):dI (AA b 0) x.l 0 h:=
 gA H (λj v c=>by rw[bC];simpa using c)
theorem aa.gh{x:aa.S}(hk: ∀b h',b=h.size->aa.fV h' b x->Fr No h h'->K b h'):aQ h (.cells aa.S.z.arr 262) λb H=>aa.dv H (AA b 0) x (K b):=
 gy (vs:=x.l) rfl rfl hk
theorem aa.db{x:aa.S}(hk: ∀b h',b=h.size->aa.fV h' b x->Fr No h h'->K b h'):aQ h (.cells x.arr 262) λb H=>K b H:=
 cG (hk _ _ rfl bR (Fr.push _ _))
theorem aa.hM{y x:aa.S}{K:aj->Prop}(a0:aa.fV h b y)(hk: ∀h',aa.fV h' b x->Fr (λy=>y=b) h h'->h'.size=h.size->K h'):aa.dv h (AA b 0) x K:=
 (show dU (AA b 0) x.l 0 h K from eX a0 rfl rfl λH d1 d2 d3=>hk H d1 (Fr.of_eq d2 λc d=>d3 c d) d2)
variable {x:aa.S}
abbrev aw.fV(h:aj)(b:Nat)(x:aw.S):Prop:=h[b]? =some (.cells x.arr 29 (0,0))
theorem aw.ex{K:aw.S->Prop}(x:aw.S)(hk:K x):aw.EX K:=⟨_,_,_,_,_,hk⟩
theorem aw.fR{x:aw.S}{K:aw.S->Prop}(H:aw.fV h b x)(hk:K x):aw.cO h (AA b 0) K:=
 ⟨_,ak H,_,ak H,_,ak H,_,ak H,_,ak H,hk⟩
theorem aw.gh{x:aw.S}(hk: ∀b h',b=h.size->aw.fV h' b x->Fr No h h'->K b h'):aQ h (.cells aw.S.z.arr 29) λb H=>aw.dv H (AA b 0) x (K b):=
 gy (vs:=x.l) rfl rfl hk
theorem aw.db{x:aw.S}(hk: ∀b h',b=h.size->aw.fV h' b x->Fr No h h'->K b h'):aQ h (.cells x.arr 29) λb H=>K b H:=
 cG (hk _ _ rfl bR (Fr.push _ _))
theorem aw.hM{y x:aw.S}{K:aj->Prop}(a0:aw.fV h b y)(hk: ∀h',aw.fV h' b x->Fr (λy=>y=b) h h'->h'.size=h.size->K h'):aw.dv h (AA b 0) x K:=
 (show dU (AA b 0) x.l 0 h K from eX a0 rfl rfl λH d1 d2 d3=>hk H d1 (Fr.of_eq d2 λc d=>d3 c d) d2)
abbrev ah.fV(h:aj)(b:Nat)(x:ah.S):Prop:=h[b]? =some (.cells x.arr 124 (0,0))
theorem ah.ex{K:ah.S->Prop}(x:ah.S)(hk:K x):ah.EX K:=⟨_,_,_,_,_,_,_,hk⟩
theorem ah.fR{x:ah.S}{K:ah.S->Prop}(H:ah.fV h b x)(hk:K x):ah.cO h (AA b 0) K:=
 ⟨_,ak H,_,ak H,_,ak H,_,ak H,_,ak H,_,ak H,_,ak H,hk⟩
theorem ah.gh{x:ah.S}(hk: ∀b h',b=h.size->ah.fV h' b x->Fr No h h'->K b h'):aQ h (.cells ah.S.z.arr 124) λb H=>ah.dv H (AA b 0) x (K b):=
 gy (vs:=x.l) rfl rfl hk
theorem ah.db{x:ah.S}(hk: ∀b h',b=h.size->ah.fV h' b x->Fr No h h'->K b h'):aQ h (.cells x.arr 124) λb H=>K b H:=
 cG (hk _ _ rfl bR (Fr.push _ _))
theorem ah.hM{y x:ah.S}{K:aj->Prop}(a0:ah.fV h b y)(hk: ∀h',ah.fV h' b x->Fr (λy=>y=b) h h'->h'.size=h.size->K h'):ah.dv h (AA b 0) x K:=
 (show dU (AA b 0) x.l 0 h K from eX a0 rfl rfl λH d1 d2 d3=>hk H d1 (Fr.of_eq d2 λc d=>d3 c d) d2)
abbrev aB.fV(h:aj)(b:Nat)(x:aB.S):Prop:=h[b]? =some (.cells x.arr 126 (0,0))
theorem aB.ex{K:aB.S->Prop}(x:aB.S)(hk:K x):aB.EX K:=⟨_,_,_,_,_,_,_,_,_,_,_,_,_,_,_,_,_,_,_,_,hk⟩
theorem aB.fR{x:aB.S}{K:aB.S->Prop}(H:aB.fV h b x)(hk:K x):aB.cO h (AA b 0) K:=
 ⟨_,ak H,_,ak H,_,ak H,_,ak H,_,ak H,_,ak H,_,ak H,_,ak H,_,ak H,_,ak H,_,ak H,_,ak H,_,ak H,_,ak H,_,ak H,_,ak H,_,ak H,_,ak H,_,ak H,_,ak H,hk⟩
theorem aB.gh{x:aB.S}(hk: ∀b h',b=h.size->aB.fV h' b x->Fr No h h'->K b h'):aQ h (.cells aB.S.z.arr 126) λb H=>aB.dv H (AA b 0) x (K b):=
 gy (vs:=x.l) rfl rfl hk
theorem aB.db{x:aB.S}(hk: ∀b h',b=h.size->aB.fV h' b x->Fr No h h'->K b h'):aQ h (.cells x.arr 126) λb H=>K b H:=
 cG (hk _ _ rfl bR (Fr.push _ _))
theorem aB.hM{y x:aB.S}{K:aj->Prop}(a0:aB.fV h b y)(hk: ∀h',aB.fV h' b x->Fr (λy=>y=b) h h'->h'.size=h.size->K h'):aB.dv h (AA b 0) x K:=
 (show dU (AA b 0) x.l 0 h K from eX a0 rfl rfl λH d1 d2 d3=>hk H d1 (Fr.of_eq d2 λc d=>d3 c d) d2)
abbrev aH.fV(h:aj)(b:Nat)(x:aH.S):Prop:=h[b]? =some (.cells x.arr 201 (0,0))
theorem aH.ex{K:aH.S->Prop}(x:aH.S)(hk:K x):aH.EX K:=⟨_,_,_,_,_,_,_,hk⟩
theorem aH.fR{x:aH.S}{K:aH.S->Prop}(H:aH.fV h b x)(hk:K x):aH.cO h (AA b 0) K:=
 ⟨_,ak H,_,ak H,_,ak H,_,ak H,_,_,_,ak H,hk⟩
theorem aH.mA{x:aH.S}{K:aH.S->Prop}(H:dI a x.l 0 h)(hk:K x):aH.cO h a K:=by
 obtain⟨q,q1,q2,q3,q4,_⟩:=H;rw[fo]at q;exact⟨_,q,_,q1,_,q2,_,q3,_,_,_,q4,hk⟩
theorem aH.zO{x:aH.S}(H:aH.fV h b x):dI (AA b 0) x.l 0 h:=
 gA H (λj v c=>by rw[bC];simpa using c)
theorem aH.gh{x:aH.S}(hk: ∀b h',b=h.size->aH.fV h' b x->Fr No h h'->K b h'):aQ h (.cells aH.S.z.arr 201) λb H=>aH.dv H (AA b 0) x (K b):=
 gy (vs:=x.l) rfl rfl hk
theorem aH.db{x:aH.S}(hk: ∀b h',b=h.size->aH.fV h' b x->Fr No h h'->K b h'):aQ h (.cells x.arr 201) λb H=>K b H:=
 cG (hk _ _ rfl bR (Fr.push _ _))
theorem aH.hM{y x:aH.S}{K:aj->Prop}(a0:aH.fV h b y)(hk: ∀h',aH.fV h' b x->Fr (λy=>y=b) h h'->h'.size=h.size->K h'):aH.dv h (AA b 0) x K:=
 (show dU (AA b 0) x.l 0 h K from eX a0 rfl rfl λH d1 d2 d3=>hk H d1 (Fr.of_eq d2 λc d=>d3 c d) d2)
abbrev ax.fV(h:aj)(b:Nat)(x:ax.S):Prop:=h[b]? =some (.cells x.arr 129 (0,0))
theorem ax.ex{K:ax.S->Prop}(x:ax.S)(hk:K x):ax.EX K:=⟨_,_,_,_,_,_,_,_,_,_,_,_,_,_,_,_,_,_,_,_,_,_,_,hk⟩
theorem ax.fR{x:ax.S}{K:ax.S->Prop}(H:ax.fV h b x)(hk:K x):ax.cO h (AA b 0) K:=
 ⟨_,ak H,_,ak H,_,ak H,_,ak H,_,ak H,_,ak H,_,ak H,_,ak H,_,ak H,_,ak H,_,ak H,_,ak H,_,ak H,_,ak H,_,ak H,_,ak H,_,ak H,_,ak H,_,ak H,_,ak H,_,_,_,ak H,hk⟩
theorem ax.gh{x:ax.S}(hk: ∀b h',b=h.size->ax.fV h' b x->Fr No h h'->K b h'):aQ h (.cells ax.S.z.arr 129) λb H=>ax.dv H (AA b 0) x (K b):=
 gy (vs:=x.l) rfl rfl hk
theorem ax.db{x:ax.S}(hk: ∀b h',b=h.size->ax.fV h' b x->Fr No h h'->K b h'):aQ h (.cells x.arr 129) λb H=>K b H:=
 cG (hk _ _ rfl bR (Fr.push _ _))
theorem ax.hM{y x:ax.S}{K:aj->Prop}(a0:ax.fV h b y)(hk: ∀h',ax.fV h' b x->Fr (λy=>y=b) h h'->h'.size=h.size->K h'):ax.dv h (AA b 0) x K:=
 (show dU (AA b 0) x.l 0 h K from eX a0 rfl rfl λH d1 d2 d3=>hk H d1 (Fr.of_eq d2 λc d=>d3 c d) d2)
abbrev cf.fV(h:aj)(b:Nat)(x:cf.S):Prop:=h[b]? =some (.cells x.arr 287 (0,0))
theorem cf.ex{K:cf.S->Prop}(x:cf.S)(hk:K x):cf.EX K:=⟨_,_,_,_,_,_,_,_,_,_,_,_,hk⟩
theorem cf.fR{x:cf.S}{K:cf.S->Prop}(H:cf.fV h b x)(hk:K x):cf.cO h (AA b 0) K:=
 ⟨_,ak H,_,ak H,_,ak H,_,ak H,_,ak H,_,ak H,_,ak H,_,ak H,_,ak H,_,ak H,_,ak H,_,ak H,hk⟩
theorem cf.db{x:cf.S}(hk: ∀b h',b=h.size->cf.fV h' b x->Fr No h h'->K b h'):aQ h (.cells x.arr 287) λb H=>K b H:=
 cG (hk _ _ rfl bR (Fr.push _ _))
abbrev aE.fV(h:aj)(b:Nat)(x:aE.S):Prop:=h[b]? =some (.cells x.arr 47 (0,0))
theorem aE.ex{K:aE.S->Prop}(x:aE.S)(hk:K x):aE.EX K:=⟨_,_,_,_,_,_,_,_,_,_,_,_,_,_,_,_,_,_,_,_,_,hk⟩
theorem aE.fR{x:aE.S}{K:aE.S->Prop}(H:aE.fV h b x)(hk:K x):aE.cO h (AA b 0) K:=
 ⟨_,ak H,_,ak H,_,ak H,_,ak H,_,ak H,_,ak H,_,ak H,_,ak H,_,ak H,_,ak H,_,ak H,_,ak H,_,ak H,_,ak H,_,ak H,_,_,_,ak H,_,ak H,_,ak H,_,ak H,hk⟩
theorem aE.gh{x:aE.S}(hk: ∀b h',b=h.size->aE.fV h' b x->Fr No h h'->K b h'):aQ h (.cells aE.S.z.arr 47) λb H=>aE.dv H (AA b 0) x (K b):=
 gy (vs:=x.l) rfl rfl hk
theorem aE.db{x:aE.S}(hk: ∀b h',b=h.size->aE.fV h' b x->Fr No h h'->K b h'):aQ h (.cells x.arr 47) λb H=>K b H:=
 cG (hk _ _ rfl bR (Fr.push _ _))
theorem aE.hM{y x:aE.S}{K:aj->Prop}(a0:aE.fV h b y)(hk: ∀h',aE.fV h' b x->Fr (λy=>y=b) h h'->h'.size=h.size->K h'):aE.dv h (AA b 0) x K:=
 (show dU (AA b 0) x.l 0 h K from eX a0 rfl rfl λH d1 d2 d3=>hk H d1 (Fr.of_eq d2 λc d=>d3 c d) d2)
abbrev ar.fV(h:aj)(b:Nat)(x:ar.S):Prop:=h[b]? =some (.cells x.arr 44 (0,0))
theorem ar.ex{K:ar.S->Prop}(x:ar.S)(hk:K x):ar.EX K:=⟨_,_,_,_,_,_,_,_,hk⟩
theorem ar.fR{x:ar.S}{K:ar.S->Prop}(H:ar.fV h b x)(hk:K x):ar.cO h (AA b 0) K:=
 ⟨_,ak H,_,ak H,_,ak H,_,ak H,_,ak H,_,_,_,ak H,hk⟩
theorem ar.gh{x:ar.S}(hk: ∀b h',b=h.size->ar.fV h' b x->Fr No h h'->K b h'):aQ h (.cells ar.S.z.arr 44) λb H=>ar.dv H (AA b 0) x (K b):=
 gy (vs:=x.l) rfl rfl hk
theorem ar.db{x:ar.S}(hk: ∀b h',b=h.size->ar.fV h' b x->Fr No h h'->K b h'):aQ h (.cells x.arr 44) λb H=>K b H:=
 cG (hk _ _ rfl bR (Fr.push _ _))
theorem ar.hM{y x:ar.S}{K:aj->Prop}(a0:ar.fV h b y)(hk: ∀h',ar.fV h' b x->Fr (λy=>y=b) h h'->h'.size=h.size->K h'):ar.dv h (AA b 0) x K:=
 (show dU (AA b 0) x.l 0 h K from eX a0 rfl rfl λH d1 d2 d3=>hk H d1 (Fr.of_eq d2 λc d=>d3 c d) d2)
theorem fP.ex{K:fP.S->Prop}(x:fP.S)(hk:K x):fP.EX K:=⟨_,_,_,_,_,_,_,_,_,_,_,_,_,_,_,_,_,_,_,_,_,_,_,_,_,_,_,_,hk⟩
abbrev aK.fV(h:aj)(b:Nat)(x:aK.S):Prop:=h[b]? =some (.cells x.arr 114 (0,0))
theorem aK.ex{K:aK.S->Prop}(x:aK.S)(hk:K x):aK.EX K:=⟨_,_,_,_,_,_,_,_,_,_,_,_,hk⟩
theorem aK.mA{x:aK.S}{K:aK.S->Prop}(H:dI a x.l 0 h)(hk:K x):aK.cO h a K:=by
 obtain⟨q,q1,q2,q3,q4,Q,q6,c,d,e,_⟩:=H;rw[fo]at q;exact⟨_,q,_,q1,_,q2,_,q3,_,q4,_,Q,_,_,_,q6,_,c,_,d,_,e,hk⟩
theorem aK.db{x:aK.S}(hk: ∀b h',b=h.size->aK.fV h' b x->Fr No h h'->K b h'):aQ h (.cells x.arr 114) λb H=>K b H:=
 cG (hk _ _ rfl bR (Fr.push _ _))
theorem aK.hM{y x:aK.S}{K:aj->Prop}(a0:aK.fV h b y)(hk: ∀h',aK.fV h' b x->Fr (λy=>y=b) h h'->h'.size=h.size->K h'):aK.dv h (AA b 0) x K:=
 (show dU (AA b 0) x.l 0 h K from eX a0 rfl rfl λH d1 d2 d3=>hk H d1 (Fr.of_eq d2 λc d=>d3 c d) d2)
theorem aS.ex{K:aS.S->Prop}(x:aS.S)(hk:K x):aS.EX K:=⟨_,_,_,_,_,_,hk⟩
abbrev bY.fV(h:aj)(b:Nat)(x:bY.S):Prop:=h[b]? =some (.cells x.arr 98 (0,0))
theorem bY.ex{K:bY.S->Prop}(x:bY.S)(hk:K x):bY.EX K:=⟨_,_,_,_,_,_,_,_,_,_,_,_,_,_,_,_,_,_,_,_,_,_,_,hk⟩
theorem bY.fR{x:bY.S}{K:bY.S->Prop}(H:bY.fV h b x)(hk:K x):bY.cO h (AA b 0) K:=
 ⟨_,ak H,_,ak H,_,ak H,_,ak H,_,ak H,_,ak H,_,ak H,_,ak H,_,ak H,_,ak H,_,ak H,_,ak H,_,ak H,_,ak H,_,ak H,_,_,_,ak H,_,ak H,_,ak H,_,ak H,_,ak H,_,ak H,hk⟩
theorem bY.db{x:bY.S}(hk: ∀b h',b=h.size->bY.fV h' b x->Fr No h h'->K b h'):aQ h (.cells x.arr 98) λb H=>K b H:=
 cG (hk _ _ rfl bR (Fr.push _ _))
theorem fa.ex{K:fa.S->Prop}(x:fa.S)(hk:K x):fa.EX K:=⟨_,_,_,_,_,_,_,_,_,_,_,_,_,_,_,_,_,_,_,_,_,_,_,_,_,_,_,hk⟩

end
end Go.Proofs.YtlenamcfacpheaaGreatDoor
