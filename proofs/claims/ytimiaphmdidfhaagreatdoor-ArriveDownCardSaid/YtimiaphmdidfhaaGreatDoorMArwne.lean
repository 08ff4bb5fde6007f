/-
  FU is proved here: parts of x7 proof, one behind x7 other (texts of this work, merged by a program; IA x7 theorem IB not use is left out). No condition.
-/
import Derived.Test.YtimiaphmdidfhaaGreatDoorProg
import Derived.Shelf.SortM.Plain
import Derived.Shelf.SortM.SortNone
import Derived.Ground.SlgmProg
import Derived.Test.YtimiaphmdidfhaaGreatDoorMArwnd
set_option maxRecDepth 100000
set_option maxHeartbeats 4000000
namespace Go.Proofs.YtimiaphmdidfhaaGreatDoor
open Go.Den
open IntKind (wrap)
open Int (toNat)
section
variable {h:aj} {R:fD}
variable {a:ck} {S s:Nat}
theorem fQ.find.walk{f:Nat}(c: ∃(I:Int->aj->Prop)(m:Int->aj->Nat),I 0 h/\∀(t:Int)(H:aj),I t H->if(decide (t<(S:Int)))then Bd t S/\aM a λA=>aJ.LD H (A.add (toNat t*4)) λd e j i g k=>Cl 119 #[.agg #[.I d,.I e,.L j i g,.U k],.P f 0] H λv b=> ∃T,v=.B T/\if T then R (.I t) b else(I (wrap .i64 (t+1)) b/\m (wrap .i64 (t+1)) b<m t H)else R (.I (-1)) H):Cl 118 #[.L a S s,.func (.func 119) #[] #[.P f 0]] h R:=aP (lq (sq (lq (bq (.loop [(8,.one (.int .i64))] (lq (sq (cq lf lf) (sq (bq (lq (lq (cq ll lf)))) lf)))))) ll)) Tryz.func118 c
theorem jW.walk{g:ck}{d B:Nat} (z: ∃(I:Int->Int->aj->Prop)(M:Int->Int->aj->Nat),I 0 0 h/\∀(c:Int)(t:Int)(H:aj),I c t H->if(decide (t<(d:Int)))then aH (λ(q:Int) (m:aj)=>(I q (wrap .i64 (t+1)) m/\M q (wrap .i64 (t+1)) m<M c t H)) (λJ=>Bd t d/\aM g λA=>mJ H (A.add (toNat t*1)) λ_ r _=>aH (λ(x:aj)=>J (wrap .i64 (c+(r:Int))) x) (λu=>if(decide ((wrap .i64 (c+(r:Int)))<0))then False else u H))else Cl 181 #[.Z,.I c] H λv y=>Vl v λE D C=> ∃(i:ck->Nat->Nat->Int->aj->Prop)(p:ck->Nat->Nat->Int->aj->Nat),i E D C 0 y/\∀(f:ck)(e n:Nat)(T:Int)(b:aj),i f e n T b->if(decide (T<(d:Int)))then Bd T d/\aM g λw=>mJ b (w.add (toNat T*1)) λK G F=>aW Tryz.prog (Builtin.append_ #[120,120] 120 #[.L f e n,.L K G F]) b λV o=> ∃l k j,V=.L l k j/\(i l k j (wrap .i64 (T+1)) o/\p l k j (wrap .i64 (T+1)) o<p f e n T b)else R (.L f e n) b):Cl 117 #[.L g d B] h R:=aP (lq (lq (sq (lq (bq (.loop [(3,.one (.int .i64)),(11,.one (.int .i64))] (lq (sq (cq lf lf) (sq (.join [(3,.one (.int .i64))] (bq (lq (lq (lq (.join [] (cq lf lf))))))) lf)))))) (lq (sq (lq (bq (.loop [(6,.one (.slice)),(27,.one (.int .i64))] (lq (sq (cq lf lf) (sq (bq ll) lf)))))) ll))))) Tryz.func117 z
theorem kj.walk{n:Int} (d:aH (λ(H:aj)=>aH (λ(g:ck) (f e:Nat) (b:aj)=>R (.L g f e) b) (λj=>if(decide ((wrap .i64 (n - (wrap .i64 ((s:Int) - (S:Int)))))>0))then((0:Int)<=(s:Int)/\(s:Int)<=(s:Int))/\aW Tryz.prog (Builtin.append_ #[120,3] 120 #[.L (cT a s 0 4) ((toNat (s:Int)) - 0) (s - 0),.I (wrap .i64 (n - (wrap .i64 ((s:Int) - (S:Int)))))]) H λv c=>Vl v λT _ t=>((0:Int)<=(S:Int)/\(S:Int)<=(t:Int))/\j (cT T t 0 4) ((toNat (S:Int)) - 0) (t - 0) c else j a S s H)) (λJ=>if(decide (n<0))then False else J h)):Cl 181 #[.L a S s,.I n] h R:=aP (lq (sq (lq (.join [] (cq lf lf))) (sq (lq (lq (.join [(0,.one (.slice))] (cq lf lf)))) ll))) Tryz.func181 d

end
section
open Go.fV Go.kA
namespace hZ
open iE
variable {h H:aj} {b:Nat} {X:Ft} {R:fD} {p q:ck} {c d i:Nat} {L:List E}
structure It where
 num:Nat
 owner:Int
 d:cM
 fa:Nat
structure IV where
 num:Nat
 owner:Int
 v:BV
 fa:Nat
def IV.abs(x:IV):It:=⟨x.num,x.owner,x.v.b,x.fa⟩
abbrev gO(x:IV):List Value:= [.int .i64 (x.num:Int),.int .i64 x.owner,x.v.val,.int .u64 (x.fa:Int)]
theorem iB(x:IV):(gO x).length=4:=rfl
theorem HD(f:List IV): ∀v∈f.flatMap gO,gw v=true:=by
 intro v k;obtain⟨a,_,e⟩:=List.mem_flatMap.1 k;simp at e;rcases e with rfl|rfl|rfl|rfl<;>rfl
abbrev IV.agg(x:IV):Value:=.agg #[.int .i64 (x.num:Int),.int .i64 x.owner,x.v.val,.int .u64 (x.fa:Int)]
theorem tI:oN Tryz.prog 120 132 4 48 (.agg #[.I 0,.I 0,.Z,.U 0]):=⟨dz,dz,rfl⟩
theorem uI:Tryz.prog.underlying 120=some (.slice 132):=dz
theorem VA:Tryz.prog.underlying 3=some (.int .i64):=dz
structure BS where
 items:List It
 next:Nat
 taken:Nat
 qq:Nat
 over:Nat
structure Mm (h:aj) (b:Nat) (X:Ft) (s:BS) (L:List E) (j:ck) (g:Nat) (f:List IV) (a:Nat) (S:Nat->Prop):Prop where
 cW:h[b]? =some (.cells #[.slice j f.length g,.int .i64 (s.next:Int),.int .i64 (s.taken:Int),.int .i64 (s.qq:Int),.int .i64 (s.over:Int),.pointer (some ⟨a,0,none⟩)] 122 (0,0))
 own:fz h j f.length g 4 (f.flatMap gO)
 al:cf.Al h a S L
 abs:f.map IV.abs=s.items
 Cj: ∀x∈f,x.v.ok h X.D
 m: ∀c,X.M c↔c=b\/aN j c\/S c
 bl: ¬aN j b
 bs: ¬S b
 ls: ∀c,aN j c->¬S c
 vA: ∀c,X.M c->¬X.D c
 FO: ∀c,X.D c->c<h.size
def Bx(h:aj)(b:Nat)(X:Ft)(s:BS)(L:List E):Prop:= ∃j g f a S,Mm h b X s L j g f a S
variable {s : BS} {j : Option Addr} {g a : Nat} {f : List IV} {S : Nat → Prop}
theorem Mm.lt(e:Mm h b X s L j g f a S)(y:Nat)(hy:X.M y\/X.D y):y<h.size:=by
 rcases hy with hy|hy
 .rcases(e.m y).1 hy with rfl|h1|h1
  .exact aC e.cW
  .exact e.own.dC h1
  .exact e.al.lt h1
 .exact e.FO y hy
theorem Bx.lt(e:Bx h b X s L)(y:Nat)(k:X.M y\/X.D y):y<h.size:=by
 obtain⟨j,g,f,a,S,e⟩:=e;exact e.lt y k
theorem Mm.frame{Q:Nat->Prop}(e:Mm h b X s L j g f a S)(F:Fr Q h H)(m: ∀y,X.M y\/X.D y->¬Q y):Mm H b X s L j g f a S:=
 have l: ∀y,X.M y->¬Q y:=λy k=>m y (.inl k)
 ⟨F.get e.cW (l b ((e.m b).2 (.inl rfl))),e.own.frame F (λy k=>l y ((e.m y).2 (.inr (.inl k)))),e.al.frame F (λy k=>l y ((e.m y).2 (.inr (.inr k)))),e.abs,λx n=>(e.Cj x n).frame F (λy k=>m y (.inr k)),e.m,e.bl,e.bs,e.ls,e.vA,λy k=>cA (e.FO y k) F.1⟩
theorem Bx.frame{Q:Nat->Prop}(e:Bx h b X s L)(F:Fr Q h H)(k: ∀y,X.M y\/X.D y->¬Q y):Bx H b X s L:=by
 obtain⟨j,g,f,a,S,e⟩:=e;exact⟨j,g,f,a,S,e.frame F k⟩
theorem Mm.on(e:Mm h b X s L j g f a S)(F:Fr No h H):Mm H b X s L j g f a S:=e.frame F bX
theorem Mm.len(e:Mm h b X s L j g f a S):f.length=s.items.length:=by rw[<-e.abs,ay]
theorem fT(e:Mm h b X s L j g f a S)(k:R (.B true) h):Cl 66 #[.P b 0] h R:=
 yV.walk ⟨_,ak e.cW,k⟩
theorem gL(m: ∀H b X,Bx H b X ⟨[],1,0,0,0⟩ []->Fr No h H->(∀y,X.M y\/X.D y->h.size<=y)->R (.P b 0) H):Cl 18 #[] h R:=by
 refine Jv.walk (cf.gL λa S k A G F=>⟨_,rfl,cK ?_⟩);have l:Fr No k (k.push (.C #[.Z,.I 1,.I 0,.I 0,.I 0,.P a 0] 122)):=Fr.push _ _;have z:=F.1;refine m _ k.size ⟨λy=>y=k.size\/aN none y\/S y,λ_=>False⟩ ⟨none,0, [],a,S,⟨bZ,.nil rfl rfl rfl rfl,A.frame l bX,rfl,(λx n=>by cases n),λ_=>fi,(λ⟨a,e,_⟩=>by cases e),λhs=> ?_,(λy ⟨a,e,_⟩=>by cases e),λ_ _=>id,λ_ hy=>hy.elim⟩⟩ (F.tt l) ?_
 .have:=A.lt hs;omega
 .rintro y ((rfl|⟨a,e,_⟩|hs)|hy)
  .exact z
  .cases e
  .exact G y hs
  .exact hy.elim
theorem sM{x w z:Int}{B:cM}{n m:Nat}(hr:Row h p (bc B))(o:n=B.length)(hl:B.length<=70368744177664)(hk: ∀H P C,fz H P B.length C 1 (bc B)->Fr No h H->(∀y,aN P y->h.size<=y)->R (.agg #[.I x,.I w,.L P B.length C,.U z]) H):
  Cl 263 #[.agg #[.I x,.I w,.L p n m,.U z]] h R:=by
 subst o;refine CJ.walk (aJ.box λr h1 a' K t=>aJ.box λk h2 b' O F=> ?_);have M:=F.get K id;refine⟨_,_,_,ak M,gP (hr.frame (t.tt F) bX) rfl hl λQ D v o3 u G=>⟨_,_,_,rfl,?_⟩⟩;have l1:=aC K;have l2:=aC O;have k1:=u.get M id;have k2:aJ.at v k 0 0 none 0 0 0:=u.get O id;have z1:=t.1;have z2:=F.1;have ne:k≠r:=ae
 refine bD k1 bV λI U a2 A=> ?_
 have k4:aJ.at I r x w Q B.length D z:=U;refine aJ.ld k4 ?_;have k5:aJ.at I k 0 0 none 0 0 0:=(A k ne).trans k2;refine aJ.set k5 λJ V d2 Z=>aJ.ld V ?_
 have E:Fr (λy=>y=r\/y=k) v J:=⟨ae,λy l o=>by rw[Z y (λe=>o (.inr e)),A y (λe=>o (.inl e))]⟩;have T:Fr No h v:=t.tt (F.tt u);refine hk J Q D (o3.frame E (λy l e=>bR (G y l))) (T.fresh E (λy l=>ae)) (λy l=>bR (G y l))
def xy(o:Int)(n:Nat)(t:Int):Bool:=decide (1<=o) && decide (o<=1099511627776) && decide (1<=n) && decide (n<=600) && decide (t<=1099511627776)
theorem Jw{o t:Int}{n:Nat}:xy o n t=true↔1<=o/\o<=1099511627776/\1<=n/\n<=600/\t<=1099511627776:=by simp[xy,and_assoc]
theorem fK{v x u:Int}{n m:Nat}(e: iq h R (.B (xy x n u))):
  Cl 312 #[.agg #[.I v,.I x,.L p n m,.U u]] h R:=by
 refine Fk.walk (aJ.box λB k E l F=>⟨_,ak l,?_⟩);have e:=e k F;unfold xy at e;by_cases k:1<=x
 .rw[ag (cI k)];refine⟨_,ak l,?_⟩;by_cases o:x<=1099511627776
  .rw[ag (cI o)];refine⟨_,_,_,ak l,?_⟩;by_cases r:1<=n
   .rw[ag (by simp;omega)];refine⟨_,_,_,ak l,?_⟩;by_cases t:n<=600
    .rw[ag (by simp;omega)];refine⟨_,ak l,?_⟩;simpa[k,o,r,t]using e
    .rw[af (by simp;omega)];simpa[t]using e
   .rw[af (by simp;omega)];simpa[r]using e
  .rw[af (cI o)];simpa[o]using e
 .rw[af (cI k)];simpa[k]using e
def yZ(f:List It)(num:Int):Option Nat:=f.findIdx? (λa=>decide ((a.num:Int)=num))
def sa(f:List It)(num:Int):Int:=match yZ f num with|some k=>(k:Int)|none=> -1
abbrev Bv(h:aj)(b:Nat)(num:Int):Prop:=h[b]? =some (.cells #[.int .i64 num] 3 (0,0))
theorem Pe{b:Nat}{num:Int}(x:IV)(hid:Bv h b num)(m: iq h R (.B (decide ((x.num:Int)=num)))):Cl 119 #[x.agg,.P b 0] h R:=by
 refine vW.walk (aJ.box λB k E l F=>⟨_,ak l,_,ak (F.get hid (λx=>x)),?_⟩);have e:((x.num:Int)==num)=decide ((x.num:Int)=num):=by
  by_cases q:(x.num:Int)=num<;>simp[q]
 rw[e];exact m k F
theorem sc{f:List IV}{n m b:Nat}{num:Int}(D:Row h p (f.flatMap gO))(C:n=f.length)(I:f.length<=1000000000)(hid:Bv h b num)(o: iq h R (.I (sa (f.map IV.abs) num))):
  Cl 118 #[.L p n m,.func (.func 119) #[] #[.P b 0]] h R:=by
 subst C;refine fQ.find.walk ?_;refine⟨λi H=>Fr No h H/\∃k:Nat,i=(k:Int)/\k<=f.length/\∀J (l:J<f.length),J<k->(f[J].num:Int)≠num,λi _=>f.length - i.toNat,⟨Fr.refl _ _,0,rfl,ae,λJ _ l=>ae⟩,?_⟩;rintro _ v ⟨F,k,rfl,G,r⟩;have y:=D.frame F (λ_ _ x=>x);have B:Bv v b num:=F.get hid (λx=>x);by_cases w:k<f.length
 .have Q:(k:Int)<(f.length:Int):=ae
  simp only[Q,bu,ba,aF];have t:f[k]? =some f[k]:=ai w;obtain⟨a,rfl⟩:=y.some (λe=>by have:=bQ List.length e;rw[eO gO 4 iB,bG]at this;omega);refine⟨⟨ae,by first|trivial|omega⟩,ax.2 (aJ.w5 (y.fP iB t) ?_)⟩;refine Pe f[k] B λz u=>⟨_,rfl,?_⟩
  by_cases e:(f[k].num:Int)=num
  .simp only[e,bu,ba];have:sa (f.map IV.abs) num=(k:Int):=by
    unfold sa yZ;have:(f.map IV.abs).findIdx? (λa=>decide ((a.num:Int)=num))=some k:=by
     rw[cJ];refine⟨by rw[ay];exact w,?_,λJ l=> ?_⟩
     .rw[List.getElem_map];exact aw e
     .rw[List.getElem_map,Bool.not_eq_true];exact aB (r J ae l)
    rw[this]
   rw[this]at o;exact o z (F.tt u)
  .simp only[e,bg,aq,aL];rw[bC ae ae];refine⟨⟨F.tt u,k+1,ae,ae,λJ l E=> ?_⟩,?_⟩
   .by_cases q:J=k
    .subst q;exact e
    .exact r J l ae
   .show f.length - Int.toNat ((k:Int)+1)<f.length - Int.toNat (k:Int);omega
 .have Q: ¬(k:Int)<(f.length:Int):=ae
  simp only[Q,bg,aq,aL];have:sa (f.map IV.abs) num= -1:=by
   unfold sa yZ;have:(f.map IV.abs).findIdx? (λa=>decide ((a.num:Int)=num))=none:=by
    rw[dy];intro a A;obtain⟨x,t,rfl⟩:=bp.1 A;obtain⟨J,l,rfl⟩:=List.mem_iff_getElem.1 t;exact aB (r J l ae)
   rw[this]
  rw[this]at o;exact o v F
theorem iu{num:Int}(e:Mm h b X s L j g f a S)(o:s.items.length<=1000000000)(n: iq h R (.I (sa s.items num))):Cl 83 #[.P b 0,.I num] h R:=by
 refine yW.walk (cK ?_);have F:Fr No h (h.push (.C #[.I num] 3)):=Fr.push _ _;have k:=e.on F;have r:=e.len;refine⟨_,_,_,ak k.cW,sc k.own.iy rfl ae bZ λm l=>⟨_,rfl,?_⟩⟩;rw[e.abs];exact n m (F.tt l)
theorem Rc{n:Nat}(w:n<=1000000)(k: ∀P C H,fz H P 0 C 4 []->Fr No h H->(∀y,aN P y->h.size<=y)->R (.L P 0 C) H):
  Cl 181 #[.Z,.I (n:Int)] h R:=by
 refine kj.walk ?_;simp only[aH];have Q: ¬(n:Int)<0:=ae
 have m:IntKind.wrap .i64 (((0:Nat):Int) - ((0:Nat):Int))=0:=rfl;have E:IntKind.wrap .i64 ((n:Int) - 0)=(n:Int):=by rw[bC ae ae];omega
 rw[m,E];simp only[Q,bg,aq,aL];by_cases t:n=0
 .subst t;rw[af bV];exact k none 0 h (.nil rfl rfl rfl rfl) (Fr.refl _ _) (λy ⟨a,e,_⟩=>by cases e)
 .have u:(n:Int)>0:=ae
  simp only[u,bu,ba];refine⟨ae,?_⟩;have r:cT none 0 0 4=none:=iU _ _ _;rw[r];refine Gw tI VA ae ae ae λl H o v F=>⟨_,_,_,rfl,ae,?_⟩
  rw[iU];exact k _ l H o F (λy ⟨a,e,E⟩=>by cases e;exact Nat.le_of_eq E)
theorem DO{E I:ck}{V M Z T:Nat}{u w:List IV}(U:Row h (Sa c 0) [.L E V M,.L I Z T])(r1:Row h E (u.flatMap gO))(e1:V=u.length)(r2:Row h I (w.flatMap gO))(e2:Z=w.length)(hl:u.length+w.length<=1000)(hk: ∀P J H,fz H P (u++w).length J 4 ((u++w).flatMap gO)->Fr No h H->(∀y,aN P y->h.size<=y)->R (.slice P (u++w).length J) H):
  Cl 117 #[.L (Sa c 0) 2 2] h R:=by
 subst e1 e2;have K: ∀{G:aj},Fr No h G->aY G (((AA c 0):Addr).add (0*1))=some (.L E u.length M):=λx=>(U.frame x bX).cell (j:=0) rfl
 have Q: ∀{G:aj},Fr No h G->aY G (((AA c 0):Addr).add (1*1))=some (.L I w.length T):=λx=>(U.frame x bX).cell (j:=1) rfl
 refine jW.walk ?_;refine⟨λv i G=>G=h/\((i=0/\v=0)\/(i=1/\v=(u.length:Int))\/(i=2/\v=((u.length+w.length:Nat):Int))),λ_ i _=>2 - i.toNat,⟨rfl,.inl ⟨rfl,rfl⟩⟩,?_⟩;rintro v i G ⟨rfl,C⟩;rcases C with⟨rfl,rfl⟩|⟨rfl,rfl⟩|⟨rfl,rfl⟩
 .rw[ag (by rfl)];refine aH.of λa' B=>⟨ae,ax.2 ⟨_,_,_,K (Fr.refl _ _),aH.of λJ1 r=> ?_⟩⟩
  have e:IntKind.wrap .i64 (0+(u.length:Int))=(u.length:Int):=by rw[bC ae ae];omega
  rw[e]at r;rw[e,af (by simp<;>omega)];subst r;subst B;exact⟨⟨rfl,.inr (.inl ⟨rfl,rfl⟩)⟩,by show 2 - Int.toNat 1<2 - Int.toNat 0;decide⟩
 .rw[ag (by rfl)];refine aH.of λa' B=>⟨ae,ax.2 ⟨_,_,_,Q (Fr.refl _ _),aH.of λJ1 r=> ?_⟩⟩
  have e:IntKind.wrap .i64 ((u.length:Int)+(w.length:Int))=((u.length+w.length:Nat):Int):=by rw[bC ae ae];omega
  rw[e]at r;rw[e,af (by simp<;>omega)];subst r;subst B;exact⟨⟨rfl,.inr (.inr ⟨rfl,rfl⟩)⟩,by show 2 - Int.toNat 2<2 - Int.toNat 1;decide⟩
 .rw[dB];refine Rc ae λp4 c4 h4 o4 f4 g4=>⟨_,_,_,rfl,?_⟩
  refine⟨λl n t i k=>Fr No G k/\(∀y,aN l y->G.size<=y)/\((i=0/\n=0/\fz k l n t 4 [])\/(i=1/\n=u.length/\fz k l n t 4 (u.flatMap gO))\/(i=2/\n=(u++w).length/\fz k l n t 4 ((u++w).flatMap gO))),λ_ _ _ i _=>2 - i.toNat,⟨f4,g4,.inl ⟨rfl,rfl,o4⟩⟩,?_⟩;rintro l n t i k ⟨F,m,C⟩;rcases C with⟨rfl,rfl,o⟩|⟨rfl,rfl,o⟩|⟨rfl,rfl,o⟩
  .rw[ag (by rfl)];refine⟨ae,ax.2 ⟨_,_,_,K F,?_⟩⟩;refine dH tI uI o (r1.frame F bX) (eO gO 4 iB u) (HD u) ae ae λp6 c6 h6 O _ z A=>⟨_,_,_,rfl,?_⟩
   rw[cH,bM]at O;rw[bM];have b':=F.1;exact⟨⟨F.fresh z m,(λy D=>(A y D).elim (m y) (λh2=>ae)),.inr (.inl ⟨rfl,rfl,O⟩)⟩,by show 2 - Int.toNat 1<2 - Int.toNat 0;decide⟩
  .rw[ag (by rfl)];refine⟨ae,ax.2 ⟨_,_,_,Q F,?_⟩⟩;refine dH tI uI o (r2.frame F bX) (eO gO 4 iB w) (HD w) ae ae λp6 c6 h6 O _ z A=>⟨_,_,_,rfl,?_⟩
   rw[<-cg,<-au]at O;rw[<-au];have b':=F.1;exact⟨⟨F.fresh z m,(λy D=>(A y D).elim (m y) (λh2=>ae)),.inr (.inr ⟨rfl,rfl,O⟩)⟩,by show 2 - Int.toNat 2<2 - Int.toNat 1;decide⟩
  .rw[dB];exact hk l t k o F m
theorem Mu{L:List E}{k:Int}(n:k∉keys L):fU L k=L:=by
 unfold fU;rw[cD];intro e m;have:e.1≠k:=λl=>n (l▸bz m)
 simpa using this
theorem fz.zV{h:aj}{p:ck}{f:List IV}{cap l u:Nat}(m:Row h p (f.flatMap gO))(e:l<=u)(k:u<=cap):Row h (cT p cap l 4) (((f.take u).drop l).flatMap gO):=by
 have:=m.sub (cap:=cap) (l:=l) (u:=u) (sz:=4) e k;rwa[ni gO 4 iB,nj gO 4 iB]at this
def vY(f:List It)(i:Nat):List It:=f.take i++f.drop (i+1)
theorem AM{x:IV}(k:Mm h b X s L j g f a S)(hl:s.items.length<=100)(hL:L.length<1000)(m:f[i]? =some x)(hk: ∀H X',Bx H b X' { s with items:=vY s.items i } (fU L (x.num:Int))->bA X h X' H->x.v.ok H X'.D->R x.agg H):
  Cl 82 #[.P b 0,.I (i:Int)] h R:=by
 have G':=k.len;have hi:=(aE.1 m).1;refine Bs.walk (aJ.box λB h1 E' k' f1=> ?_);have H1:=k.on f1;obtain⟨z,D,rfl⟩:=k.own.addr ae;refine⟨_,_,_,ak H1.cW,ae,ax.2 (aJ.w5 (by rw[aF];exact H1.own.fP iB m) (aJ.new λt o F' g' f2=> ?_))⟩;have E:=H1.on f2;have B':aJ.at o B 0 0 none 0 0 0:=f2.get k' id;have z1:=f1.1;have z2:=f2.1;have l1:=aC k';have l2:=aC g';have ne:t≠B:=ae
 have nX: ∀y,h.size<=y->¬(X.M y\/X.D y):=λy hy m=>by have:=k.lt y m;omega
 refine⟨_,ak E.cW,_,ak g',?_⟩;have h': ∀l,cf.Al l a S (fU L (x.num:Int))->Fr S o l->
   l[b]? =some (.C #[.L (Sa z D) f.length g,.I (s.next:Int),.I (s.taken:Int),.I (s.qq:Int),.I (s.over:Int),.P a 0] 122 (0,0))/\
   Row l (Sa z D) (f.flatMap gO)/\aJ.at l B 0 0 none 0 0 0/\aJ.at l t (x.num:Int) x.owner x.v.p x.v.b.length x.v.c (x.fa:Int):=by
  intro l A F;have nS: ∀y,h.size<=y->¬S y:=λy hy Q=>by have:=k.al.lt Q;omega
  exact⟨F.get E.cW k.bs,E.own.iy.frame F (λa' ea Q=>k.ls _ ⟨a',ea,rfl⟩ Q),F.get B' (nS B ae),F.get g' (nS t ae)⟩
 have j': ∀l,cf.Al l a S (fU L (x.num:Int))->Fr S o l->∀P C r,Fr No l r->fz r P (f.take i++f.drop (i+1)).length C 4 ((f.take i++f.drop (i+1)).flatMap gO)->(∀y,aN P y->l.size<=y)->
   aT r (AA b 0) (.slice P (f.take i++f.drop (i+1)).length C) λJ=>
    ∃(s':Int),aY J (AA t 0)=some (.I s')/\∃(t':Int),aY J (AA t 1)=some (.I t')/\∃(w':ck)(v' u':Nat),aY J (AA t 2)=some (.L w' v' u')/\∃(x':Int),aY J (AA t 3)=some (.U x')/\
    aT J (AA B 0) (.I s') λy'=>
    aT y' (AA B 1) (.I t') λz'=>
    aT z' (AA B 2) (.L w' v' u') λA'=>
    aT A' (AA B 3) (.U x') λM=>
    ∃(m':Int),aY M (AA B 0)=some (.I m')/\∃(n':Int),aY M (AA B 1)=some (.I n')/\∃(q':ck)(p' o':Nat),aY M (AA B 2)=some (.L q' p' o')/\∃(r':Int),aY M (AA B 3)=some (.U r')/\
    R (.agg #[.I m',.I n',.L q' p' o',.U r']) M:=by
  intro l A F P C r n U G;obtain⟨K,_,k3,k4⟩:=h' l A F;have lb:=aC k.cW;have z7:=F.1;have z9:=n.1;refine bD (n.get K id) bV λI a1 a2 a3=> ?_
  have i2:aJ.at I t (x.num:Int) x.owner x.v.p x.v.b.length x.v.c (x.fa:Int):=(a3 t ae).trans (n.get k4 id);refine aJ.ld i2 ?_;have i1:aJ.at I B 0 0 none 0 0 0:=(a3 B ae).trans (n.get k3 id);refine aJ.set i1 λc' d1 d2 d3=>aJ.ld d1 ?_
  have f':Fr (λy=>y=b) r I:=Fr.of_eq a2 a3;have b':Fr (λy=>y=B) I c':=Fr.of_eq d2 d3;have F2:Fr No h o:=f1.tt f2;have F7:Fr S h l:=Fr.no F2 F;have F9:Fr S h r:=F7.tt (n.mono (λ_ _ m=>m.elim));have d':Fr (λy=>S y\/y=b) h I:=(F9.mono (λ_ _ m=> .inl m)).tt (f'.mono (λ_ _ m=> .inr m));have e':Fr X.M h c':=by
   refine⟨cE d'.1 b'.1,λy hy hn=> ?_⟩;rw[b'.2 y (cA hy d'.1) (λe=>ae),d'.2 y hy (λm=>hn ((k.m y).2 (m.elim (λh=> .inr (.inr h)) .inl)))]
  have C': ∀y,aN P y->¬S y:=λy hy Q=>by have:=G y hy;have:=k.al.lt Q;omega
  have l': ∀y,aN P y->y≠b:=λy hy e=>by have:=G y hy;omega
  have D': ∀y,aN P y->y≠B:=λy hy e=>by have:=G y hy;omega
  have i': ∀v:IV,v∈f->v.v.ok c' X.D:=λv hv=>(k.Cj v hv).frame e' (λy O hm=>k.vA y hm O)
  refine hk c' ⟨λy=>y=b\/aN P y\/S y,X.D⟩ ⟨P,C,f.take i++f.drop (i+1),a,S,⟨?_,(U.frame f' l').frame b' D',?_,?_,?_,λ_=>fi,λm=>l' b m rfl,k.bs,C',?_,λy hy=>cA (k.FO y hy) e'.1⟩⟩ ⟨e',?_,λ_=> .inl,λ_=>id⟩ (i' x (aK m))
  .rw[d3 b ae,a1];simp
  .have A9:=A.frame n bX;exact(A9.frame f' (λy hy e=>k.bs (e▸hy))).frame b' (λy hy e=>bR (k.al.lt hy))
  .show _=vY s.items i;unfold vY;rw[<-k.abs,aV,List.map_take,List.map_drop]
  .intro v hv;refine i' v ?_;rcases bE.1 hv with hv|hv
   .exact List.mem_of_mem_take hv
   .exact gr hv
  .rintro y (rfl|hy|hy) O
   .exact k.vA _ ((k.m _).2 (.inl rfl)) O
   .have:=G y hy;have:=k.FO y O;omega
   .exact k.vA _ ((k.m _).2 (.inr (.inr hy))) O
  .rintro y (rfl|hy|hy)
   .exact .inl ((k.m _).2 (.inl rfl))
   .right;have:=G y hy;omega
   .exact .inl ((k.m _).2 (.inr (.inr hy)))
 have ew:IntKind.wrap .i64 ((i:Int)+1)=((i+1:Nat):Int):=by rw[bC ae ae];omega
 have cap:=k.own.le;rw[ew];simp only[aF,Nat.sub_zero];refine cf.qp E.al ae _ (λhm l A F=>⟨_,rfl,?_⟩) (λhm=>⟨_,rfl,?_⟩)
 .obtain⟨K,k2,k3,k4⟩:=h' l A F;refine⟨_,_,_,ak K,ae,_,_,_,ak K,ae,cK ?_⟩;have u:Fr No l (l.push (.C #[.L (cT (Sa z D) g 0 4) i g,.L (cT (Sa z D) g (i+1) 4) (f.length - (i+1)) (g - (i+1))] 120)):=Fr.push _ _;have w:=u.get K id;refine⟨ak w,ak w,?_⟩;have V:=k2.frame u bX;have Z:=fz.zV (l:=0) (u:=i) (cap:=g) V ae ae;have rb:=fz.zV (l:=i+1) (u:=f.length) (cap:=g) V ae ae;rw[hN]at Z;rw[dT]at rb;refine DO iT Z (by rw[bw];omega) rb (by rw[bT]) (by rw[bw,bT];omega) λP C r U n G=>⟨_,_,_,rfl,?_⟩
  have T:=n.get w id;exact⟨ak T,ak T,j' l A F P C r (u.tt n) U (λy hy=>by have:=G y hy;rw[dk]at this;omega)⟩
 .have A:cf.Al o a S (fU L (x.num:Int)):=by
   rw[Mu hm];exact E.al
  have F:Fr S o o:=Fr.refl _ _;obtain⟨K,k2,k3,k4⟩:=h' o A F;refine⟨_,_,_,ak K,ae,_,_,_,ak K,ae,cK ?_⟩;have u:Fr No o (o.push (.C #[.L (cT (Sa z D) g 0 4) i g,.L (cT (Sa z D) g (i+1) 4) (f.length - (i+1)) (g - (i+1))] 120)):=Fr.push _ _;have w:=u.get K id;refine⟨ak w,ak w,?_⟩;have V:=k2.frame u bX;have Z:=fz.zV (l:=0) (u:=i) (cap:=g) V ae ae;have rb:=fz.zV (l:=i+1) (u:=f.length) (cap:=g) V ae ae;rw[hN]at Z;rw[dT]at rb;refine DO iT Z (by rw[bw];omega) rb (by rw[bT]) (by rw[bw,bT];omega) λP C r U n G=>⟨_,_,_,rfl,?_⟩
  have T:=n.get w id;exact⟨ak T,ak T,j' o A F P C r (u.tt n) U (λy hy=>by have:=G y hy;rw[dk]at this;omega)⟩
end hZ
end
section
open Go.fV Go.kA
namespace hZ
open cf (jI)
variable {L:List E} {s:BS} {i:List It} {now:Int}
variable {num:Int}
def It.kv(x:It):E:=((x.num:Int),(x.fa:Int))
structure okB (s:BS) (L:List E):Prop where
 le:s.items.length<=16
 pm:L.Perm (s.items.map It.kv)
 it: ∀x∈s.items,1<=x.num/\x.num<s.next/\1<=x.d.length/\x.d.length<=600/\1<=x.owner/\x.owner<=1099511627776/\x.fa<=1099511627776
 inc:(s.items.map It.num).Pairwise (· < ·)
 yA:s.next=1+s.items.length+s.taken+s.qq+s.over
theorem okB.nil:okB ⟨[],1,0,0,0⟩ []:=⟨bV,.refl _,bV,.nil,rfl⟩
def qQ(i:List It)(num:Int):List It:=i.filter (λy=> !decide ((y.num:Int)=num))
theorem pC: ∀{i:List It}{I:Nat}{x:It},(i.map It.num).Pairwise (· < ·)->i[I]? =some x->vY i I=qQ i (x.num:Int)
 | [],I,x,_,h=>by simp at h
 |y::r,0,x,H,h=>by
  simp at h;subst h;rw[cu,dY]at H;unfold vY qQ;rw[cC];simp only[bu,cU,aq,aL,eZ,cH,List.drop_succ_cons,hN];symm
  rw[cD];intro z c;have:=H.1 z.num (bz c);have: ¬(z.num:Int)=(y.num:Int):=ae
  simp[this]
 |y::r,I+1,x,H,h=>by
  rw[cu,dY]at H;rw[dG]at h;have a:=pC H.2 h;have d:=H.1 x.num (bz (aK h));have b: ¬(y.num:Int)=(x.num:Int):=ae
  unfold vY qQ at a⊢;rw[cC];simp only[b,bg,dS,ba,gz,List.drop_succ_cons,eJ];rw[a]
theorem Bw(h:L.Perm (i.map It.kv)):(fU L num).Perm ((qQ i num).map It.kv):=by
 have:=h.filter (λe=> !(e.1==num));unfold fU;refine this.trans ?_;rw[dQ];refine List.Perm.of_eq ?_;unfold qQ;refine bQ _ (eM ?_);intro x _;show(!((x.num:Int)==num))=_;by_cases q:(x.num:Int)=num<;>simp[q]
theorem okB.sub{I:List It}{l:List E}{t c o:Nat}(O:okB s L)(h:I.Sublist s.items)(a:l.Perm (I.map It.kv))(H:s.next=1+I.length+t+c+o):okB ⟨I,s.next,t,c,o⟩ l:=
 ⟨cE h.length_le O.le,a,λx b=>O.it x (h.subset b),O.inc.sublist (h.map _),H⟩
theorem By{I:Nat}(h:yZ i num=some I): ∃x,i[I]? =some x/\(x.num:Int)=num:=by
 unfold yZ at h;rw[cJ]at h;obtain⟨H,a,_⟩:=h;exact⟨_,ai H,cI a⟩
theorem Pf(h:yZ i num=none): ∀x∈i,(x.num:Int)≠num:=by
 unfold yZ at h;rw[dy]at h;intro x H;simpa using h x H
theorem uniq(h:(i.map It.num).Pairwise (· < ·)){x y:It}(H:x∈i)(b:y∈i)(e:x.num=y.num):x=y:=by
 induction i with
 |nil=>cases H
 |cons z r I=>
  rw[cu,dY]at h;rcases bK.1 H with a|Wb
  .rcases bK.1 b with E|VB
   .rw[a,E]
   .have:=h.1 y.num (bz VB);rw[a]at e;omega
  .rcases bK.1 b with E|VB
   .have:=h.1 x.num (bz Wb);rw[E]at e;omega
   .exact I h.2 Wb VB
theorem gx: ∀{L:List E},jz L->cf.due L now=L.filter (jI now)/\cf.rest L now=L.filter (λe=> !jI now e)
 | [],_=>⟨rfl,rfl⟩
 |e::r,f=>by
  have c:=dY.1 f;obtain⟨I,d⟩:=gx (L:=r) c.2;unfold cf.due at I⊢;unfold cf.rest at d⊢;by_cases b:jI now e=true
  .rw[List.takeWhile_cons,List.dropWhile_cons,cC,cC,b];simp only[ba,cU,aq,aL];rw[I,d];exact⟨rfl,rfl⟩
  .have H:jI now e=false:=by simpa using b
   have a: ∀x∈r,jI now x=false:=by
    intro x h;have h1:=c.1 x h;unfold jI at H⊢;have g:=gj H;apply aB
    rcases h1 with h1|h1<;>omega
   rw[List.takeWhile_cons,List.dropWhile_cons,cC,cC,H];simp only[aq,aL,dS,ba];refine⟨?_,?_⟩
   .symm;rw[List.filter_eq_nil_iff];intro x h;rw[a x h];simp
   .congr 1;symm;rw[cD];intro x h;rw[a x h];rfl
def oT(i:List It)(K:List Int):List It:=i.filter (λx=>decide ((x.num:Int)∉K))
theorem Pg:oT i []=i:=by unfold oT;simp
theorem Ph{K:List Int}{k:Int}:qQ (oT i K) k=oT i (K++ [k]):=by
 unfold qQ oT;rw[gI];apply eM
 intro x _;by_cases h:(x.num:Int)=k
 .simp[h]
 .by_cases H:(x.num:Int)∈K<;>simp[h,H]
theorem Pj(o:okB s L)(S:jz L)(n:(keys L).Nodup):oT s.items (keys (cf.due L now))=s.items.filter (λx=>decide (now<(x.fa:Int))):=by
 obtain⟨E,_⟩:=gx (now:=now) S;unfold oT;apply eM
 intro x b;have f:x.kv∈L:=o.pm.mem_iff.2 (bz b);by_cases a:now<(x.fa:Int)
 .simp only[a,bu,aX];intro H;rw[E]at H;obtain⟨e,d,c⟩:=bp.1 H;have h:=bj.1 d;obtain⟨y,g,rfl⟩:=bp.1 (o.pm.mem_iff.1 h.1);have:y=x:=uniq o.inc g b (by have:(y.num:Int)=(x.num:Int):=c;omega);subst this;have:=aS h.2;unfold It.kv at this;dsimp only at this;omega
 .simp only[a,bg,fv,Classical.not_not];rw[E];refine bp.2 ⟨x.kv,bj.2 ⟨f,aw ?_⟩,rfl⟩;unfold It.kv;dsimp only;omega
theorem DP(o:okB s L)(S:jz L):(cf.rest L now).Perm ((s.items.filter (λx=>decide (now<(x.fa:Int)))).map It.kv):=by
 rw[(gx (now:=now) S).2];refine(o.pm.filter _).trans (List.Perm.of_eq ?_);rw[dQ];congr 1
 apply eM
 intro x _;show(!decide ((x.fa:Int)<=now))=_;by_cases q:now<(x.fa:Int)
 .simp[q]
 .simp[q];omega
theorem Pk(o:okB s L)(S:jz L):(cf.due L now).Perm ((s.items.filter (λx=>decide ((x.fa:Int)<=now))).map It.kv):=by
 rw[(gx (now:=now) S).1];refine(o.pm.filter _).trans (List.Perm.of_eq ?_);rw[dQ];rfl

end hZ
end
section
variable {h:aj} {R:fD}
variable {p:Nat} {o n:Int}
theorem xz.walk(H: ∃t,Cc h p 2 (.map t)/\R (.B (!t.isNone)) h):Cl 120 #[.P p 0] h R:=aP (lq ll) Tryz.func120 H
theorem Mv.walk{w:Int}{s:Int}(d:aH (λ(t:Bool) (H:aj)=>if t then R (.T #[.pointer none,.I 1]) H else bh H (.map #[] 0) λb a=>bh a (.C #[.I w,.I s,.map (some b),.I 0] 111) λB c=>R (.T #[.P B 0,.I 0]) c) (λJ=>if(decide (w<1))then J true h else if(decide (w>1048576))then J true h else if(decide (s<1))then J true h else J (decide (s>w)) h)):Cl 14 #[.I w,.I s] h R:=aP (lq (sq (sq (.join [(20,.one (.bool))] lf) (cq ll lf)) ll)) Tryz.func14 d
theorem y7.walk(b:Cl 120 #[.P p 0] h λv H=> ∃t,v=.B t/\if(!t)then R (.I 6) H else aH (λ(T:Bool) (a:aj)=>if T then R (.I 1) a else R (.I 0) a) (λJ=>if(decide (o<1))then J true H else if(decide (o>1099511627776))then J true H else J (decide (n<0)) H)):Cl 84 #[.P p 0,.I o,.I n] h R:=aP (lq (sq (bq (lq (cq ll (sq (.join [(11,.one (.bool))] lf) (cq ll lf))))) ll)) Tryz.func84 b
theorem xA.walk (l:Cl 84 #[.P p 0,.I o,.I n] h λv H=> ∃t,v=.I t/\if(t !=0)then R (.I t) H else aH (λ(r:Bool) (a:aj)=>if r then R (.I 15) a else aH (λ(i:aj)=>R (.I 0) i) (λj=>if(decide (n>0))then∃T,Cc a p 2 (.map T)/\∃f,iJ Tryz.prog 109 (.map T) (.I o) false a (.I f)/\aW Tryz.prog (Instr.mapUpdate 109 (.map T) (.I o) (.I (wrap .i64 (f+n)))) a λ_ b=> ∃g,Cc b p 3 (.I g)/\aT b (AA p 3) (.I (wrap .i64 (g+n))) λk=>j k else j a)) (λJ=>Hi H p 1 λm=> ∃c,Cc H p 2 (.map c)/\∃d,iJ Tryz.prog 109 (.map c) (.I o) false H (.I d)/\if(decide (n>(wrap .i64 (m - d))))then J true H else Hi H p 0 λq=> ∃e,Cc H p 3 (.I e)/\J (decide (n>(wrap .i64 (q - e)))) H)):Cl 297 #[.P p 0,.I o,.I n] h R:=aP (lq (sq (lq (lq (cq ll lf))) (sq (sq (.join [(40,.one (.bool))] (pN 26)) (cq ll lf)) (sq (lq (.join [] (cq ll lf))) ll)))) Tryz.func297 l
theorem xB.walk (c:Cl 84 #[.P p 0,.I o,.I n] h λv H=> ∃t,v=.I t/\if(t==0)then Hi H p 1 λd=> ∃T,Cc H p 2 (.map T)/\∃a,iJ Tryz.prog 109 (.map T) (.I o) false H (.I a)/\if(decide (n<=(wrap .i64 (d - a))))then Hi H p 0 λe=> ∃b,Cc H p 3 (.I b)/\R (.B (decide (n<=(wrap .i64 (e - b))))) H else R (.B false) H else R (.B false) H):Cl 295 #[.P p 0,.I o,.I n] h R:=aP (lq (sq (pN 34) lf)) Tryz.func295 c
theorem xC.walk(m:Cl 84 #[.P p 0,.I o,.I n] h λv H=> ∃t,v=.I t/\if(t !=0)then R (.I t) H else∃c,Cc H p 2 (.map c)/\∃d,iJ Tryz.prog 109 (.map c) (.I o) false H (.I d)/\if(decide (n>d))then R (.I 7) H else∃e,Cc H p 3 (.I e)/\aT H (AA p 3) (.I (wrap .i64 (e - n))) λb=> ∃T,Cc b p 2 (.map T)/\∃f,iJ Tryz.prog 109 (.map T) (.I o) false b (.I f)/\aW Tryz.prog (Instr.mapUpdate 109 (.map T) (.I o) (.I (wrap .i64 (f - n)))) b λ_ a=> ∃g,Cc a p 2 (.map g)/\∃i,iJ Tryz.prog 109 (.map g) (.I o) false a (.I i)/\aH (λ(k:aj)=>R (.I 0) k) (λJ=>if(i==0)then∃j,Cc a p 2 (.map j)/\aW Tryz.prog (Builtin.delete_ #[109,3] 0 #[.map j,.I o]) a λV l=>V=.T #[]/\J l else J a)):Cl 50 #[.P p 0,.I o,.I n] h R:=aP (lq (sq (lq (lq (cq ll lf))) (sq (lq (cq ll lf)) (lq (lq (sq (lq (.join [] (cq lf lf))) ll)))))) Tryz.func50 m

end
section
namespace nN
theorem tm:rG Tryz.prog 109 (.I 0):=.of 3 3 .i64 dz dz dz
def gY(h:aj)(p m:Nat)(w S A:Int)(f:Int->Int):Prop:=
 h[p]? =some (.cells #[.int .i64 w,.int .i64 S,.map (some m),.int .i64 A] 111 (0,0))/\
 ∃g:Int->Option Value,oe h m g/\∀k,(g k).getD (.int .i64 0)=.int .i64 (f k)
def Ok(w S A:Int)(f:Int->Int):Prop:=1<=S/\S<=w/\w<=1048576/\ -2000000000000<=A/\A<=w/\∀k,0<=f k/\f k<=S
variable {h : aj} {p m : Nat} {w S A : Int} {f : Int → Int} {R : Value → aj → Prop}
theorem gY.frame{Q:Nat->Prop}{H:aj}(j:gY h p m w S A f)(a:Fr Q h H)(b: ¬Q p)(c: ¬Q m):gY H p m w S A f:=by
 obtain⟨d,g,e,i⟩:=j;exact⟨a.get d b,g,e.frame a c,i⟩
theorem gY.ne(d:gY h p m w S A f):p≠m:=by
 obtain⟨a,g,b,_⟩:=d;obtain⟨e,c,H⟩:=b.map;rintro rfl;rw[a]at H;cases H
theorem gY.lt(H:gY h p m w S A f):p<h.size/\m<h.size:=⟨aC H.1,by obtain⟨_,g,a,_⟩:=H;exact a.lt⟩
theorem gY.ext{F:Int->Int}(d:gY h p m w S A f)(a: ∀k,F k=f k):gY h p m w S A F:=by
 obtain⟨H,g,b,c⟩:=d;exact⟨H,g,b,λk=>by rw[a];exact c k⟩
theorem fT(a:gY h p m w S A f)(H:R (.B true) h):Cl 120 #[.P p 0] h R:=
 xz.walk ⟨some m,ak a.1,H⟩
theorem look(b:gY h p m w S A f)(o:Int):iJ Tryz.prog 109 (.map (some m)) (.I o) false h (.I (f o)):=by
 obtain⟨_,g,H,a⟩:=b;have:=Dj tm H o;rw[a]at this;exact this
def may(o n:Int):Bool:=decide (1<=o) && decide (o<=1099511627776) && decide (0<=n)
def jZ(o n:Int):Int:=if may o n=true then 0 else 1
theorem mW{o n:Int}:may o n=true↔1<=o/\o<=1099511627776/\0<=n:=by simp[may,and_assoc]
theorem xD(d:gY h p m w S A f)(o n:Int)(H:R (.I (jZ o n)) h):Cl 84 #[.P p 0,.I o,.I n] h R:=by
 refine y7.walk (fT d ⟨true,rfl,?_⟩);simp only[aH];unfold jZ may at H;by_cases a:o<1
 .simpa[a,show¬1<=o by omega]using H
 .by_cases b:o>1099511627776
  .simpa[a,b,show¬o<=1099511627776 by omega]using H
  .by_cases c:n<0
   .simpa[a,b,c,show¬0<=n by omega]using H
   .simpa[a,b,c,show 1<=o by omega,show o<=1099511627776 by omega,show 0<=n by omega]using H
def fits(w S A:Int)(f:Int->Int)(o n:Int):Bool:=may o n && decide (n<=S - f o) && decide (n<=w - A)
def Sc(w S A:Int)(f:Int->Int)(o n:Int):Int:=if may o n=true then(if fits w S A f o n=true then 0 else 15)else 1
def kT(f:Int->Int)(o n:Int):Int->Int:=λk=>if k=o then f k+n else f k
theorem Pl{o n:Int}:fits w S A f o n=true↔(1<=o/\o<=1099511627776/\0<=n)/\n<=S - f o/\n<=w - A:=by
 simp[fits,mW,and_assoc]
theorem Ok.take{o n:Int}(d:Ok w S A f)(H:fits w S A f o n=true):Ok w S (A+n) (kT f o n):=by
 obtain⟨O,a,b,r,s,c⟩:=d;obtain⟨⟨g,i,j⟩,l,q⟩:=Pl.1 H;refine⟨O,a,b,ae,ae,λk=> ?_⟩;have:=c k;unfold kT;split
 .rename_i e;subst e;omega
 .exact this
theorem vZ(H:gY h p m w S A f)(G:Ok w S A f)(o n:Int)(x:fits w S A f o n=true->∀d,gY d p m w S (A+n) (kT f o n)->Fr (λc=>c=p\/c=m) h d->R (.I 0) d)(K:fits w S A f o n=false->R (.I (Sc w S A f o n)) h):
  Cl 297 #[.P p 0,.I o,.I n] h R:=by
 obtain⟨P,Q,T,U,V,O⟩:=G;have X:=O o;refine xA.walk (xD H o n ⟨_,rfl,?_⟩);unfold Sc at K;unfold jZ;cases b:may o n with
 |false=>
  have:=K (by simp[fits,b]);simpa[b]using this
 |true=>
  have J:=mW.1 b;simp only[ba,bne_self_eq_false,aq,aL,aH];refine⟨S,ak H.1,some m,ak H.1,f o,look H o,?_⟩;rw[bC ae ae];by_cases i:n>S - f o
  .have a:fits w S A f o n=false:=by simp[fits,show¬n<=S - f o by omega]
   have:=K a;simpa[i,b,a]using this
  .simp only[i,bg,aq,aL];refine⟨w,ak H.1,A,ak H.1,?_⟩;rw[bC ae ae];by_cases j:n>w - A
   .have a:fits w S A f o n=false:=by simp[fits,show¬n<=w - A by omega]
    have:=K a;simpa[j,b,a]using this
   .have a:fits w S A f o n=true:=by simp[fits,b,show n<=S - f o by omega,show n<=w - A by omega]
    simp only[j,bg,aq,aL];by_cases l:n>0
    .simp only[l,bu,ba];refine⟨some m,ak H.1,f o,look H o,?_⟩;rw[bC ae ae];have t:=H.ne;obtain⟨z,g,C,E⟩:=H;refine nF tm C ?_;intro I D L u;have q:=(u p t).trans z;refine⟨A,ak q,?_⟩;rw[bC ae ae];refine bD q bV ?_;intro y B M v;refine x a y ⟨B,_,D.nE (v m (fJ t)),λk=> ?_⟩ (Fr.of_eq ae λc r=> ?_)
     .unfold kT;by_cases s:k=o
      .simp[s]
      .simp[s,E]
     .rw[v c (λe=>r (.inl e)),u c (λe=>r (.inr e))]
    .have F:n=0:=ae
     simp only[l,bg,aq,aL];refine x a h ?_ (Fr.refl _ _);subst F;rw[Int.add_zero];exact H.ext λk=>by unfold kT;split<;>omega
theorem Re(H:gY h p m w S A f)(d:Ok w S A f)(o n:Int)(a:R (.B (fits w S A f o n)) h):Cl 295 #[.P p 0,.I o,.I n] h R:=by
 obtain⟨e,g,i,j,k,O⟩:=d;have l:=O o;refine xB.walk (xD H o n ⟨_,rfl,?_⟩);unfold jZ;unfold fits at a;cases c:may o n with
 |false=>simpa[c]using a
 |true=>
  simp only[ba,fy];refine⟨S,ak H.1,some m,ak H.1,f o,look H o,?_⟩;rw[bC ae ae];by_cases b:n<=S - f o
  .simp only[b,bu,ba];refine⟨w,ak H.1,A,ak H.1,?_⟩;rw[bC ae ae];simpa[c,b]using a
  .simpa[c,b]using a
def sd(f:Int->Int)(o n:Int):Bool:=may o n && decide (n<=f o)
def Sd(f:Int->Int)(o n:Int):Int:=if may o n=true then(if sd f o n=true then 0 else 7)else 1
theorem Mw{o n:Int}:sd f o n=true↔(1<=o/\o<=1099511627776/\0<=n)/\n<=f o:=by simp[sd,mW,and_assoc]
theorem Rf(i:gY h p m w S A f)(U:Ok w S A f)(o n:Int)(F:sd f o n=true->∀l,gY l p m w S (A - n) (kT f o (-n))->Fr (λc=>c=p\/c=m) h l->R (.I 0) l)(K:sd f o n=false->R (.I (Sd f o n)) h):
  Cl 50 #[.P p 0,.I o,.I n] h R:=by
 obtain⟨o1,o2,o3,o4,o5,T⟩:=U;have of:=T o;refine xC.walk (xD i o n ⟨_,rfl,?_⟩);unfold Sd at K;unfold jZ;cases d:may o n with
 |false=>
  have:=K (by simp[sd,d]);simpa[d]using this
 |true=>
  have V:=mW.1 d;simp only[ba,bne_self_eq_false,aq,aL];refine⟨some m,ak i.1,f o,look i o,?_⟩;by_cases y:n>f o
  .have a:sd f o n=false:=by simp[sd,show¬n<=f o by omega]
   have:=K a;simpa[y,d,a]using this
  .have a:sd f o n=true:=by simp[sd,d,show n<=f o by omega]
   simp only[y,bg,aq,aL];have t:=i.ne;obtain⟨z,g,L,s⟩:=i;refine⟨A,ak z,?_⟩;rw[bC ae ae];refine bD z bV ?_;intro G r X u;have B:=L.nE (u m (fJ t));have P:gY G p m w S (A - n) f:=⟨r,g,B,s⟩;refine⟨some m,ak r,f o,look P o,?_⟩;rw[bC ae ae];refine nF tm B ?_;intro q C Z v;have j:=(v p t).trans r;have E:gY q p m w S (A - n) (kT f o (-n)):=⟨j,_,C,λk=>by
    unfold kT;by_cases b:k=o
    .simp[b,Int.sub_eq_add_neg]
    .simp[b,s]⟩
   have J:Fr (λc=>c=p\/c=m) h q:=Fr.of_eq ae λc H=>by rw[v c (λe=>H (.inr e)),u c (λe=>H (.inl e))]
   have O:=look E o;refine⟨some m,ak j,kT f o (-n) o,O,?_⟩;simp only[aH];by_cases x:kT f o (-n) o=0
   .simp only[x,fy,ba];refine⟨some m,ak j,?_⟩;refine yi tm C ?_;intro I M a' D;refine⟨rfl,F a I ⟨(D p t).trans j,_,M,λk=> ?_⟩ (Fr.of_eq ae λc H=> ?_)⟩
    .by_cases b:k=o
     .subst b;simp[x]
     .simp[b,s,kT]
    .rw[D c (λe=>H (.inr e)),v c (λe=>H (.inr e)),u c (λe=>H (.inl e))]
   .have Q:(kT f o (-n) o==0)=false:=by simpa using x
    simp only[Q,aq,aL];exact F a q E J
def yB(w S:Int):Bool:=decide (1<=w) && decide (w<=1048576) && decide (1<=S) && decide (S<=w)
theorem My:yB w S=true↔1<=w/\w<=1048576/\1<=S/\S<=w:=by simp[yB,and_assoc]
theorem gL(w S:Int){h:aj}(K:yB w S=true->∀H p m,gY H p m w S 0 (λ_=>0)->h.size<=p->h.size<=m->Fr No h H->R (.T #[.P p 0,.I 0]) H)(k:yB w S=false->R (.T #[.pointer none,.I 1]) h):Cl 14 #[.I w,.I S] h R:=by
 refine Mv.walk ?_;simp only[aH];by_cases c:w<1
 .simpa only[c,bu,ba]using k (by simp[yB,show¬1<=w by omega])
 .simp only[c,bg,aq,aL];by_cases d:w>1048576
  .simpa only[d,bu,ba]using k (by simp[yB,show¬w<=1048576 by omega])
  .simp only[d,bg,aq,aL];by_cases e:S<1
   .simpa only[e,bu,ba]using k (by simp[yB,show¬1<=S by omega])
   .simp only[e,bg,aq,aL];by_cases g:S>w
    .simpa only[g,bu,ba]using k (by simp[yB,show¬S<=w by omega])
    .simp only[g,bg,aq,aL];rintro b i rfl rfl B j rfl rfl;refine K (My.2 ae) _ _ h.size ⟨bZ,λ_=>none,?_,λ_=>rfl⟩ bV bV ?_
     .exact(oe.push h).frame (Fr.push (S:=λ_=>False) _ _) bV
     .exact(Fr.push (S:=λ_=>False) h _).trans (Fr.push (S:=λ_=>False) _ _) (λ_ _ a=>a) (λ_ _ a=>a)
end nN
end
section
namespace dM
open hZ (It)
variable {l L:List It} {x:It} {o:Int}
def yL(l:List It):Int:=(l.map (λx=>(x.d.length:Int))).sum
def own(l:List It)(o:Int):Int:=yL (l.filter (λx=>decide (x.owner=o)))
theorem Bz(p:l.Perm L):yL l=yL L:=by
 induction p with
 |nil=>rfl
 |cons x _ i=>unfold yL at i⊢;simp only[cu,List.sum_cons];omega
 |swap x y l=>unfold yL;simp only[cu,List.sum_cons];omega
 |trans _ _ a b=>exact a.trans b
theorem BA(p:l.Perm L):own l=own L:=funext λ_=>Bz (p.filter _)
theorem ke:yL (x::l)=x.d.length+yL l:=by unfold yL;rw[cu,List.sum_cons]
theorem nO:own (x::l) o=(if x.owner=o then(x.d.length:Int)else 0)+own l o:=by
 unfold own;rw[cC];split<;>rename_i h
 .rw[ke,ag (aS h)]
 .rw[af (λe=>h (aw e))];omega
theorem Jx:0<=yL l:=by
 induction l with
 |nil=>exact eu _
 |cons x l i=>rw[ke];omega
theorem Jy:0<=own l o:=Jx
theorem Tc(c:x∈l):(x.d.length:Int)<=own l x.owner:=by
 obtain⟨a,b,rfl⟩:=List.append_of_mem c;rw[BA List.perm_middle,nO,ag rfl];have:=Jy (l:=a++b) (o:=x.owner);omega
abbrev tf(l:List It):Prop:=nN.Ok 4800 1600 (yL l) (own l)
theorem tf.perm(O:tf l)(p:l.Perm L):tf L:=by
 unfold tf;rw[<-Bz p,<-BA p];exact O
theorem tf.sub(O:tf (x::l)):tf l:=by
 obtain⟨a,b,c,d,e,f⟩:=O;rw[ke]at d e;have:=Jx (l:=l);refine⟨a,b,c,ae,ae,λk=>⟨Jy,?_⟩⟩;have:=(f k).2;rw[nO]at this;split at this<;>omega
theorem tf.nil:tf []:=⟨dN,dN,dN,dN,dN,λ_=>⟨eu 0,show(0:Int)<=1600 by decide⟩⟩
theorem KT:nN.kT (own l) x.owner (x.d.length:Int)=own (x::l):=by
 funext k
 unfold nN.kT;rw[nO];by_cases e:k=x.owner
 .rw[ag e,ag e.symm];omega
 .rw[af e,af (λq=>e q.symm)];omega
theorem Pm:nN.kT (own (x::l)) x.owner (-(x.d.length:Int))=own l:=by
 funext k
 unfold nN.kT;rw[nO];by_cases e:k=x.owner
 .rw[ag e,ag e.symm];omega
 .rw[af e,af (λq=>e q.symm)];omega
def VC(x:It):Prop:=1<=x.d.length/\x.d.length<=600/\1<=x.owner/\x.owner<=1099511627776
section
variable {h H : aj} {R : Value → aj → Prop} {p m : Nat}
abbrev Pu(h:aj)(p m:Nat)(l:List It):Prop:=nN.gY h p m 4800 1600 (yL l) (own l)
theorem Pu.perm(a:Pu h p m l)(q:l.Perm L):Pu h p m L:=by
 unfold Pu;rw[<-Bz q,<-BA q];exact a
theorem Ue{n:Int}(b:Pu h p m (x::l))(O:tf (x::l))(k:VC x)(i:n=(x.d.length:Int))(d: ∀H,Pu H p m l->Fr (λc=>c=p\/c=m) h H->R (.I 0) H):
  Cl 50 #[.P p 0,.I x.owner,.I n] h R:=by
 subst i;have g:nN.sd (own (x::l)) x.owner (x.d.length:Int)=true:=nN.Mw.2 ⟨⟨k.2.2.1,k.2.2.2,ae⟩,Tc bV⟩;refine nN.Rf b O _ _ (λ_ H a f=>d H ?_ f) (λe=>by rw[g]at e;cases e);rw[Pm,ke,show(x.d.length:Int)+yL l - x.d.length=yL l by omega]at a;exact a
end
end dM
end
section
variable {h:aj} {R:fD}
variable {t d D e c C s a F:Nat} {num T id A:Int} {b f S:ck}
theorem Fl.walk(g:bh h (.C #[.B true,.Z] 87) λB H=>R (.P B 0) H):Cl 15 #[] h R:=aP (lq ll) Tryz.func15 g
theorem th.walk (n:aH (λ(v:Bool) (H:aj)=>if v then R (.T #[.pointer none,.I 6]) H else aH (λ(o:Bool) (g:aj)=>if o then R (.T #[.pointer none,.I 4]) g else Hl g t 1 λu r _=>Bd (wrap .i64 (num - 1)) r/\aM u λm=> ∃l,aY g (m.add (toNat (wrap .i64 (num - 1))*1))=some (.pointer l)/\R (.T #[.pointer l,.I 0]) g) (λj=>if(decide (num<1))then j true H else∃q k p,Cc H t 1 (.L q k p)/\j (decide (num>((k:Nat):Int))) H)) (λJ=> ∃i,Cc h t 0 (.B i)/\J (!i) h)):Cl 86 #[.P t 0,.I num] h R:=aP (lq (sq (bq (sq (.join [(6,.one (.bool))] lf) (cq ll (sq (.join [(16,.one (.bool))] lf) (cq ll lf))))) ll)) Tryz.func86 n
theorem wa.walk(l:Cl 86 #[.P t 0,.I num] h λv H=> ∃g i,v=.T #[.pointer g,.I i]/\if(i==0)then aM g λk=> ∃j,aY H (k.add 2)=some (.B j)/\R (.B j) H else R (.B false) H):Cl 87 #[.P t 0,.I num] h R:=aP (lq (lq ll)) Tryz.func87 l
theorem wc.walk(o:Hl h t 1 λp i _=> ∃(I:Int->aj->Prop)(m:Int->aj->Nat),I 0 h/\∀(g:Int)(H:aj),I g H->if(decide (g<(i:Int)))then Bd g i/\aM p λl=>zM H (l.add (toNat g*1)) λj=>aM j λn=> ∃k,aY H (n.add 1)=some (.U k)/\if(k==T)then R (.pointer j) H else(I (wrap .i64 (g+1)) H/\m (wrap .i64 (g+1)) H<m g H)else R (.pointer none) H):Cl 85 #[.P t 0,.U T] h R:=aP (lq (sq (lq (bq (.loop [(12,.one (.int .i64))] (lq (sq (cq lf lf) (sq (bq (lq (lq (cq ll lf)))) lf)))))) ll)) Tryz.func85 o
theorem tj.walk (K:aH (λ(U:Bool) (g:aj)=>if U then R (.T #[.I 0,.I 6]) g else aH (λ(L:Bool) (i:aj)=>if L then R (.T #[.I 0,.I 1]) i else Cl 85 #[.P t 0,.U T] i λv H=> ∃n,v=.pointer n/\if(!n.isNone)then R (.T #[.I 0,.I 12]) H else∃O o M,Cc H t 1 (.L O o M)/\if(decide (((o:Nat):Int)≥8))then R (.T #[.I 0,.I 5]) H else∃Q p P,Cc H t 1 (.L Q p P)/\bh H (.C #[.I (wrap .i64 (((p:Nat):Int)+1)),.U T,.B true,.B false,.Z,.Z] 55) λB k=> ∃u r q,Cc k t 1 (.L u r q)/\bh k (.C #[.P B 0] 88) λE G=>aW Tryz.prog (Builtin.append_ #[85,85] 85 #[.L u r q,.L (Sa E 0) 1 1]) G λV I=> ∃y x w,V=.L y x w/\aT I (AA t 1) (.L y x w) λl=> ∃z,Cc l B 0 (.I z)/\R (.T #[.I z,.I 0]) l) (λj=>if(decide (T<1))then j true g else j (decide (T>2147483648)) g)) (λJ=> ∃m,Cc h t 0 (.B m)/\J (!m) h)):Cl 51 #[.P t 0,.U T] h R:=aP (lq (sq (bq (sq (.join [(7,.one (.bool))] lf) (cq ll (sq (.join [(17,.one (.bool))] lf) (cq ll (lq (cq ll (lq (cq ll lf))))))))) (lq (lq ll)))) Tryz.func51 K
theorem qR.walk(q:aH (λ(r:Bool) (i:aj)=>if r then R (.T #[.I 0,.I 6]) i else Cl 85 #[.P t 0,.U T] i λv H=> ∃g,v=.pointer g/\if g.isNone then R (.T #[.I 0,.I 12]) H else aM g λn=> ∃l,aY H (n.add 2)=some (.B l)/\if l then R (.T #[.I 0,.I 7]) H else aM g λo=>aT H (o.add 2) (.B true) λj=>aM g λp=> ∃m,aY j p=some (.I m)/\R (.T #[.I m,.I 0]) j) (λJ=> ∃k,Cc h t 0 (.B k)/\J (!k) h)):Cl 52 #[.P t 0,.U T] h R:=aP (lq (sq (sq (.join [(15,.one (.bool))] lf) (cq ll lf)) (lq (sq (bq (lq (cq ll (lq (cq ll lf))))) (lq ll))))) Tryz.func52 q
theorem tn.walk(n:Cl 86 #[.P t 0,.I num] h λv H=> ∃g i,v=.T #[.pointer g,.I i]/\if(i !=0)then R (.I i) H else aM g λk=> ∃j,aY H (k.add 2)=some (.B j)/\if(!j)then R (.I 7) H else aM g λl=>aT H (l.add 2) (.B false) λm=>R (.I 0) m):Cl 53 #[.P t 0,.I num] h R:=aP (lq (lq (sq (bq (lq (cq ll (lq (cq ll lf))))) (lq ll)))) Tryz.func53 n
theorem qt.walk(n:Hl h t 1 λp j _=> ∃(I:Int->aj->Prop)(m:Int->aj->Nat),I 0 h/\∀(g:Int)(H:aj),I g H->if(decide (g<(j:Int)))then Bd g j/\aM p λk=>zM H (k.add (toNat g*1)) λo=>aM o λl=>aT H (l.add 2) (.B false) λi=>(I (wrap .i64 (g+1)) i/\m (wrap .i64 (g+1)) i<m g H)else R (.T #[]) H):Cl 57 #[.P t 0] h R:=aP (lq (cq (lq (bq (.loop [(11,.one (.int .i64))] (lq (sq (cq lf lf) (sq (bq ll) lf)))))) lf)) Tryz.func57 n
theorem tB.walk (Z:bh h (.C #[.U id] 23) λB P=>Cl 86 #[.P t 0,.I num] P λs' H=> ∃g p,s'=.T #[.pointer g,.I p]/\if(p !=0)then R (.I p) H else aH (λ(a':Bool) (l:aj)=>if a' then R (.I 1) l else aM g λE=>mJ l (E.add 4) λd' c' b'=>Cl 141 #[.L d' c' b',.func (.func 142) #[] #[.P B 0]] l λt' X=>Vl t' λg' f' e'=>aM g λG=>aT X (G.add 4) (.L g' f' e') λm=>aM g λk=>mJ m (k.add 4) λu r q=>Hu m B 0 λj=>Cl 27 #[.L b d D] m λu' n=>Vl u' λj' i' h'=>Cc n B 0 (.U j)/\aY n (k.add 4)=some (.L u r q)/\bh n (.C #[.U j,.L j' i' h'] 90) λO o=>Cc o B 0 (.U j)/\aY o (k.add 4)=some (.L u r q)/\aW Tryz.prog (Builtin.append_ #[52,52] 52 #[.L u r q,.L (Sa O 0) 1 1]) o λv' w=>Vl v' λm' l' k'=>Cc w B 0 (.U j)/\aM g λI=>aT w (I.add 4) (.L m' l' k') λi=>aM g λK=>mJ i (K.add 4) λ_ n' _=>aH (λ(Q:aj)=>R (.I 0) Q) (λv=>if(decide ((n':Int)>6))then aM g λL=>mJ i (L.add 4) λo' z y=>((0:Int)<=1/\1<=(z:Int))/\Cl 143 #[.L (cT o' y (toNat 1) 2) (z - (toNat 1)) (y - (toNat 1))] i λw' U=>Vl w' λr' q' p'=>aM g λM=>aT U (M.add 4) (.L r' q' p') λV=>v V else v i)) (λJ=> ∃x,Cc H B 0 (.U x)/\if(decide (x>1099511627776))then J true H else J (decide ((d:Int)>1000)) H)):Cl 92 #[.P t 0,.I num,.U id,.L b d D] h R:=aP (lq (lq (sq (bq (lq (cq ll (sq (.join [(21,.one (.bool))] lf) (cq ll lf))))) (lq (sq (pN 14) (sq (lq (.join [] (cq lf lf))) ll)))))) Tryz.func92 Z
theorem qS.walk(i:bh h (.C #[.U A,.L f e c] 90) λB H=>Hu H B 0 λj=> ∃g,Cc H C 0 (.U g)/\R (.B (j==g)) H):Cl 142 #[.agg #[.U A,.L f e c],.P C 0] h R:=aP (lq ll) Tryz.func142 i
theorem tC.walk(w:bh h (.C #[.U id] 23) λB r=>Cl 86 #[.P t 0,.I num] r λv i=> ∃j k,v=.T #[.pointer j,.I k]/\if(k !=0)then R (.T #[.Z,.B false]) i else aM j λo=>mJ i (o.add 4) λz y x=>Cl 121 #[.L z y x,.func (.func 122) #[] #[.P B 0]] i λV H=> ∃g,V=.I g/\if(decide (g<0))then R (.T #[.Z,.B false]) H else aM j λp=>mJ H (p.add 4) λG E _=>Bd g E/\aM G λq=>mJ H ((q.add (toNat g*2)).add 1) λK J I=>Cl 27 #[.L K J I] H λL u=> ∃n m l,L=.L n m l/\R (.T #[.L n m l,.B true]) u):Cl 88 #[.P t 0,.I num,.U id] h R:=aP (lq (lq (sq (lq (cq ll lf)) (lq (sq (lq (cq ll lf)) ll))))) Tryz.func88 w
theorem qT.walk(i:bh h (.C #[.U A,.L f e c] 90) λB H=>Hu H B 0 λj=> ∃g,Cc H C 0 (.U g)/\R (.B (j==g)) H):Cl 122 #[.agg #[.U A,.L f e c],.P C 0] h R:=aP (lq ll) Tryz.func122 i
theorem sf.walk{o:Bool}(m:Cl 86 #[.P t 0,.I num] h λv H=> ∃i g,v=.T #[.pointer i,.I g]/\aH (λ(k:aj)=>R (.I g) k) (λJ=>if(g==0)then aM i λj=>aT H (j.add 3) (.B o) λl=>J l else J H)):Cl 205 #[.P t 0,.I num,.B o] h R:=aP (lq (lq (sq (lq (.join [] (cq lf lf))) ll))) Tryz.func205 m
theorem y8.walk{i:ck}{B g:Nat}(H:if(decide ((B:Int)≥1))then R (.B (decide ((B:Int)<=600))) h else R (.B false) h):Cl 275 #[.L i B g] h R:=aP (lq ll) Tryz.func275 H
theorem tD.walk(O:Cl 86 #[.P t 0,.I num] h λf' o=> ∃g k,f'=.T #[.pointer g,.I k]/\if(k !=0)then R (.I k) o else Cl 275 #[.L b d D] o λg' H=> ∃r,g'=.B r/\if(!r)then R (.I 1) H else aM g λx=> ∃u,aY H (x.add 3)=some (.B u)/\if(!u)then R (.I 7) H else aM g λj=>mJ H (j.add 5) λn m l=>Cl 27 #[.L b d D] H λh' p=>Vl h' λU Q P=>aY p (j.add 5)=some (.L n m l)/\bh p (.C #[.L U Q P] 26) λG q=>aY q (j.add 5)=some (.L n m l)/\aW Tryz.prog (Builtin.append_ #[53,53] 53 #[.L n m l,.L (Sa G 0) 1 1]) q λi' I=>Vl i' λZ X V=>aM g λy=>aT I (y.add 5) (.L Z X V) λi=>aM g λz=>mJ i (z.add 5) λ_ a' _=>aH (λ(K:aj)=>R (.I 0) K) (λJ=>if(decide ((a':Int)>6))then aM g λB=>mJ i (B.add 5) λb' w v=>((0:Int)<=1/\1<=(w:Int))/\Cl 266 #[.L (cT b' v (toNat 1) 1) (w - (toNat 1)) (v - (toNat 1))] i λj' L=>Vl j' λe' d' c'=>aM g λE=>aT L (E.add 5) (.L e' d' c') λM=>J M else J i)):Cl 214 #[.P t 0,.I num,.L b d D] h R:=aP (lq (lq (sq (bq (lq (cq ll (lq (cq ll (lq (cq ll lf))))))) (sq (pN 12) (sq (lq (.join [] (cq lf lf))) ll))))) Tryz.func214 O
theorem tF.walk(y:Cl 86 #[.P t 0,.I num] h λv i=> ∃g j,v=.T #[.pointer g,.I j]/\aH (λ(n:Int) (H:aj)=>if(n==0)then R (.T #[.Z,.I 0,.I j]) H else aM g λo=>mJ H (o.add 5) λG E _=>Bd 0 E/\aM G λp=>mJ H (p.add (toNat 0*1)) λL K I=>aM g λq=>mJ H (q.add 5) λM m l=>((0:Int)<=1/\1<=(m:Int))/\Cl 266 #[.L (cT M l (toNat 1) 1) (m - (toNat 1)) (l - (toNat 1))] H λV w=>Vl V λQ P O=>aM g λr=>aT w (r.add 5) (.L Q P O) λx=>R (.T #[.L L K I,.I n,.I 0]) x) (λJ=>if(j==0)then aM g λu=> ∃B k z,aY i (u.add 5)=some (.L B k z)/\J ((k:Nat):Int) i else J 0 i)):Cl 206 #[.P t 0,.I num] h R:=aP (lq (lq (lq (sq (lq (.join [(9,.one (.int .i64))] (cq lf lf))) (sq (lq (cq ll lf)) (lq (lq ll))))))) Tryz.func206 y
theorem iI.qU.walk{k:Nat}(z:Cl 121 #[.L S s a,.func (.func 142) #[] #[.P k 0]] h λd' n=> ∃g,d'=.I g/\if(g==(-1))then R (.L S s a) n else∃(I:Int->Int->aj->Prop)(M:Int->Int->aj->Nat),I g (wrap .i64 (g+1)) n/\∀(i:Int)(j:Int)(H:aj),I i j H->if(decide (j<(s:Int)))then aH (λ(q:Int) (o:aj)=>(I q (wrap .i64 (j+1)) o/\M q (wrap .i64 (j+1)) o<M i j H)) (λJ=>Bd j s/\aM S λr=>cj.LD H (r.add (toNat j*2)) λG O L K=>bh H (.C #[.U 0,.Z] 90) λB v=>cj.ST v (AA B 0) G O L K λp=>cj.LD p (AA B 0) λP V U Q=>Cl 142 #[.agg #[.U P,.L V U Q],.P k 0] p λe' l=>Vb e' λX=>aH (λ(E:Int) (w:aj)=>J E w) (λm=>if(!X)then cj.LD l (AA B 0) λZ c' b' a'=>Bd i s/\aM S λu=>cj.ST l (u.add (toNat i*2)) Z c' b' a' λx=>m (wrap .i64 (i+1)) x else m i l))else((0:Int)<=i/\i<=(s:Int))/\aW Tryz.prog (Builtin.clear_ #[52] 0 #[.L (cT S a (toNat i) 2) (s - (toNat i)) (a - (toNat i))]) H λf' y=>f'=.T #[]/\((0:Int)<=i/\i<=(a:Int))/\R (.L (cT S a 0 2) ((toNat i) - 0) (a - 0)) y):Cl 141 #[.L S s a,.func (.func 142) #[] #[.P k 0]] h R:=aP (lq (lq (sq (lq (cq ll lf)) (sq (lq (bq (.loop [(5,.one (.int .i64)),(6,.one (.int .i64))] (sq (lq (cq lf lf)) (sq (.join [(5,.one (.int .i64))] (bq (lq (lq (.join [(5,.one (.int .i64))] (cq ll lf)))))) lf))))) (lq ll))))) Tryz.func141 z
theorem fc.qU.walk(l: ∃(I:Int->aj->Prop)(m:Int->aj->Nat),I 0 h/\∀(g:Int)(H:aj),I g H->if(decide (g<(s:Int)))then Bd g s/\aM S λk=>cj.LD H (k.add (toNat g*2)) λn q p o=>Cl 142 #[.agg #[.U n,.L q p o],.P F 0] H λv i=> ∃j,v=.B j/\if j then R (.I g) i else(I (wrap .i64 (g+1)) i/\m (wrap .i64 (g+1)) i<m g H)else R (.I (-1)) H):Cl 121 #[.L S s a,.func (.func 142) #[] #[.P F 0]] h R:=aP (lq (sq (lq (bq (.loop [(8,.one (.int .i64))] (lq (sq (cq lf lf) (sq (bq (lq (lq (cq ll lf)))) lf)))))) ll)) Tryz.func121 l
theorem fc.kept.walk(l: ∃(I:Int->aj->Prop)(m:Int->aj->Nat),I 0 h/\∀(g:Int)(H:aj),I g H->if(decide (g<(s:Int)))then Bd g s/\aM S λk=>cj.LD H (k.add (toNat g*2)) λn q p o=>Cl 122 #[.agg #[.U n,.L q p o],.P F 0] H λv i=> ∃j,v=.B j/\if j then R (.I g) i else(I (wrap .i64 (g+1)) i/\m (wrap .i64 (g+1)) i<m g H)else R (.I (-1)) H):Cl 121 #[.L S s a,.func (.func 122) #[] #[.P F 0]] h R:=aP (lq (sq (lq (bq (.loop [(8,.one (.int .i64))] (lq (sq (cq lf lf) (sq (bq (lq (lq (cq ll lf)))) lf)))))) ll)) Tryz.func121 l
theorem jc.walk(l:if S.isNone then R (.Z) h else bh h (.C #[] 90) λB H=>aW Tryz.prog (Builtin.append_ #[52,52] 52 #[.L (Sa B 0) 0 0,.L S s a]) H λv k=> ∃j i g,v=.L j i g/\R (.L j i g) k):Cl 143 #[.L S s a] h R:=aP (lq (sq (lq (cq ll lf)) ll)) Tryz.func143 l
theorem mG.walk(l:if S.isNone then R (.Z) h else bh h (.C #[] 26) λB H=>aW Tryz.prog (Builtin.append_ #[53,53] 53 #[.L (Sa B 0) 0 0,.L S s a]) H λv k=> ∃j i g,v=.L j i g/\R (.L j i g) k):Cl 266 #[.L S s a] h R:=aP (lq (sq (lq (cq ll lf)) ll)) Tryz.func266 l

end
section
open Go.fV
namespace fw
open iE
variable {h H d:aj} {t:Nat} {X:Ft} {R:fD} {p q:ck} {c i:Nat}
structure AV where
 id:Nat
 v:BV
abbrev AV.enc(a:AV):List Value:= [.int .u64 (a.id:Int),a.v.val]
structure SC where
 b:Nat
 num:Nat
 token:Nat
 up:Bool
 watch:Bool
 kept:List AV
 kp:ck
 kc:Nat
 notes:List BV
 np:ck
 nc:Nat
structure fw where
 num:Nat
 token:Nat
 up:Bool
 watch:Bool
 kept:List (Nat×cM)
 notes:List (cM)
def AV.abs(a:AV):Nat×cM:=(a.id,a.v.b)
def SC.abs(s:SC):fw:=⟨s.num,s.token,s.up,s.watch,s.kept.map AV.abs,s.notes.map BV.b⟩
theorem wg{b:Type}{a:List b}{i:Nat}{v:b}(h:a[i]? =some v):a.set i v=a:=by
 apply fE
 intro j;rw[dp];split
 .rename_i e;subst e;rw[ag (aE.1 h).1,h]
 .rfl
abbrev Rh:=Nat->Option Nat
abbrev At(h:aj)(s:SC):Prop:=cG.at h s.b (s.num:Int) (s.token:Int) s.up s.watch s.kp s.kept.length s.kc s.np s.notes.length s.nc
structure BC (h:aj) (l:Rh) (D:Nat->Prop) (i:Nat) (s:SC):Prop where
 cW:At h s
 lb:l s.b=some (2+3*i)
 xE:fz h s.kp s.kept.length s.kc 2 (s.kept.flatMap AV.enc)
 kl: ∀c,aN s.kp c->l c=some (3+3*i)
 CK:fz h s.np s.notes.length s.nc 1 (s.notes.flatMap jn)
 nl: ∀c,aN s.np c->l c=some (4+3*i)
 kd: ∀a∈s.kept,a.v.ok h D
 nd: ∀n∈s.notes,n.ok h D
structure oD (h:aj) (t:Nat) (l:Rh) (D:Nat->Prop) (L:List SC):Prop where
 cW: ∃p c,h[t]? =some (.cells #[.bool true,.slice p L.length c] 87 (0,0))/\fz h p L.length c 1 (L.map λs=> .pointer (some ⟨s.b,0,none⟩))/\∀x,aN p x->l x=some 1
 Pn:l t=some 0
 ses: ∀i s,L[i]? =some s->BC h l D i s
 Po: ∀c r,l c=some r->c<h.size
 FO: ∀c,D c->c<h.size
 ap: ∀c r,l c=some r->¬D c
def tH(h:aj)(t:Nat)(X:Ft)(A:List fw)(B:List Nat):Prop:=
 ∃l L,oD h t l X.D L/\L.map SC.abs=A/\L.map SC.b=B/\∀c,X.M c↔ ∃r,l c=some r
def Has(h:aj)(t:Nat)(X:Ft)(A:List fw):Prop:= ∃B,tH h t X A B
variable {l : Rh} {D : Nat → Prop} {L : List SC} {A : List fw}
theorem BC.frame{Q:Nat->Prop}{s:SC}(b:BC h l D i s)(f:Fr Q h H)(g: ∀c r,l c=some r->2+3*i<=r->r<=4+3*i->¬Q c)(j: ∀c,D c->¬Q c):BC H l D i s:=
 ⟨f.get b.cW (g _ _ b.lb ae ae),b.lb,b.xE.frame f (λc e=>g c _ (b.kl c e) ae ae),b.kl,b.CK.frame f (λc e=>g c _ (b.nl c e) ae ae),b.nl,λa k=>(b.kd a k).frame f j,λn m=>(b.nd n m).frame f j⟩
theorem BC.mono{j:Rh}{D':Nat->Prop}{s:SC}(b:BC h l D i s)(f: ∀c r,l c=some r->j c=some r)(g: ∀c,D c->D' c):BC h j D' i s:=
 ⟨b.cW,f _ _ b.lb,b.xE,λc e=>f c _ (b.kl c e),b.CK,λc e=>f c _ (b.nl c e),λa k=>(b.kd a k).mono g,λn m=>(b.nd n m).mono g⟩
theorem tH.lt{B:List Nat}(a:tH h t X A B): ∀x,X.M x\/X.D x->x<h.size:=by
 obtain⟨l,L,T,_,_,b⟩:=a;rintro x (f|hd)
 .obtain⟨r,e⟩:=(b x).1 f;exact T.Po x r e
 .exact T.FO x hd
theorem tH.vA{B:List Nat}(a:tH h t X A B): ∀x,X.M x->¬X.D x:=by
 obtain⟨l,L,T,_,_,b⟩:=a;intro x f;obtain⟨r,e⟩:=(b x).1 f;exact T.ap x r e
theorem tH.frame{B:List Nat}{Q:Nat->Prop}(n:tH h t X A B)(f:Fr Q h H)(m: ∀x,X.M x\/X.D x->¬Q x):tH H t X A B:=by
 obtain⟨l,L,T,e,E,j⟩:=n;obtain⟨p,c,o,O,k⟩:=T.cW;have g: ∀c r,l c=some r->¬Q c:=λc r a=>m c (.inl ((j c).2 ⟨r,a⟩))
 refine⟨l,L,⟨⟨p,c,f.get o (g t _ T.Pn),O.frame f (λx v=>g x _ (k x v)),k⟩,T.Pn,λi s u=>(T.ses i s u).frame f (λc r a _ _=>g c r a) (λc b=>m c (.inr b)),?_,?_,T.ap⟩,e,E,j⟩
 .intro c r a;exact cA (T.Po c r a) f.1
 .intro c b;exact cA (T.FO c b) f.1
theorem Has.lt(a:Has h t X A): ∀x,X.M x\/X.D x->x<h.size:=by obtain⟨B,a⟩:=a;exact a.lt
theorem Has.vA(a:Has h t X A): ∀x,X.M x->¬X.D x:=by obtain⟨B,a⟩:=a;exact a.vA
theorem Has.frame{Q:Nat->Prop}(a:Has h t X A)(f:Fr Q h H)(b: ∀x,X.M x\/X.D x->¬Q x):Has H t X A:=by obtain⟨B,a⟩:=a;exact⟨B,a.frame f b⟩
open Classical in
theorem oD.Uf{s s':SC}{Q E:Nat->Prop}(T:oD h t l X.D L)(C: ∀c,X.M c↔ ∃r,l c=some r)(y:L[i]? =some s)(B:s'.b=s.b)(f:Fr Q h H)(u: ∀c,Q c->∃r,l c=some r/\2+3*i<=r/\r<=4+3*i)(cW:At H s')(K:fz H s'.kp s'.kept.length s'.kc 2 (s'.kept.flatMap AV.enc))(kn: ∀c,aN s'.kp c->l c=some (3+3*i)\/h.size<=c)(I:fz H s'.np s'.notes.length s'.nc 1 (s'.notes.flatMap jn))(nn: ∀c,aN s'.np c->l c=some (4+3*i)\/h.size<=c)(a': ∀c,aN s'.kp c->aN s'.np c->False)(w: ∀c,E c->l c=none/\c<H.size/\¬aN s'.kp c/\¬aN s'.np c)(Z: ∀a∈s'.kept,a.v.ok H (λc=>X.D c\/E c))(nd: ∀b'∈s'.notes,b'.ok H (λc=>X.D c\/E c)):
  ∃v,tH H t v ((L.map SC.abs).set i s'.abs) (L.map SC.b)/\Fr X.M h H/\(∀c,v.M c->X.M c\/h.size<=c)/\(∀c,v.D c->X.D c\/E c)/\∀c,X.D c->v.D c:=by
 let z:Rh:=λc=>if h.size<=c/\aN s'.kp c then some (3+3*i)else if h.size<=c/\aN s'.np c then some (4+3*i)else l c
 have O: ∀c r,l c=some r->z c=some r:=λc r b=>by
  have:=T.Po c r b;show(if h.size<=c/\aN s'.kp c then some (3+3*i)else if h.size<=c/\aN s'.np c then some (4+3*i)else l c)=some r;rw[af (λm=>ae),af (λm=>ae)];exact b
 have new: ∀c r,z c=some r->l c=some r\/(h.size<=c/\(aN s'.kp c\/aN s'.np c)):=λc r b=>by
  have b:(if h.size<=c/\aN s'.kp c then some (3+3*i)else if h.size<=c/\aN s'.np c then some (4+3*i)else l c)=some r:=b;split at b
  .rename_i m;exact .inr ⟨m.1,.inl m.2⟩
  .split at b
   .rename_i m;exact .inr ⟨m.1,.inr m.2⟩
   .exact .inl b
 have nb: ∀c,aN s'.kp c\/aN s'.np c->c<H.size:=λc k=>k.elim (λk=>K.dC k) (λk=>I.dC k)
 have S: ∀c,X.D c->¬Q c:=λc k n=>by obtain⟨r,b,_⟩:=u c n;exact T.ap c r b k
 obtain⟨p,M,P,e',F⟩:=T.cW;have U:i<L.length:=(aE.1 y).1;have c': ¬Q t:=λn=>by obtain⟨r,b,h1,g⟩:=u t n;rw[T.Pn]at b;cases b;omega
 have d': ∀x,aN p x->¬Q x:=λx n V=>by obtain⟨r,b,h1,g⟩:=u x V;rw[F x n]at b;cases b;omega
 have f':(L.set i s').map (λs=>Value.P s.b 0)=L.map (λs=>Value.P s.b 0):=by
  rw[List.map_set,B];exact wg (by rw[aD,y];rfl)
 have J:(L.set i s').map SC.b=L.map SC.b:=by
  rw[List.map_set,B];exact wg (by rw[aD,y];rfl)
 refine⟨⟨λc=> ∃r,z c=some r,λc=>X.D c\/E c⟩,⟨z,L.set i s',⟨⟨p,M,?_,?_,λx n=>O x _ (F x n)⟩,O t 0 T.Pn,?_,?_,?_,?_⟩,?_,J,λc=>fi⟩,?_,?_,λc h=>h,λc=> .inl⟩
 .rw[dt];exact f.get P c'
 .rw[f',dt];exact e'.frame f d'
 .intro j sj o;rw[dp]at o;by_cases e:i=j
  .subst e;rw[ag rfl,ag U]at o;obtain rfl:=aZ o;refine⟨cW,?_,K,λc k=> ?_,I,λc k=> ?_,Z,nd⟩
   .rw[B];exact O _ _ (T.ses i s y).lb
   .show(if h.size<=c/\aN s'.kp c then some (3+3*i)else if h.size<=c/\aN s'.np c then some (4+3*i)else l c)=_;rcases kn c k with h1|h1
    .have:=T.Po c _ h1;rw[af (λm=>ae),af (λm=>ae)];exact h1
    .rw[ag ⟨h1,k⟩]
   .show(if h.size<=c/\aN s'.kp c then some (3+3*i)else if h.size<=c/\aN s'.np c then some (4+3*i)else l c)=_;rw[af (λm=>a' c m.2 k)];rcases nn c k with h1|h1
    .have:=T.Po c _ h1;rw[af (λm=>ae)];exact h1
    .rw[ag ⟨h1,k⟩]
  .rw[af e]at o;refine((T.ses j sj o).frame f (λc r b h1 g n=> ?_) S).mono O (λc=> .inl);obtain⟨r',G,h3,h4⟩:=u c n;rw[b]at G;cases G;omega
 .intro c r b;rcases new c r b with h1|⟨_,h1⟩
  .exact cA (T.Po c r h1) f.1
  .exact nb c h1
 .rintro c (h1|h1)
  .exact cA (T.FO c h1) f.1
  .exact(w c h1).2.1
 .rintro c r b (h1|h1)
  .rcases new c r b with g|⟨g,_⟩
   .exact T.ap c r g h1
   .have:=T.FO c h1;omega
  .rcases new c r b with g|⟨_,g⟩
   .rw[(w c h1).1]at g;cases g
   .exact g.elim (w c h1).2.2.1 (w c h1).2.2.2
 .rw[List.map_set]
 .exact f.mono (λc _ n=>by obtain⟨r,b,_⟩:=u c n;exact(C c).2 ⟨r,b⟩)
 .rintro c ⟨r,b⟩;rcases new c r b with g|⟨g,_⟩
  .exact .inl ((C c).2 ⟨r,g⟩)
  .exact .inr g
theorem oD.VD{s s':SC}{Q E:Nat->Prop}(T:oD h t l X.D L)(k: ∀c,X.M c↔ ∃r,l c=some r)(v:L[i]? =some s)(m:s'.b=s.b)(f:Fr Q h H)(u: ∀c,Q c->∃r,l c=some r/\2+3*i<=r/\r<=4+3*i)(cW:At H s')(z:fz H s'.kp s'.kept.length s'.kc 2 (s'.kept.flatMap AV.enc))(w: ∀c,aN s'.kp c->l c=some (3+3*i)\/h.size<=c)(G:fz H s'.np s'.notes.length s'.nc 1 (s'.notes.flatMap jn))(C: ∀c,aN s'.np c->l c=some (4+3*i)\/h.size<=c)(y: ∀c,aN s'.kp c->aN s'.np c->False)(e: ∀c,E c->h.size<=c/\c<H.size/\¬aN s'.kp c/\¬aN s'.np c)(K: ∀a∈s'.kept,a.v.ok H (λc=>X.D c\/E c))(B: ∀n∈s'.notes,n.ok H (λc=>X.D c\/E c)):
  ∃x,tH H t x ((L.map SC.abs).set i s'.abs) (L.map SC.b)/\bA X h x H:=by
 obtain⟨x,g,F,M,j,O⟩:=T.Uf (Q:=Q) (E:=E) k v m f u cW z w G C y (λc b=>⟨by
  cases o:l c with
  |none=>rfl
  |some r=>have:=T.Po c r o;have:=(e c b).1;omega,(e c b).2⟩) K B
 exact⟨x,g,F,M,λc b=>(j c b).imp (λh=>h) (λh=>(e c h).1),O⟩
theorem oD.flag{s s':SC}(T:oD h t l X.D L)(z: ∀c,X.M c↔ ∃r,l c=some r)(v:L[i]? =some s)(C:s'.b=s.b)(o:s'.kept=s.kept/\s'.kp=s.kp/\s'.kc=s.kc)(k:s'.notes=s.notes/\s'.np=s.np/\s'.nc=s.nc)(cW:At H s')(F:H.size=h.size)(E: ∀x,x≠s.b->H[x]? =h[x]?): ∃u,tH H t u ((L.map SC.abs).set i s'.abs) (L.map SC.b)/\bA X h u H:=by
 have g:=T.ses i s v;have f:Fr (λx=>x=s.b) h H:=Fr.of_eq F E;have G: ∀c,aN s.kp c->¬c=s.b:=λc j e=>by have m:=g.kl c j;rw[e,g.lb]at m;simp at m
 have I: ∀c,aN s.np c->¬c=s.b:=λc j e=>by have m:=g.nl c j;rw[e,g.lb]at m;simp at m
 have w: ∀c,X.D c->¬c=s.b:=λc j e=>T.ap c _ (e▸g.lb) j
 refine T.VD (Q:=λx=>x=s.b) (E:=λ_=>False) z v C f (λc e=>⟨_,e▸g.lb,ae,ae⟩) cW ?_ ?_ ?_ ?_ ?_ (λc j=>j.elim) ?_ ?_
 .rw[o.1,o.2.1,o.2.2];exact g.xE.frame f G
 .rw[o.2.1];exact λc j=> .inl (g.kl c j)
 .rw[k.1,k.2.1,k.2.2];exact g.CK.frame f I
 .rw[k.2.1];exact λc j=> .inl (g.nl c j)
 .rw[o.2.1,k.2.1];exact λc m y=>by have a:=g.kl c m;have b:=g.nl c y;rw[a]at b;simp at b
 .rw[o.1];exact λa B=>((g.kd a B).frame f w).mono (λc=> .inl)
 .rw[k.1];exact λn k=>((g.nd n k).frame f w).mono (λc=> .inl)
open Classical in
theorem oD.add{s:SC}{p:ck}{c0:Nat}{Q:Nat->Prop}(T:oD h t l X.D L)(B: ∀c,X.M c↔ ∃r,l c=some r)(f:Fr Q h H)(y: ∀c,Q c->l c=some 0\/l c=some 1)(G:H[t]? =some (.C #[.B true,.L p (L.length+1) c0] 87 (0,0)))(E:fz H p (L.length+1) c0 1 (L.map (λs=> .P s.b 0)++ [.P s.b 0]))(J: ∀x,aN p x->l x=some 1\/h.size<=x)(K: ¬aN p s.b)(cW:At H s)(M:h.size<=s.b)(o:s.kept= []/\s.kp=none/\s.kc=0)(u:s.notes= []/\s.np=none/\s.nc=0):
  ∃z,tH H t z (L.map SC.abs++ [s.abs]) (L.map SC.b++ [s.b])/\bA X h z H:=by
 have P:=aC cW
 let v:Rh:=λc=>if c=s.b then some (2+3*L.length)else if h.size<=c/\aN p c then some 1 else l c
 have O: ∀c r,l c=some r->v c=some r:=λc r b=>by
  have:=T.Po c r b;show(if c=s.b then some (2+3*L.length)else if h.size<=c/\aN p c then some 1 else l c)=some r;rw[af (λm=>ae),af (λm=>ae)];exact b
 have new: ∀c r,v c=some r->l c=some r\/(h.size<=c/\(c=s.b\/aN p c)):=λc r b=>by
  have b:(if c=s.b then some (2+3*L.length)else if h.size<=c/\aN p c then some 1 else l c)=some r:=b;split at b
  .rename_i m;exact .inr ⟨ae,.inl m⟩
  .split at b
   .rename_i m;exact .inr ⟨m.1,.inr m.2⟩
   .exact .inl b
 have I: ∀c,X.D c->¬Q c:=λc C g=>(y c g).elim (λh1=>T.ap c _ h1 C) (λh1=>T.ap c _ h1 C)
 refine⟨⟨λc=> ∃r,v c=some r,X.D⟩,⟨v,L++ [s],⟨⟨p,c0,?_,?_,?_⟩,O t 0 T.Pn,?_,?_,?_,?_⟩,?_,by rw[aV];rfl,λc=>fi⟩,?_,?_,λc=> .inl,λc=>id⟩
 .rw[au];exact G
 .rw[au,aV];exact E
 .intro x g;show(if x=s.b then some (2+3*L.length)else if h.size<=x/\aN p x then some 1 else l x)=some 1;rw[af (λe:x=s.b=>K (e▸g))];rcases J x g with h1|h1
  .have:=T.Po x _ h1;rw[af (λm=>ae)];exact h1
  .rw[ag ⟨h1,g⟩]
 .intro j S n;by_cases e:j<L.length
  .rw[dh e]at n;refine((T.ses j S n).frame f (λc r b h1 k g=> ?_) I).mono O (λc h=>h);rcases y c g with h3|h3
   .rw[b]at h3;cases h3;omega
   .rw[b]at h3;cases h3;omega
  .rw[cV ae]at n;have F:j=L.length:=by
    have:=(aE.1 n).1;simp at this;omega
   subst F;simp at n;subst n;refine⟨cW,?_,?_,?_,?_,?_,?_,?_⟩
   .show(if s.b=s.b then some (2+3*L.length)else _)=_;rw[ag rfl]
   .rw[o.1,o.2.1,o.2.2];exact .nil rfl rfl rfl rfl
   .rw[o.2.1];rintro c ⟨a,e,_⟩;cases e
   .rw[u.1,u.2.1,u.2.2];exact .nil rfl rfl rfl rfl
   .rw[u.2.1];rintro c ⟨a,e,_⟩;cases e
   .rw[o.1];intro a w;cases w
   .rw[u.1];intro a w;cases w
 .intro c r b;rcases new c r b with h1|⟨_,h1|h1⟩
  .exact cA (T.Po c r h1) f.1
  .omega
  .exact E.dC h1
 .intro c h1;exact cA (T.FO c h1) f.1
 .intro c r b h1;rcases new c r b with k|⟨k,_⟩
  .exact T.ap c r k h1
  .have:=T.FO c h1;omega
 .rw[aV];rfl
 .exact f.mono (λc _ g=>(B c).2 ((y c g).elim (λh1=>⟨_,h1⟩) (λh1=>⟨_,h1⟩)))
 .rintro c ⟨r,b⟩;rcases new c r b with k|⟨k,_⟩
  .exact .inl ((B c).2 ⟨r,k⟩)
  .exact .inr k
theorem tA:oN Tryz.prog 52 90 2 32 (.agg #[.U 0,.Z]):=⟨dz,dz,rfl⟩
theorem uA:Tryz.prog.underlying 52=some (.slice 90):=dz
theorem gQ(a:AV):a.enc.length=2:=rfl
theorem Pp(x:List AV): ∀v∈x.flatMap AV.enc,gw v=true:=by
 intro v e;obtain⟨a,_,b⟩:=List.mem_flatMap.1 e;simp at b;rcases b with rfl|rfl<;>rfl
theorem Mz{j:List AV}{n m:Nat}(k:Row h p (j.flatMap AV.enc))(s:n=j.length)(u:j.length<=1000000000)(r: ∀P C H,fz H P j.length C 2 (j.flatMap AV.enc)->Fr No h H->(∀x,aN P x->h.size<=x)->R (.L P j.length C) H):
  Cl 143 #[.L p n m] h R:=by
 subst s;refine jc.walk ?_;cases p with
 |none=>
  have:j= []:=by
   rcases k with k|⟨a,e,_⟩
   .cases j with
    |nil=>rfl
    |cons b B=>cases k
   .cases e
  subst this;exact r none 0 h (.nil rfl rfl rfl rfl) (Fr.refl _ _) (λx ⟨a,e,_⟩=>by cases e)
 |some a=>
  simp only[ia,aq,aL];exact wV tA uA k (eO AV.enc 2 gQ j) (Pp j) ae ae λP C H o f g=>⟨_,_,_,rfl,r P C H o f g⟩
theorem DQ{xs:List BV}{n m:Nat}(j:Row h p (xs.flatMap jn))(r:n=xs.length)(s:xs.length<=1000000000)(k: ∀P C H,fz H P xs.length C 1 (xs.flatMap jn)->Fr No h H->(∀x,aN P x->h.size<=x)->R (.L P xs.length C) H):
  Cl 266 #[.L p n m] h R:=by
 subst r;refine mG.walk ?_;cases p with
 |none=>
  have:xs= []:=by
   rcases j with j|⟨a,e,_⟩
   .cases xs with
    |nil=>rfl
    |cons b B=>cases j
   .cases e
  subst this;exact k none 0 h (.nil rfl rfl rfl rfl) (Fr.refl _ _) (λx ⟨a,e,_⟩=>by cases e)
 |some a=>
  simp only[ia,aq,aL];exact wV tN uN j (eO jn 1 jH xs) (Bo xs) ae ae λP C H o f g=>⟨_,_,_,rfl,k P C H o f g⟩
abbrev sg(h:aj)(b:Nat)(id:Nat):Prop:=h[b]? =some (.cells #[.int .u64 (id:Int)] 23 (0,0))
def y9(x:List AV)(id:Nat):Int:=match x.findIdx? (λa=>decide (a.id=id))with|some k=>(k:Int)|none=> -1
theorem HE{b id:Nat}(a:AV)(hid:sg h b id)(k: iq h R (.B (decide (a.id=id)))):Cl 142 #[.agg #[.U (a.id:Int),a.v.val],.P b 0] h R:=by
 refine qS.walk (cj.box λB g E j f=>⟨_,ak j,_,ak (f.get hid (λx=>x)),?_⟩);have e:((a.id:Int)==(id:Int))=decide (a.id=id):=by
  by_cases q:a.id=id
  .simp[q]
  .have: ¬(a.id:Int)=(id:Int):=ae
   simp[q,this]
 rw[e];exact k g f
theorem Jz{f:List AV}{n m b id:Nat}(G:Row h p (f.flatMap AV.enc))(E:n=f.length)(M:f.length<=1000000000)(hid:sg h b id)(o: iq h R (.I (y9 f id))):
  Cl 121 #[.L p n m,.func (.func 142) #[] #[.P b 0]] h R:=by
 subst E;refine fc.qU.walk ?_;refine⟨λi H=>Fr No h H/\∃k:Nat,i=(k:Int)/\k<=f.length/\∀j (g:j<f.length),j<k->f[j].id≠id,λi _=>f.length - i.toNat,⟨Fr.refl _ _,0,rfl,ae,λj _ g=>ae⟩,?_⟩;rintro _ u ⟨F,k,rfl,K,r⟩;have y:=G.frame F (λ_ _ x=>x);have C:sg u b id:=F.get hid (λx=>x);by_cases w:k<f.length
 .have Q:(k:Int)<(f.length:Int):=ae
  simp only[Q,bu,ba,aF];have I:f[k]? =some f[k]:=ai w;obtain⟨a,rfl⟩:=y.some (λe=>by have:=bQ List.length e;rw[eO AV.enc 2 gQ,bG]at this;omega);refine⟨⟨ae,by first|trivial|omega⟩,ax.2 (cj.w5 (y.fP gQ I) ?_)⟩;refine HE f[k] C λz s=>⟨_,rfl,?_⟩
  by_cases e:f[k].id=id
  .simp only[e,bu,ba];have:y9 f id=(k:Int):=by
    unfold y9;have:f.findIdx? (λa=>decide (a.id=id))=some k:=by
     rw[cJ];exact⟨w,cI e,λj g=>by simpa using r j ae g⟩
    rw[this]
   rw[this]at o;exact o z (F.tt s)
  .simp only[e,bg,aq,aL];rw[bC ae ae];refine⟨⟨F.tt s,k+1,ae,ae,λj g J=> ?_⟩,?_⟩
   .by_cases q:j=k
    .subst q;exact e
    .exact r j g ae
   .show f.length - Int.toNat ((k:Int)+1)<f.length - Int.toNat (k:Int);omega
 .have Q: ¬(k:Int)<(f.length:Int):=ae
  simp only[Q,bg,aq,aL];have:y9 f id= -1:=by
   unfold y9;have:f.findIdx? (λa=>decide (a.id=id))=none:=by
    rw[dy];intro a B;obtain⟨j,g⟩:=bO B;have v:=(aE.1 g).1;rw[ai v]at g;obtain rfl:=aZ g;simpa using r j v ae
   rw[this]
  rw[this]at o;exact o u F
theorem Pq{b id:Nat}(a:AV)(hid:sg h b id)(k: iq h R (.B (decide (a.id=id)))):Cl 122 #[.agg #[.U (a.id:Int),a.v.val],.P b 0] h R:=by
 refine qT.walk (cj.box λB g E j f=>⟨_,ak j,_,ak (f.get hid (λx=>x)),?_⟩);have e:((a.id:Int)==(id:Int))=decide (a.id=id):=by
  by_cases q:a.id=id
  .simp[q]
  .have: ¬(a.id:Int)=(id:Int):=ae
   simp[q,this]
 rw[e];exact k g f
theorem JA{f:List AV}{n m b id:Nat}(G:Row h p (f.flatMap AV.enc))(E:n=f.length)(M:f.length<=1000000000)(hid:sg h b id)(o: iq h R (.I (y9 f id))):
  Cl 121 #[.L p n m,.func (.func 122) #[] #[.P b 0]] h R:=by
 subst E;refine fc.kept.walk ?_;refine⟨λi H=>Fr No h H/\∃k:Nat,i=(k:Int)/\k<=f.length/\∀j (g:j<f.length),j<k->f[j].id≠id,λi _=>f.length - i.toNat,⟨Fr.refl _ _,0,rfl,ae,λj _ g=>ae⟩,?_⟩;rintro _ u ⟨F,k,rfl,K,r⟩;have y:=G.frame F (λ_ _ x=>x);have C:sg u b id:=F.get hid (λx=>x);by_cases w:k<f.length
 .have Q:(k:Int)<(f.length:Int):=ae
  simp only[Q,bu,ba,aF];have I:f[k]? =some f[k]:=ai w;obtain⟨a,rfl⟩:=y.some (λe=>by have:=bQ List.length e;rw[eO AV.enc 2 gQ,bG]at this;omega);refine⟨⟨ae,by first|trivial|omega⟩,ax.2 (cj.w5 (y.fP gQ I) ?_)⟩;refine Pq f[k] C λz s=>⟨_,rfl,?_⟩
  by_cases e:f[k].id=id
  .simp only[e,bu,ba];have:y9 f id=(k:Int):=by
    unfold y9;have:f.findIdx? (λa=>decide (a.id=id))=some k:=by
     rw[cJ];exact⟨w,cI e,λj g=>by simpa using r j ae g⟩
    rw[this]
   rw[this]at o;exact o z (F.tt s)
  .simp only[e,bg,aq,aL];rw[bC ae ae];refine⟨⟨F.tt s,k+1,ae,ae,λj g J=> ?_⟩,?_⟩
   .by_cases q:j=k
    .subst q;exact e
    .exact r j g ae
   .show f.length - Int.toNat ((k:Int)+1)<f.length - Int.toNat (k:Int);omega
 .have Q: ¬(k:Int)<(f.length:Int):=ae
  simp only[Q,bg,aq,aL];have:y9 f id= -1:=by
   unfold y9;have:f.findIdx? (λa=>decide (a.id=id))=none:=by
    rw[dy];intro a B;obtain⟨j,g⟩:=bO B;have v:=(aE.1 g).1;rw[ai v]at g;obtain rfl:=aZ g;simpa using r j v ae
   rw[this]
  rw[this]at o;exact o u F
def qQ(d:aj)(p:ck)(cap b id:Nat)(e:List AV)(i j:Int)(h:aj):Prop:=
 ∃(a k:Nat)(z:List AV),i=(a:Int)/\j=(k:Int)/\a<k/\k<=e.length/\z.length=e.length/\z.take a=(e.take k).filter (λx=>decide (x.id≠id))/\z.drop k=e.drop k/\fz h p e.length cap 2 (z.flatMap AV.enc)/\Fr (aN p) d h/\sg h b id
theorem JB{f:List AV}{cap b id k':Nat}(O:fz h p f.length cap 2 (f.flatMap AV.enc))(hn:k'=f.length)(hl:f.length<=1000000000)(hid:sg h b id)(hb: ¬aN p b)(n: ∀H,fz H p (f.filter (λx=>decide (x.id≠id))).length cap 2 ((f.filter (λx=>decide (x.id≠id))).flatMap AV.enc)->Fr (aN p) h H->sg H b id->R (.slice p (f.filter (λx=>decide (x.id≠id))).length cap) H):
  Cl 141 #[.L p k' cap,.func (.func 142) #[] #[.P b 0]] h R:=by
 subst hn;refine iI.qU.walk (Jz O.iy rfl hl hid λu F=>⟨_,rfl,?_⟩);have I:=O.frame F (λ_ _ x=>x);have y:sg u b id:=F.get hid (λx=>x);have r:Fr (aN p) h u:=F.mono (λ_ _=>False.elim);unfold y9;cases w:f.findIdx? (λa=>decide (a.id=id))with
 |none=>
  rw[ag (by rfl)];have r':f.filter (λx=>decide (x.id≠id))=f:=by
   rw[cD];intro a v;have:=dy.1 w a v;simpa using this
  rw[r']at n;exact n u I r y
 |some k=>
  dsimp only;rw[af (by simp only[db];omega)];obtain⟨g',C,f'⟩:=cJ.1 w;rw[bC ae ae];have h':(f.take (k+1)).filter (λx=>decide (x.id≠id))=f.take k:=by
   rw[bt,ai g',gi];have e1:(f.take k).filter (λx=>decide (x.id≠id))=f.take k:=by
    rw[cD];intro a v;obtain⟨j,g⟩:=bO v;rw[df]at g;split at g
    .rename_i t';have B:j<f.length:=ae
     rw[ai B]at g;obtain rfl:=aZ g;simpa using f' j t'
    .cases g
   have e2: [f[k]].filter (λx=>decide (x.id≠id))= []:=by
    simp at C;simp[C]
   rw[e1];show f.take k++ [f[k]].filter (λx=>decide (x.id≠id))=_;rw[e2,List.append_nil]
  refine⟨qQ h p cap b id f,λ_ j _=>f.length - j.toNat,⟨k,k+1,f,rfl,ae,ae,ae,rfl,h'.symm,rfl,I,r,y⟩,?_⟩;clear I y r F h' f' C g' w;rintro _ _ h2 ⟨a,j,z,rfl,rfl,B',C',j',m,G,o,J,c'⟩;by_cases B:j<f.length
  .have Q:(j:Int)<(f.length:Int):=ae
   simp only[Q,bu,ba,aF];have i':f[j]? =some f[j]:=ai B;have v':z[j]? =some f[j]:=by
    have:=bQ (·[0]?) G;simpa[i']using this
   have E:(f.take (j+1)).filter (λx=>decide (x.id≠id))=(f.take j).filter (λx=>decide (x.id≠id))++if f[j].id=id then []else [f[j]]:=by
    rw[bt,i',gi];congr 1
    by_cases e:f[j].id=id<;>simp[e]
   generalize f[j]=x at*;obtain⟨ab,o',rfl⟩:=o.addr ae;refine aH.of λz' V=>⟨⟨ae,by first|trivial|omega⟩,ax.2 (cj.w5 (o.fP gQ v') (cj.new λb6 h6 A' a' T=>cj.ld a' ?_))⟩
   have d':sg h6 b id:=T.get c' (λx=>x);refine HE x d' λU s=>⟨_,rfl,?_⟩
   have P:=T.tt s;have n':=o.frame P (λ_ _ x=>x);have e':sg U b id:=s.get d' (λx=>x);have K:=J.on P;refine aH.of λJ1 q'=> ?_
   subst q';by_cases e:x.id=id
   .simp only[e,bu,cU,aq,aL];subst V;rw[bC ae ae];rw[ag e,List.append_nil]at E;refine⟨⟨a,j+1,z,rfl,ae,ae,ae,j',by rw[E];exact m,?_,n',K,e'⟩,?_⟩
    .have:=bQ (List.drop 1) G;rw[List.drop_drop,List.drop_drop]at this;exact this
    .show f.length - Int.toNat ((j:Int)+1)<f.length - Int.toNat (j:Int);omega
   .simp only[e,bg,dS,ba];have s':=s.get a' (λx=>x);rw[af e]at E;refine cj.ld s' ⟨⟨ae,by first|trivial|omega⟩,ax.2 ?_⟩;have Z:a<z.length:=ae
    have b':=eO AV.enc 2 gQ z;refine n'.store (by rw[b'];omega) λh9 x' s9 o9=> ?_
    rw[add_add];refine x'.store (by rw[dt,b'];omega) λp' l' y' w'=> ?_
    rw[Ls gQ Z rfl]at l';subst V;rw[bC ae ae,bC ae ae];have M:Fr (aN (Sa ab o')) U p':=(Fr.of_eq s9 o9).tt (Fr.of_eq y' w');refine⟨⟨a+1,j+1,z.set a x,ae,ae,ae,ae,by rw[dt];exact j',?_,?_,l',K.tt M,M.get e' hb⟩,?_⟩
    .rw[E,<-m,bt,dp,ag rfl,ag Z,List.take_set_of_le (bm a)];rfl
    .rw[List.drop_set_of_lt ae];have:=bQ (List.drop 1) G;rw[List.drop_drop,List.drop_drop]at this;exact this
    .show f.length - Int.toNat ((j:Int)+1)<f.length - Int.toNat (j:Int);omega
  .have Q: ¬(j:Int)<(f.length:Int):=ae
   simp only[Q,bg,aq,aL];obtain rfl:j=f.length:=ae
   rw[dT]at m;have u':(f.filter (λx=>decide (x.id≠id))).length=a:=by rw[<-m,bw];omega
   refine⟨ae,?_⟩;simp only[aF];refine Dn tA (by intro D' hv;simp[Value.cells]at hv;rcases hv with rfl|rfl<;>rfl) o ae λh3 m' S=>⟨rfl,⟨ae,bR O.le⟩,?_⟩
   rw[ni AV.enc 2 gQ,m]at m';rw[iU,Nat.sub_zero,Nat.sub_zero];rw[u']at n;exact n h3 m' (J.tt S) (S.get c' hb)
end fw
end
section
namespace fw
variable {A:List fw} {num:Int} {s S:fw} {i:Nat} {d:cM}
structure oX (i:Nat) (s:fw):Prop where
 num:s.num=i+1
 tk:1<=s.token/\s.token<=2147483648
 kl:s.kept.length<=6
 nl:s.notes.length<=6
 kd: ∀a∈s.kept,a.1<=1099511627776/\a.2.length<=1000
 nd: ∀n∈s.notes,1<=n.length/\n.length<=600
 ki:(s.kept.map (·.1)).Nodup
structure mH (A:List fw):Prop where
 le:A.length<=8
 at_: ∀i s,A[i]? =some s->oX i s
 tk:(A.map (·.token)).Nodup
def lY(A:List fw)(num:Int):Option fw:=if 1<=num then A[(num - 1).toNat]? else none
theorem DR(h:lY A num=some s): ∃i:Nat,num=(i:Int)+1/\A[i]? =some s:=by
 unfold lY at h;split at h
 .exact⟨(num - 1).toNat,ae,h⟩
 .cases h
theorem qu :lY A ((i:Int)+1)=A[i]? :=by
 unfold lY;rw[gk,show((i:Int)+1 - 1).toNat=i by omega]
theorem lZ(h:num<1\/num>(A.length:Int)):lY A num=none:=by
 unfold lY;split
 .rw[cY ae]
 .rfl
def ma(A:List fw)(num:Int)(s:fw):List fw:=A.set (num - 1).toNat s
def Pr(A:List fw)(num:Int):Bool:=match lY A num with|some s=>s.up|none=>false
def HF(A:List fw)(t:Nat):Bool:=A.any λs=>decide (s.token=t)
def pD(A:List fw)(t:Nat):Int:=if t<1\/t>2147483648 then 1 else if HF A t=true then 12 else if A.length≥8 then 5 else 0
def HG(A:List fw)(t:Nat):Int:=if pD A t=0 then(A.length:Int)+1 else 0
def wh(A:List fw)(t:Nat):List fw:=if pD A t=0 then A++ [⟨A.length+1,t,true,false, [], []⟩]else A
def Td(A:List fw)(t:Nat):Int:=match A.findIdx? (λs=>decide (s.token=t))with|none=>12|some i=>match A[i]? with|some s=>if s.up=true then 7 else 0|none=>12
def Ps(A:List fw)(t:Nat):Int:=match A.findIdx? (λs=>decide (s.token=t))with|none=>0|some i=>match A[i]? with|some s=>if s.up=true then 0 else(s.num:Int)|none=>0
def MA(A:List fw)(t:Nat):List fw:=match A.findIdx? (λs=>decide (s.token=t))with|none=>A|some i=>match A[i]? with|some s=>if s.up=true then A else A.set i { s with up:=true } |none=>A
def Pv(A:List fw)(num:Int):Int:=match lY A num with|none=>4|some s=>if s.up=true then 0 else 7
def DS(A:List fw)(num:Int):List fw:=match lY A num with|none=>A|some s=>if s.up=true then ma A num { s with up:=false } else A
def iY(A:List fw):List fw:=A.map λs=> { s with up:=false }
def yC(k:List (Nat×cM))(id:Nat)(d:cM):List (Nat×cM):=
 if(k.filter (λa=>decide (a.1≠id))++ [(id,d)]).length>6 then(k.filter (λa=>decide (a.1≠id))++ [(id,d)]).drop 1 else k.filter (λa=>decide (a.1≠id))++ [(id,d)]
def Pw(A:List fw)(num:Int)(id:Nat)(d:cM):Int:=match lY A num with|none=>4|some _=>if id>1099511627776\/d.length>1000 then 1 else 0
def BD(A:List fw)(num:Int)(id:Nat)(d:cM):List fw:=match lY A num with|none=>A|some s=>if id>1099511627776\/d.length>1000 then A else ma A num { s with kept:=yC s.kept id d }
def KU(k:List (Nat×cM))(id:Nat):Option (cM):=(k.find? (λa=>decide (a.1=id))).map (·.2)
def DT(A:List fw)(num:Int)(id:Nat):Option (cM):=match lY A num with|none=>none|some s=>KU s.kept id
def xF(A:List fw)(num:Int):Int:=match lY A num with|none=>4|some _=>0
def ku(A:List fw)(num:Int)(o:Bool):List fw:=match lY A num with|none=>A|some s=>ma A num { s with watch:=o }
def sP(d:cM):Bool:=decide (1<=d.length/\d.length<=600)
def DU(A:List fw)(num:Int)(d:cM):Int:=match lY A num with|none=>4|some s=>if sP d=true then(if s.watch=true then 0 else 7)else 1
def DV(l:List (cM))(d:cM):List (cM):=if(l++ [d]).length>6 then(l++ [d]).drop 1 else l++ [d]
def BE(A:List fw)(num:Int)(d:cM):List fw:=match lY A num with|none=>A|some s=>if sP d=true/\s.watch=true then ma A num { s with notes:=DV s.notes d } else A
def Px(A:List fw)(num:Int):Int:=match lY A num with|none=>4|some _=>0
def KV(A:List fw)(num:Int):Int:=match lY A num with|none=>0|some s=>(s.notes.length:Int)
def DW(A:List fw)(num:Int):cM:=match lY A num with|none=> []|some s=>s.notes.headD []
def DX(A:List fw)(num:Int):List fw:=match lY A num with|none=>A|some s=>ma A num { s with notes:=s.notes.drop 1 }
theorem mH.set(o:mH A)(H:A[i]? =some s)(c:S.token=s.token)(a:oX i S):mH (A.set i S):=by
 have b:=(aE.1 H).1;refine⟨by rw[dt];exact o.le,λj u h=> ?_,?_⟩
 .rw[dp]at h;by_cases e:i=j
  .subst e;rw[ag rfl,ag b]at h;obtain rfl:=aZ h;exact a
  .rw[af e]at h;exact o.at_ j u h
 .rw[List.map_set,c,wg (by rw[aD,H];rfl)];exact o.tk
theorem mH.ma(o:mH A)(a:lY A num=some s)(b:S.token=s.token)(H: ∀i,oX i s->oX i S):mH (ma A num S):=by
 obtain⟨i,rfl,h⟩:=DR a;unfold fw.ma;rw[show((i:Int)+1 - 1).toNat=i by omega];exact o.set h b (H i (o.at_ i s h))
theorem mH.open(o:mH A)(t:Nat):mH (wh A t):=by
 unfold wh;split
 .rename_i h;unfold pD at h;split at h
  .cases h
  rename_i l;split at h
  .cases h
  rename_i f;split at h
  .cases h
  rename_i m;refine⟨by rw[au,dF];omega,λj u H=> ?_,?_⟩
  .by_cases e:j<A.length
   .rw[dh e]at H;exact o.at_ j u H
   .rw[cV ae]at H;have E:j=A.length:=by
     have:=(aE.1 H).1;simp at this;omega
    subst E;simp at H;subst H;exact⟨rfl,by show 1<=t/\t<=2147483648;omega,bV,bV,bV,bV,bV⟩
  .rw[aV,ft];refine⟨o.tk,bV,λa g b c e=> ?_⟩;simp at c;subst c;subst e;apply f
   unfold HF;rw[List.any_eq_true];obtain⟨s,k,e⟩:=bp.1 g;exact⟨s,k,cI e⟩
 .exact o
theorem mH.res(O:mH A)(t:Nat):mH (MA A t):=by
 unfold MA;split
 .exact O
 .split
  .rename_i s h;split
   .exact O
   .have o:=O.at_ _ s h;exact O.set h rfl ⟨o.num,o.tk,o.kl,o.nl,o.kd,o.nd,o.ki⟩
  .exact O
theorem mH.down(O:mH A)(num:Int):mH (DS A num):=by
 unfold DS;split
 .exact O
 .rename_i s h;split
  .exact O.ma h rfl λi o=>⟨o.num,o.tk,o.kl,o.nl,o.kd,o.nd,o.ki⟩
  .exact O
theorem mH.Ri(O:mH A):mH (iY A):=by
 unfold iY;refine⟨by rw[ay];exact O.le,λj u h=> ?_,by rw[dJ];exact O.tk⟩;rw[aD]at h;cases H:A[j]? with
 |none=>rw[H]at h;cases h
 |some s=>
  rw[H]at h;simp at h;subst h;have o:=O.at_ j s H;exact⟨o.num,o.tk,o.kl,o.nl,o.kd,o.nd,o.ki⟩
theorem Py{k:List (Nat×cM)}{id:Nat}(n:k.length<=6)(j: ∀a∈k,a.1<=1099511627776/\a.2.length<=1000)(l:(k.map (·.1)).Nodup)(f:id<=1099511627776)(g:d.length<=1000):
  (yC k id d).length<=6/\(∀a∈yC k id d,a.1<=1099511627776/\a.2.length<=1000)/\((yC k id d).map (·.1)).Nodup:=by
 have o:(k.filter (λa=>decide (a.1≠id))++ [(id,d)]).length<=7:=by
  have:=cP (λa=>decide (a.1≠id)) k;rw[au,dF];omega
 have h: ∀a∈k.filter (λa=>decide (a.1≠id))++ [(id,d)],a.1<=1099511627776/\a.2.length<=1000:=by
  intro a ha;rcases bE.1 ha with ha|ha
  .exact j a (bj.1 ha).1
  .simp at ha;subst ha;exact⟨f,g⟩
 have c:((k.filter (λa=>decide (a.1≠id))++ [(id,d)]).map (·.1)).Nodup:=by
  rw[aV,ft];refine⟨(cS.map _).nodup l,bV,λa ha b H e=> ?_⟩;simp at H;subst H;subst e;obtain⟨x,m,e⟩:=bp.1 ha;have:=(bj.1 m).2;simp at this;exact this e
 unfold yC;split
 .refine⟨by rw[bT];omega,λa ha=>h a (gr ha),?_⟩;rw[List.map_drop];exact(List.drop_sublist _ _).nodup c
 .exact⟨ae,h,c⟩
theorem mH.qU(O:mH A)(num:Int)(id:Nat)(d:cM):mH (BD A num id d):=by
 unfold BD;split
 .exact O
 .rename_i s h;split
  .exact O
  .rename_i H;refine O.ma h rfl λi o=> ?_
   obtain⟨k,K,a⟩:=Py (id:=id) (d:=d) o.kl o.kd o.ki ae ae;exact⟨o.num,o.tk,k,o.nl,K,o.nd,a⟩
theorem mH.watch(O:mH A)(num:Int)(a:Bool):mH (ku A num a):=by
 unfold ku;split
 .exact O
 .rename_i s h;exact O.ma h rfl λi o=>⟨o.num,o.tk,o.kl,o.nl,o.kd,o.nd,o.ki⟩
theorem Pz{l:List (cM)}(b:l.length<=6)(a: ∀n∈l,1<=n.length/\n.length<=600)(H:1<=d.length/\d.length<=600):(DV l d).length<=6/\∀n∈DV l d,1<=n.length/\n.length<=600:=by
 have h: ∀n∈l++ [d],1<=n.length/\n.length<=600:=by
  intro n hn;rcases bE.1 hn with hn|hn
  .exact a n hn
  .simp at hn;subst hn;exact H
 unfold DV;split
 .exact⟨by rw[bT,au,dF];omega,λn hn=>h n (gr hn)⟩
 .exact⟨ae,h⟩
theorem mH.note(O:mH A)(num:Int)(d:cM):mH (BE A num d):=by
 unfold BE;split
 .exact O
 .rename_i s a;split
  .rename_i H;have h:1<=d.length/\d.length<=600:=by have:=H.1;unfold sP at this;simpa using this
   refine O.ma a rfl λi o=> ?_
   obtain⟨k,K⟩:=Pz o.nl o.nd h;exact⟨o.num,o.tk,o.kl,k,o.kd,K,o.ki⟩
  .exact O
theorem mH.read(O:mH A)(num:Int):mH (DX A num):=by
 unfold DX;split
 .exact O
 .rename_i s H;refine O.ma H rfl λi o=>⟨o.num,o.tk,o.kl,?_,o.kd,λn h=>o.nd n (gr h),o.ki⟩
  have:=o.nl;rw[bT];omega
theorem mH.nil:mH []:=⟨bV,bV,bV⟩

end fw
end
section
open Go.fV
namespace fw
open iE
variable {h H:aj} {t:Nat} {X:Ft} {R:fD} {p q:ck} {c i:Nat} {l:Rh} {D:Nat→Prop} {L:List SC} {A:List fw}
variable {num:Int} {k:Nat}
theorem tP:oN Tryz.prog 85 88 1 8 (.pointer none):=⟨dz,dz,rfl⟩
theorem uP:Tryz.prog.underlying 85=some (.slice 88):=dz
theorem gL(d: ∀H t X,Has H t X []->Fr No h H->(∀x,X.M x\/X.D x->h.size<=x)->R (.P t 0) H):Cl 15 #[] h R:=by
 refine Fl.walk (cK ?_);refine d _ _ ⟨λx=>x=h.size,λ_=>False⟩ ⟨[],λx=>if x=h.size then some 0 else none, [],⟨⟨none,0,bZ,.nil rfl rfl rfl rfl,λx ⟨a,e,_⟩=>by cases e⟩,bV,λi s f=>by simp at f,?_,λ_ h=>h.elim,λ_ _ _ h=>h⟩,rfl,rfl,?_⟩ (Fr.push _ _) (λx g=>g.elim (λe=>by have e:x=h.size:=e;omega) False.elim)
 .intro x r b;split at b
  .rename_i e;rw[dk];omega
  .cases b
 .intro x;constructor
  .intro e;have e:x=h.size:=e;exact⟨0,by simp[e]⟩
  .rintro⟨r,b⟩;dsimp only at b;split at b
   .assumption
   .cases b
theorem iu(T:oD h t l D L)(m: ∀i s,num=((i:Nat):Int)+1->L[i]? =some s->R (.T #[.P s.b 0,.I 0]) h)(K:(num<1\/num>(L.length:Int))->R (.T #[.pointer none,.I 4]) h)(u:L.length<=1000000):
  Cl 86 #[.P t 0,.I num] h R:=by
 obtain⟨p,c,f,o,v⟩:=T.cW;refine th.walk (aH.of λJ a=>⟨true,ak f,?_⟩);subst a;simp only[cU,aq,aL];refine aH.of λJ a=> ?_
 by_cases b:num<1
 .simp only[b,bu,ba];subst a;simp only[ba];exact K (.inl b)
 .simp only[b,bg,aq,aL];refine⟨_,_,_,ak f,?_⟩;by_cases d:num>(L.length:Int)
  .simp only[d,bu];subst a;simp only[ba];exact K (.inr d)
  .simp only[d,bg];subst a;simp only[aq,aL];obtain⟨i,rfl⟩: ∃i:Nat,num=(i:Int)+1:=⟨(num - 1).toNat,ae⟩;have j:i<L.length:=ae
   have g:L[i]? =some L[i]:=ai j;obtain⟨n,r,rfl⟩:=o.addr ae;have e:IntKind.wrap .i64 ((i:Int)+1 - 1)=(i:Int):=by rw[bC ae ae];omega
   rw[e];refine⟨_,_,_,ak f,ae,ax.2 ⟨_,?_,m i _ rfl g⟩⟩;rw[aF,cp];exact o.cell (by rw[aD,g];rfl)
theorem wi{k:Int}(T:Nat)(w:k=(T:Int))(g:oD h t l D L)(F:L.length<=1000000)(K: ∀i s,L[i]? =some s->s.token=T->L.findIdx? (λs=>decide (s.token=T))=some i->R (.P s.b 0) h)(x:L.findIdx? (λs=>decide (s.token=T))=none->R (.pointer none) h):Cl 85 #[.P t 0,.U k] h R:=by
 subst w;obtain⟨p,c,v,o,G⟩:=g.cW;refine wc.walk ⟨_,_,_,ak v,?_⟩;refine⟨λi H=>H=h/\∃k:Nat,i=(k:Int)/\k<=L.length/\∀j (b:j<L.length),j<k->L[j].token≠T,λi _=>L.length - i.toNat,⟨rfl,0,rfl,ae,λj _ b=>ae⟩,?_⟩;rintro _ B ⟨rfl,k,rfl,E,d⟩;by_cases n:k<L.length
 .have Q:(k:Int)<(L.length:Int):=ae
  simp only[Q,bu,ba,aF];have f:L[k]? =some L[k]:=ai n;obtain⟨y,z,rfl⟩:=o.addr ae;have u:=(g.ses k _ f).cW;refine⟨⟨ae,by first|trivial|omega⟩,ax.2 ⟨some ⟨L[k].b,0,none⟩,?_,ax.2 ⟨_,ak u,?_⟩⟩⟩
  .rw[cp];exact o.cell (by rw[aD,f];rfl)
  by_cases e:L[k].token=T
  .rw[ag (by rw[e];simp)];refine K k _ f e ?_;rw[cJ];exact⟨n,cI e,λj b=>by simpa using d j ae b⟩
  .rw[af (by simp only[db];omega)];rw[bC ae ae];refine⟨⟨trivial,k+1,ae,ae,λj b C=> ?_⟩,?_⟩
   .by_cases q:j=k
    .subst q;exact e
    .exact d j b ae
   .show L.length - Int.toNat ((k:Int)+1)<L.length - Int.toNat (k:Int);omega
 .have Q: ¬(k:Int)<(L.length:Int):=ae
  simp only[Q,bg,aq,aL];refine x ?_;rw[dy];intro a r;obtain⟨j,b⟩:=bO r;have m:=(aE.1 b).1;rw[ai m]at b;obtain rfl:=aZ b;simpa using d j m ae
theorem kL{s:SC}(a:L[i]? =some s):(L.map SC.abs)[i]? =some s.abs:=by rw[aD,a];rfl
theorem PA(T:Nat):(L.map SC.abs).findIdx? (λs=>decide (s.token=T))=L.findIdx? (λs=>decide (s.token=T)):=by
 rw[List.findIdx?_map];rfl
theorem HC(d:Has h t X A)(o:mH A)(a:R (.B (Pr A num)) h):Cl 87 #[.P t 0,.I num] h R:=by
 obtain⟨_,l,L,T,rfl,_,j⟩:=d;have f:=o.le;rw[ay]at f;unfold Pr at a;refine wa.walk (iu T (λi s e b=>⟨_,_,rfl,?_⟩) (λg=>⟨_,_,rfl,?_⟩) ae)
 .rw[ag (by rfl)];subst e;rw[qu,kL b]at a;exact ax.2 ⟨_,cB (T.ses i s b).cW rfl,a⟩
 .rw[af bV];rw[lZ (by rw[ay];exact g)]at a;exact a
theorem zR{k : Int}(T : Nat)(b' : k = (T : Int))(z : Has h t X A)(ok : mH A)(a : ∀ H n, Has H t n (wh A T) → bA X h n H → R (.tuple #[.int .i64 (HG A T), .int .i64 (pD A T)]) H):
    Cl 51 #[.pointer (some ⟨t, 0, none⟩), .int .u64 k] h R := by
  subst b'
  have o := z
  obtain ⟨_, l, L, g, rfl, _, hS⟩ := z
  have hl := ok.le
  rw [List.length_map] at hl
  obtain ⟨p, c, d, U, w⟩ := g.cW
  refine tj.walk (aH.of λJ j => ⟨true, cB d rfl, ?_⟩)
  subst j
  simp only [Bool.not_true, Bool.false_eq_true, if_false]
  refine aH.of λJ j => ?_
  unfold HG wh at a
  have O : (T < 1 ∨ T > 2147483648) → J true h := by
    intro m
    subst j
    simp only [if_true]
    have e : pD (L.map SC.abs) T = 1 := by unfold pD; rw [if_pos m]
    rw [e] at a
    exact a h X o (bA.refl _ _)
  have jf : ¬ (T < 1 ∨ T > 2147483648) → J false h := by
    intro m
    subst j
    simp only [Bool.false_eq_true, if_false]
    refine wi T rfl g (by omega) (λi s y ht E => ⟨_, rfl, ?_⟩) (λE => ⟨_, rfl, ?_⟩)
    · simp only [Option.isNone_some, Bool.not_false, if_true]
      have e : pD (L.map SC.abs) T = 12 := by
        unfold pD
        rw [if_neg m, if_pos]
        unfold HF
        rw [List.any_eq_true]
        exact ⟨s.abs, List.mem_map_of_mem (List.mem_of_getElem? y), by simp [SC.abs, ht]⟩
      rw [e] at a
      exact a h X o (bA.refl _ _)
    · simp only [Option.isNone_none, Bool.not_true, Bool.false_eq_true, if_false]
      have I : ¬ HF (L.map SC.abs) T = true := by
        unfold HF
        rw [List.any_eq_true]
        rintro ⟨x, hx, e⟩
        obtain ⟨s, y, rfl⟩ := List.mem_map.1 hx
        have := List.findIdx?_eq_none_iff.1 E s y
        rw [show s.abs.token = s.token from rfl] at e
        rw [e] at this; cases this
      refine ⟨_, _, _, cB d rfl, ?_⟩
      by_cases B : (L.length : Int) ≥ 8
      · simp only [B, decide_true, if_true]
        have e : pD (L.map SC.abs) T = 5 := by
          unfold pD
          rw [if_neg m, if_neg I, if_pos (by rw [List.length_map]; omega)]
        rw [e] at a
        exact a h X o (bA.refl _ _)
      · simp only [B, decide_false, Bool.false_eq_true, if_false]
        have e : pD (L.map SC.abs) T = 0 := by
          unfold pD
          rw [if_neg m, if_neg I, if_neg (by rw [List.length_map]; omega)]
        rw [e] at a
        simp only [if_true] at a
        refine ⟨_, _, _, cB d rfl, ?_⟩
        rw [bC (n := (L.length : Int) + 1) (by omega) (by omega)]
        refine cG.box λb h4 eb C f => ?_
        have g' := U.frame f (λ_ _ => id)
        refine ⟨_, _, _, cB (f.get d id) rfl, ?_⟩
        refine iS tP uP g' rfl (λi' M => by simp at M; subst M; rfl) (by omega) (by omega) ?_
        intro P c' h6 o6 r G
        refine ⟨_, _, _, rfl, ?_⟩
        have h' := aC d
        have S : ¬ aN p t := λhx => by have := w t hx; rw [g.Pn] at this; cases this
        have a' := r.get (f.get d id) S
        have Q : ¬ aN p b := λhx => by have := U.dC hx; omega
        have d' := r.get C Q
        refine bD a' (by simp) λv k1 k2 k3 => ?_
        have u : Fr (λx => x = t) h6 v := Fr.of_eq k2 k3
        have f' : ¬ b = t := λe => by omega
        have K := u.get d' f'
        refine ⟨_, cB K rfl, ?_⟩
        have F : Fr (λx => x = t ∨ aN p x) h v := (f.mono (λ_ _ => False.elim)).tt ((r.mono (λ_ _ hx => .inr hx)).tt (u.mono (λ_ _ hx => .inl hx)))
        have e' : ¬ aN P t := λhx => (G t hx).elim S (λh2 => by have := aC (f.get d id); omega)
        have Z : ∀ x, x = t ∨ aN p x → l x = some 0 ∨ l x = some 1 := by
          rintro x (rfl | hx)
          · exact .inl g.Pn
          · exact .inr (w x hx)
        have a2 : ∀ x, aN P x → l x = some 1 ∨ h.size ≤ x := by
          intro x hx
          rcases G x hx with h2 | h2
          · exact .inl (w x h2)
          · have := f.1; exact .inr (by omega)
        have a3 : ¬ aN P b := by
          intro hx
          rcases G b hx with h2 | h2
          · exact Q h2
          · have := aC C; omega
        obtain ⟨n, V, st⟩ := g.add (s := ⟨b, L.length + 1, T, true, false, [], none, 0, [], none, 0⟩) (p := P) (c0 := c') hS F Z k1 (o6.frame u (λx hx e => e' (e ▸ hx))) a2 a3 K (by show h.size ≤ b; omega) ⟨rfl, rfl, rfl⟩ ⟨rfl, rfl, rfl⟩
        have := a v n (by rw [List.length_map]; exact ⟨_, V⟩) st
        rw [List.length_map] at this
        exact this
  clear j
  by_cases h1 : T < 1
  · have : (T : Int) < 1 := by omega
    simp only [this, decide_true, if_true]
    exact O (.inl h1)
  · have : ¬ (T : Int) < 1 := by omega
    simp only [this, decide_false, Bool.false_eq_true, if_false]
    by_cases h2 : T > 2147483648
    · have : (T : Int) > 2147483648 := by omega
      simp only [this, decide_true]
      exact O (.inr h2)
    · have : ¬ (T : Int) > 2147483648 := by omega
      simp only [this, decide_false]
      exact jf (by omega)
theorem MB{k:Int}(T:Nat)(w:k=(T:Int))(f:Has h t X A)(O:mH A)(a: ∀H x,Has H t x (MA A T)->bA X h x H->R (.T #[.I (Ps A T),.I (Td A T)]) H):
  Cl 52 #[.P t 0,.U k] h R:=by
 subst w;have g:=f;obtain⟨_,l,L,b,rfl,_,u⟩:=f;have y:=O.le;rw[ay]at y;obtain⟨p,c,v,F,C⟩:=b.cW;refine qR.walk (aH.of λJ r=>⟨true,ak v,?_⟩);subst r;simp only[cU,aq,aL];unfold Ps Td MA at a;rw[PA]at a;refine wi T rfl b ae (λi s e E d=>⟨_,rfl,?_⟩) (λd=>⟨_,rfl,?_⟩)
 .simp only[ia,aq,aL];rw[d]at a;dsimp only at a;rw[kL e]at a;dsimp only at a;have j:=(b.ses i s e).cW;refine ax.2 ⟨_,ak j,?_⟩;cases m:s.up with
  |true=>
   simp only[ba];have:s.abs.up=true:=m;simp only[this,ba]at a;exact a h X g (bA.refl _ _)
  |false=>
   simp only[aq,aL];have:s.abs.up=false:=m;simp only[this,aq,aL]at a;refine ax.2 (bD j bV λo K z B=>ax.2 ?_);refine⟨_,ak K,?_⟩;obtain⟨x,n,S⟩:=b.flag (s':= { s with up:=true }) u e rfl ⟨rfl,rfl,rfl⟩ ⟨rfl,rfl,rfl⟩ K z B;exact a o x ⟨_,n⟩ S
 .simp only[Option.isNone_none,ba];rw[d]at a;exact a h X g (bA.refl _ _)
theorem Fi(d:Has h t X A)(O:mH A)(a: ∀H x,Has H t x (DS A num)->bA X h x H->R (.I (Pv A num)) H):Cl 53 #[.P t 0,.I num] h R:=by
 have f:=d;obtain⟨_,l,L,T,rfl,_,o⟩:=d;have r:=O.le;rw[ay]at r;unfold DS Pv at a;refine tn.walk (iu T (λi s e b=>⟨_,_,rfl,?_⟩) (λu=>⟨_,_,rfl,?_⟩) ae)
 .rw[af bV];subst e;rw[qu,kL b]at a;dsimp only at a;have g:=(T.ses i s b).cW;refine ax.2 ⟨_,ak g,?_⟩;cases j:s.up with
  |true=>
   have:s.abs.up=true:=j;simp only[this,ba]at a;simp only[cU,aq,aL];refine ax.2 (bD g bV λn K v w=> ?_);obtain⟨x,m,S⟩:=T.flag (s':= { s with up:=false }) o b rfl ⟨rfl,rfl,rfl⟩ ⟨rfl,rfl,rfl⟩ K v w;refine a n x ?_ S;unfold ma;rw[show((i:Int)+1 - 1).toNat=i by omega];exact⟨_,m⟩
  |false=>
   have:s.abs.up=false:=j;simp only[this,aq,aL]at a;simp only[dS,ba];exact a h X f (bA.refl _ _)
 .rw[ag (by rfl)];rw[lZ (by rw[ay];exact u)]at a;exact a h X f (bA.refl _ _)
theorem BF{o:Bool}(f:Has h t X A)(O:mH A)(a: ∀H x,Has H t x (ku A num o)->bA X h x H->R (.I (xF A num)) H):Cl 205 #[.P t 0,.I num,.B o] h R:=by
 have g:=f;obtain⟨_,l,L,T,rfl,_,n⟩:=f;have u:=O.le;rw[ay]at u;unfold ku xF at a;refine sf.walk (iu T (λi s e d=>⟨_,_,rfl,?_⟩) (λv=>⟨_,_,rfl,?_⟩) ae)
 .refine aH.of λJ b=> ?_
  subst b;rw[ag (by rfl)];subst e;rw[qu,kL d]at a;dsimp only at a;have r:=(T.ses i s d).cW;refine ax.2 (bD r bV λm K w y=> ?_);obtain⟨x,j,S⟩:=T.flag (s':= { s with watch:=o }) n d rfl ⟨rfl,rfl,rfl⟩ ⟨rfl,rfl,rfl⟩ K w y;refine a m x ?_ S;unfold ma;rw[show((i:Int)+1 - 1).toNat=i by omega];exact⟨_,j⟩
 .refine aH.of λJ b=> ?_
  subst b;rw[af bV];rw[lZ (by rw[ay];exact v)]at a;exact a h X g (bA.refl _ _)
def kM(A:List fw)(k:Nat):List fw:=(A.take k).map (λs=> { s with up:=false })++A.drop k
theorem HI{s:fw}(a:A[k]? =some s):(kM A k).set k { s with up:=false } =kM A (k+1):=by
 have b:=(aE.1 a).1;unfold kM;have d:((A.take k).map (λs:fw=> { s with up:=false })).length=k:=by rw[ay,bw];omega
 rw[List.set_append_right _ _ ae,d,Nat.sub_self,bt,a,aV];rw[show A.drop k=s::A.drop (k+1) by rw[cX b];congr 1;rw[ai b]at a;exact aZ a];simp
theorem MC :(kM A k)[k]? =A[k]? :=by
 unfold kM;by_cases b:k<=A.length
 .have a:((A.take k).map (λs:fw=> { s with up:=false })).length=k:=by rw[ay,bw];omega
  rw[cV ae,a,Nat.sub_self,fx];rfl
 .rw[cY (by rw[au,ay,bw,bT];omega),cY ae]
theorem JC :(kM A k).length=A.length:=by unfold kM;rw[au,ay,bw,bT];omega
theorem JD(B:Has h t X A)(ok:mH A)(hk: ∀H x,Has H t x (iY A)->bA X h x H->R (.T #[]) H):Cl 57 #[.P t 0] h R:=by
 have H0:=B;have hl:=ok.le;obtain⟨_,l,L,E,I,_,hS⟩:=B;obtain⟨p,c,M,w',hp⟩:=E.cW;have q':L.length=A.length:=by rw[<-I,ay]
 refine qt.walk ⟨_,_,_,ak M,?_⟩;refine⟨λi H=> ∃(k:Nat)(x:Ft),i=(k:Int)/\k<=A.length/\Has H t x (kM A k)/\bA X h x H/\(∃u V,oD H t V x.D u/\u.map SC.abs=kM A k/\(∀c,x.M c↔ ∃o',V c=some o')/\H[t]? =h[t]? /\u.map SC.b=L.map SC.b/\∀a,p=some a->H[a.block]? =h[a.block]?),λi _=>A.length - i.toNat,⟨0,X,rfl,ae,by simpa[kM]using H0,bA.refl _ _,L,l,E,by simpa[kM]using I,hS,rfl,rfl,λ_ _=>rfl⟩,?_⟩;rintro _ f ⟨k,F1,rfl,r',C,b',b,v',T,w,d',U,g',j'⟩;by_cases u':k<A.length
 .have Q:(k:Int)<(L.length:Int):=ae
  simp only[Q,bu,ba,aF];have i':k<b.length:=by have:=bQ List.length w;rw[ay,JC]at this;omega
  have g:b[k]? =some b[k]:=ai i';obtain⟨p1,c1,r,O,k'⟩:=T.cW;have h':=r;rw[U,M]at r;simp at r;obtain⟨rfl,t',rfl⟩:=r;obtain⟨d,n,rfl⟩:=O.addr ae;have f':=(T.ses k _ g).cW;refine⟨⟨ae,by first|trivial|omega⟩,ax.2 ⟨some ⟨b[k].b,0,none⟩,?_,ax.2 ?_⟩⟩
  .rw[cp];exact O.cell (by rw[aD,g];rfl)
  refine bD f' bV λo k1 k2 K=> ?_
  have z:=(T.ses k _ g).lb;obtain⟨F2,s,p'⟩:=T.flag (s':= { b[k]with up:=false }) d' g rfl ⟨rfl,rfl,rfl⟩ ⟨rfl,rfl,rfl⟩ k1 k2 K;rw[bC ae ae];have J:(kM A k)[k]? =some b[k].abs:=by rw[<-w];exact kL g
  have e2:((b.map SC.abs).set k { b[k]with up:=false }.abs)=kM A (k+1):=by
   rw[w];rw[MC]at J;exact HI J
  rw[e2]at s;have a':t≠b[k].b:=λe=>by rw[<-e,T.Pn]at z;simp at z;omega
  have Z:d≠b[k].b:=λe=>by
   have:=k' d ⟨_,rfl,rfl⟩;rw[e,z]at this;simp at this;omega
  obtain⟨m',v,F,c',_,e'⟩:=id s;refine⟨⟨k+1,F2,ae,ae,⟨_,s⟩,b'.trans p',v,m',F,c',e',by rw[K t a',U],?_,?_⟩,?_⟩
  ·
   obtain⟨p2,c2,y,n',_⟩:=F.cW;have e3:o[t]? =f[t]? :=K t a';rw[e3,h']at y;simp at y;obtain⟨rfl,s',rfl⟩:=y;have l':o[d]? =f[d]? :=K d Z;apply fE
   intro j;rw[<-g'];by_cases P:j<b.length
   .have G:aY f (((AA d n):Addr).add j)=some (.pointer (some ⟨b[j].b,0,none⟩)):=O.cell (by rw[aD,ai P];rfl);have S:j<v.length:=ae
    have m:aY o (((AA d n):Addr).add j)=some (.pointer (some ⟨v[j].b,0,none⟩)):=n'.cell (by rw[aD,ai S];rfl);rw[hY]at G m;have:aY o (AA d (n+j))=aY f (AA d (n+j)):=by unfold aY;rw[l']
    rw[this,G]at m;simp at m;rw[aD,aD,ai P,ai S];simp[m]
   .rw[cY (by rw[ay];omega),cY (by rw[ay];omega)]
  .rintro a e;cases e;rw[K d Z,j' _ rfl]
  .show A.length - Int.toNat ((k:Int)+1)<A.length - Int.toNat (k:Int);omega
 .have Q: ¬(k:Int)<(L.length:Int):=ae
  simp only[Q,bg,aq,aL];have e:kM A k=iY A:=by
   unfold kM iY;rw[bn ae,dV ae,List.append_nil]
  rw[e]at C;exact hk f F1 C b'

end fw
end
section
open Go.fV Go.kA
namespace hZ
open iE
variable {h h':aj} {b:Nat} {X:Ft} {R:fD} {p q:ck} {c d i:Nat} {L:List E} {s:BS}
variable {l:ck} {g a:Nat} {f:List IV} {S:Nat->Prop} {O k:Int} {x:It}
def za(h:aj)(b:Nat)(X:Ft)(s:BS):Prop:= ∃L,Bx h b X s L/\okB s L
theorem za.frame{Q:Nat->Prop}(H:za h b X s)(F:Fr Q h h')(e: ∀y,X.M y\/X.D y->¬Q y):za h' b X s:=by
 obtain⟨L,H,o⟩:=H;exact⟨L,H.frame F e,o⟩
theorem za.on(H:za h b X s)(F:Fr No h h'):za h' b X s:=H.frame F bX
theorem za.lt(H:za h b X s)(y:Nat)(e:X.M y\/X.D y):y<h.size:=by
 obtain⟨L,H,o⟩:=H;exact H.lt y e
theorem Mm.FP(H:Mm h b X s L l g f a S)(o:okB s L):L.length<1000/\f.length<=16:=by
 have e:=o.pm.length_eq;rw[ay]at e;have:=o.le;have:=H.len;omega
def jJ(s:BS)(O:Int)(d:cM)(t:Nat):Int:=if xy O d.length (t:Int)=true then(if s.items.length≥16 then 15 else 0)else 1
def BG(s:BS)(O:Int)(d:cM)(t:Nat):Int:=if jJ s O d t=0 then(s.next:Int)else 0
def HJ(s:BS)(O:Int)(d:cM)(t:Nat):BS:=if jJ s O d t=0 then { s with items:=s.items++ [⟨s.next,O,d,t⟩],next:=s.next+1 } else s
theorem BH{B:cM}{l' m:Nat}(t:Nat)(A':k=(t:Int))(H:za h b X s)(hr:Row h p (bc B))(J:l'=B.length)(hl:B.length<=1000000)(K':s.next<=1000000000)(v: ∀h' X',za h' b X' (HJ s O B t)->bA X h X' h'->R (.T #[.I (BG s O B t),.I (jJ s O B t)]) h'):
  Cl 296 #[.P b 0,.I O,.L p l' m,.U k] h R:=by
 subst A';subst J;obtain⟨L,⟨l,g,f,a,S,H⟩,o⟩:=H;obtain⟨hL,L'⟩:=H.FP o;have J':=H.len;refine Bu.walk (fT H ⟨_,rfl,?_⟩);simp only[cU,aq,aL];refine⟨_,ak H.cW,sM hr rfl ae λz P C o2 f2 g2=>⟨_,_,_,_,_,_,rfl,?_⟩⟩;refine aJ.new λu h7 I' f' f7=>aJ.ld f' (fK λj f8=>⟨_,rfl,?_⟩)
 have U:Fr No h j:=f2.tt (f7.tt f8);have A:=H.on U;have z2:=f2.1;have z7:=f7.1;have z8:=f8.1;have l1:=aC f';unfold HJ BG at v;cases n:xy O B.length (t:Int)with
 |false=>
  have e:jJ s O B t=1:=by unfold jJ;rw[n];rfl
  rw[e]at v;simp only[dS,ba];exact v j X ⟨L,⟨l,g,f,a,S,A⟩,o⟩ (bA.hH U)
 |true=>
  simp only[cU,aq,aL];refine⟨_,_,_,ak A.cW,?_⟩;by_cases k':s.items.length≥16
  .have q:(f.length:Int)≥16:=ae
   have e:jJ s O B t=15:=by unfold jJ;rw[n,ag rfl,ag k']
   rw[e]at v;simp only[q,bu,ba];exact v j X ⟨L,⟨l,g,f,a,S,A⟩,o⟩ (bA.hH U)
  .have q: ¬(f.length:Int)≥16:=ae
   have e:jJ s O B t=0:=by unfold jJ;rw[n,ag rfl,af k']
   rw[e]at v;simp only[ba]at v;simp only[q,bg,aq,aL];have j':aJ.at j u (s.next:Int) O P B.length C (t:Int):=f8.get f' id;refine⟨_,_,_,ak A.cW,aJ.ld j' ?_⟩;refine cK ⟨cB (A.on (Fr.push (S:=λ_=>False) j _)).cW rfl,?_⟩;have E:Fr No j (j.push (.C #[.I (s.next:Int),.I O,.L P B.length C,.U (t:Int)] 132)):=Fr.push _ _;have r9:Row (j.push (.C #[.I (s.next:Int),.I O,.L P B.length C,.U (t:Int)] 132)) (Sa j.size 0) [.I (s.next:Int),.I O,.L P B.length C,.U (t:Int)]:=iT;generalize j.push (.C #[.I (s.next:Int),.I O,.L P B.length C,.U (t:Int)] 132)=h9 at E r9⊢;have H9:=A.on E;have z':aJ.at h9 u (s.next:Int) O P B.length C (t:Int):=E.get j' id;refine dH tI uI H9.own r9 rfl (λo' hv=>by simp at hv;rcases hv with rfl|rfl|rfl|rfl<;>rfl) ae ae λQ u' G n' _ D x'=>⟨_,_,_,rfl,?_⟩
   have z9:=E.1;have O':=D.1;have lb:=aC H.cW;have E':=D.get H9.cW H.bl;refine bD E' bV λa' a1 a2 a3=> ?_
   have V:Fr (λy=>y=b) G a':=Fr.of_eq a2 a3;refine⟨_,ak a1,bD a1 bV λr d1 d2 d3=> ?_⟩;have Z:Fr (λy=>y=b) a' r:=Fr.of_eq d2 d3;have m': ∀y,h.size<=y->¬aN l y:=λy hy hx=>by have:=H.own.dC hx;omega
   have y':aJ.at G u (s.next:Int) O P B.length C (t:Int):=D.get z' (m' u ae);have i':aJ.at r u (s.next:Int) O P B.length C (t:Int):=(d3 u ae).trans ((a3 u ae).trans y');have p':cf.Al r a S L:=((H9.al.frame D (λy hy hx=>H.ls y hx hy)).frame V (λy hy e=>H.bs (e▸hy))).frame Z (λy hy e=>H.bs (e▸hy));refine⟨_,ak d1,_,ak i',?_⟩;rw[Jw]at n;have B':cf.may (s.next:Int) (t:Int)=true:=cf.mW.2 ⟨bR o.yA,ae,n.2.2.2.2⟩;refine cf.Ju p' ae _ _ ae (λ_ I c' q' e' F=>⟨_,rfl,?_⟩) (λhf=>by rw[B']at hf;cases hf);have nS: ∀y,h.size<=y->¬S y:=λy hy w=>by have:=H.al.lt w;omega
   refine⟨_,ak (F.get i' (nS u ae)),?_⟩;have F9:Fr No h h9:=U.tt E;have P':G.size<=r.size:=ae
   have r':Fr (aN l) h G:=Fr.no F9 D;have s':Fr (λy=>aN l y\/y=b) h r:=((r'.mono (λ_ _ hx=> .inl hx)).tt (V.mono (λ_ _ hx=> .inr hx))).tt (Z.mono (λ_ _ hx=> .inr hx));have T:Fr X.M h I:=((s'.mono (λy _ hx=>(H.m y).2 (hx.elim (λh=> .inr (.inl h)) .inl))).tt (F.mono (λy _ hx=>(H.m y).2 (.inr (.inr hx)))));have b': ∀y,aN P y->h.size<=y/\y<z.size:=λy hy=>⟨g2 y hy,o2.dC hy⟩
   have K: ∀y,aN Q y->aN l y\/z.size<=y:=λy hy=>(x' y hy).imp id (λh1=>ae)
   have H': ∀y,aN Q y->y<r.size:=λy hy=>by have:=n'.dC hy;omega
   have G':fz I P B.length C 1 (bc B):=by
    have t':Fr X.M z I:=by
     refine⟨gG T.1 F.1,λy hy J=> ?_⟩;have e1:I[y]? =r[y]? :=F.2 y ae (λhx=>J ((H.m y).2 (.inr (.inr hx))));have e2:r[y]? =a'[y]? :=Z.2 y ae (λe=>J ((H.m y).2 (.inl e)));have e3:a'[y]? =G[y]? :=V.2 y ae (λe=>J ((H.m y).2 (.inl e)));have e4:G[y]? =h9[y]? :=D.2 y ae (λe=>J ((H.m y).2 (.inr (.inl e))));have e5:h9[y]? =z[y]? :=(f7.tt (f8.tt E)).2 y ae id;rw[e1,e2,e3,e4,e5]
    exact o2.frame t' (λy hy M=>gG (H.lt y (.inl M)) (b' y hy))
   have w': ∀y,X.D y\/aN P y->y<I.size:=λy hy=>hy.elim (λh1=>cA (H.FO y h1) T.1) (λh1=>gG (b' y h1) F.1)
   have v':f.flatMap gO++ [.I (s.next:Int),.I O,.L P B.length C,.U (t:Int)]=(f++ [(⟨s.next,O,⟨P,C,B⟩,t⟩:IV)]).flatMap gO:=by rw[cg];simp
   have ln:(f++ [(⟨s.next,O,⟨P,C,B⟩,t⟩:IV)]).length=f.length+1:=by rw[au];rfl
   have g': ∀y,aN Q y->y≠b:=λy hy e=>(K y hy).elim (λh1=>H.bl (e▸h1)) (λh1=>ae)
   have d': ∀y,c' y->X.M y\/r.size<=y:=λy hy=>(e' y hy).imp (λh1=>(H.m y).2 (.inr (.inr h1))) id
   refine v I ⟨λy=>y=b\/aN Q y\/c' y,λy=>X.D y\/aN P y⟩ ⟨_,⟨Q,u',f++ [⟨s.next,O,⟨P,C,B⟩,t⟩],a,c',⟨?_,?_,q',?_,?_,λ_=>fi,λhx=>g' b hx rfl,?_,?_,?_,w'⟩⟩,?_⟩ ⟨T,?_,?_,λ_=> .inl⟩
   .have F':=F.get d1 H.bs;rw[F'];dsimp only;rw[ln,bC ae ae];rfl
   .rw[ln,<-v'];exact((n'.frame V g').frame Z g').frame F (λy hy w=>(K y hy).elim (λh1=>H.ls y h1 w) (λh1=>nS y ae w))
   .rw[aV,H.abs];rfl
   .intro o' hv;rcases bE.1 hv with hv|hv
    .exact((H.Cj o' hv).frame T (λy hd M=>H.vA y M hd)).mono (λy=> .inl)
    .obtain rfl:=bP.1 hv;exact BV.jy G' (λy=> .inr)
   .intro w;exact(e' b w).elim H.bs (λh1=>ae)
   .intro y hy w;rcases e' y w with h1|h1
    .exact(K y hy).elim (λz=>H.ls y z h1) (λz=>nS y ae h1)
    .have:=H' y hy;omega
   .rintro y hy (hd|hd)
    .rcases hy with rfl|hy|hy
     .exact H.vA _ ((H.m _).2 (.inl rfl)) hd
     .exact(K y hy).elim (λh1=>H.vA _ ((H.m _).2 (.inr (.inl h1))) hd) (λh1=>bR (H.FO y hd))
     .exact(d' y hy).elim (λh1=>H.vA _ h1 hd) (λh1=>bR (H.FO y hd))
    .have D':=b' y hd;rcases hy with rfl|hy|hy
     .omega
     .exact(K y hy).elim (λh1=>m' y D'.1 h1) (λh1=>ae)
     .exact(d' y hy).elim (λh1=>bR (H.lt y (.inl h1))) (λh1=>ae)
   .have C':(s.next:Int)∉keys L:=by
     intro M;obtain⟨e,he,ek⟩:=bp.1 M;obtain⟨x,hx,rfl⟩:=bp.1 (o.pm.mem_iff.1 he);have:=(o.it x hx).2.1;have ek:(x.num:Int)=(s.next:Int):=ek;omega
    refine⟨?_,?_,?_,?_,?_⟩
    .show(s.items++ [_]).length<=16;rw[au,dF];omega
    .unfold cf.Br;rw[kI C'];refine(mR _ _).trans ?_;show List.Perm (((s.next:Int),(t:Int))::L) ((s.items++ [(⟨s.next,O,B,t⟩:It)]).map It.kv);rw[aV];exact(List.Perm.cons _ o.pm).trans (eK _ _).symm
    .intro x hx;rcases bE.1 hx with hx|hx
     .have:=o.it x hx;exact⟨this.1,by show x.num<s.next+1;omega,this.2.2⟩
     .obtain rfl:=bP.1 hx;exact⟨by show 1<=s.next;have:=o.yA;omega,by show s.next<s.next+1;omega,n.2.2.1,n.2.2.2.1,n.1,n.2.1,by have:=n.2.2.2.2;show t<=_;omega⟩
    .show((s.items++ [_]).map It.num).Pairwise (· < ·);rw[aV,List.pairwise_append];refine⟨o.inc,bV,λy hy M' hz=> ?_⟩;simp at hz;subst hz;obtain⟨x,hx,rfl⟩:=bp.1 hy;exact(o.it x hx).2.1
    .show s.next+1=1+(s.items++ [_]).length+s.taken+s.qq+s.over;rw[au,dF];have:=o.yA;omega
   .rintro y (rfl|hy|hy)
    .exact .inl ((H.m _).2 (.inl rfl))
    .exact(K y hy).imp (λh1=>(H.m _).2 (.inr (.inl h1))) (λh1=>ae)
    .exact(d' y hy).imp id (λh1=>ae)
   .rintro y (hy|hy)
    .exact .inl hy
    .exact .inr (b' y hy).1
def oE(s:BS)(num O:Int):Int:=match yZ s.items num with|none=>4|some i=>(match s.items[i]? with|some x=>if x.owner=O then 0 else 13|none=>4)
def nP(s:BS)(num O:Int):BS:=if oE s num O=0 then { s with items:=qQ s.items num,qq:=s.qq+1 } else s
theorem Mm.field{s':BS}(H:Mm h b X s L l g f a S)(r:s'.items=s.items)(o:h'[b]? =some (.C #[.L l f.length g,.I (s'.next:Int),.I (s'.taken:Int),.I (s'.qq:Int),.I (s'.over:Int),.P a 0] 122 (0,0)))(F:Fr (λy=>y=b) h h'):Mm h' b X s' L l g f a S/\bA X h X h':=by
 have n: ∀y,X.D y->y≠b:=λy m e=>H.vA b ((H.m b).2 (.inl rfl)) (e▸m)
 refine⟨⟨o,H.own.frame F (λy j e=>H.bl (e▸j)),H.al.frame F (λy j e=>H.bs (e▸j)),H.abs.trans r.symm,λx t=>(H.Cj x t).frame F (λy m e=>n y m e),H.m,H.bl,H.bs,H.ls,H.vA,λy j=>cA (H.FO y j) F.1⟩,bA.vw (F.mono (λy _ e=>(H.m y).2 (.inl e)))⟩
theorem Fm(H:Mm h b X s L l g f a S)(e:s.items[i]? =some x): ∃v,f[i]? =some v/\v.abs=x:=by
 rw[<-H.abs,aD]at e;cases j:f[i]? with
 |none=>rw[j]at e;cases e
 |some v=>rw[j]at e;exact⟨v,rfl,aZ e⟩
theorem wj{I:List It}(e:(I.map It.num).Pairwise (· < ·))(H:I[i]? =some x):(qQ I (x.num:Int)).length+1=I.length:=by
 have j:=(aE.1 H).1;rw[<-pC e H];unfold vY;rw[au,bw,bT];omega
theorem okB.del{t o:Nat}(e:okB s L)(H:s.items[i]? =some x)(j:t+c+o=s.taken+s.qq+s.over+1):okB ⟨qQ s.items (x.num:Int),s.next,t,c,o⟩ (fU L (x.num:Int)):=by
 refine e.sub cS (Bw e.pm) ?_;have:=wj e.inc H;have:=e.yA;omega
theorem xG{num:Int}(H:za h b X s)(j':s.next<=1000000000)(j: ∀h' A,za h' b A (nP s num O)->bA X h A h'->R (.I (oE s num O)) h'):
  Cl 194 #[.P b 0,.I num,.I O] h R:=by
 obtain⟨L,⟨l,g,f,a,S,H⟩,o⟩:=H;obtain⟨hL,k'⟩:=H.FP o;have i':=H.len;have g':=o.le;refine vX.walk (fT H ⟨_,rfl,?_⟩);simp only[cU,aq,aL];refine iu H ae λB F=>⟨_,rfl,?_⟩
 have m:=H.on F;unfold nP at j;cases n:yZ s.items num with
 |none=>
  have e:oE s num O=4:=by unfold oE;rw[n]
  rw[e]at j;have E:sa s.items num= -1:=by unfold sa;rw[n]
  rw[E,gk];exact j B X ⟨L,⟨l,g,f,a,S,m⟩,o⟩ (bA.hH F)
 |some i=>
  obtain⟨x,r,y⟩:=By n;have E:sa s.items num=(i:Int):=by unfold sa;rw[n]
  have hi:=(aE.1 r).1;obtain⟨v,C,D⟩:=Fm H r;have q: ¬(i:Int)<0:=ae
  rw[E];simp only[q,bg,aq,aL,aF];obtain⟨ab,e',rfl⟩:=m.own.addr ae;have hc:=(m.own.fP iB C).2.1;refine⟨_,_,_,ak m.cW,ae,ax.2 ⟨v.owner,hc,?_⟩⟩;have G:v.owner=x.owner:=by rw[<-D];rfl
  by_cases t:x.owner=O
  .have e:oE s num O=0:=by unfold oE;rw[n];dsimp only;rw[r];dsimp only;rw[ag t]
   rw[e]at j;simp only[ba]at j;rw[af (by rw[G,t];simp)];refine AM m ae hL C λZ K I s3 _=>⟨_,_,_,_,_,_,rfl,?_⟩
   obtain⟨b',a',c',Q,J,u⟩:=I;refine⟨_,ak u.cW,bD u.cW bV λw M P T=> ?_⟩;have V:Fr (λd'=>d'=b) Z w:=Fr.of_eq P T;have f':=o.yA;have vn:(v.num:Int)=num:=by rw[<-y,<-D];rfl
   have U:vY s.items i=qQ s.items num:=by rw[<-y];exact pC o.inc r
   obtain⟨z,s4⟩:=u.field (s':=⟨qQ s.items num,s.next,s.taken,s.qq+1,s.over⟩) (h':=w) U.symm (by
    rw[M];dsimp only;rw[bC ae ae];rfl) V
   rw[vn]at z;refine j w K ⟨fU L num,⟨b',a',c',Q,J,z⟩,?_⟩ ((bA.hH F).trans (s3.trans s4));have:=o.del (t:=s.taken) (c:=s.qq+1) (o:=s.over) r ae;rwa[y]at this
  .have e:oE s num O=13:=by unfold oE;rw[n];dsimp only;rw[r];dsimp only;rw[af t]
   rw[e]at j;rw[ag (by rw[G];simpa using t)];exact j B X ⟨L,⟨_,g,f,a,S,m⟩,o⟩ (bA.hH F)
theorem vZ(H:za h b X s)(q':s.next<=1000000000)(k1:s.items= []->∀h',za h' b X s->Fr No h h'->R (.T #[.agg #[.I 0,.I 0,.Z,.U 0],.I 4]) h')(k2: ∀x r,s.items=x::r->∀h' C (v:IV),v.abs=x->za h' b C { s with items:=r,taken:=s.taken+1 } ->bA X h C h'->v.v.ok h' C.D->R (.T #[v.agg,.I 0]) h'):
  Cl 95 #[.P b 0] h R:=by
 obtain⟨L,⟨l,g,f,a,S,H⟩,t⟩:=H;obtain⟨hL,r'⟩:=H.FP t;have a':=H.len;have p':=t.le;have o':=t.yA;refine yX.walk (aJ.box λB V n' z I=> ?_);have j:=H.on I;refine fT j ⟨_,rfl,?_⟩;simp only[cU,aq,aL];refine⟨_,_,_,ak j.cW,?_⟩;cases n:s.items with
 |nil=>
  have i':f.length=0:=by rw[a',n];rfl
  rw[ag (by rw[i'];rfl)];refine aJ.set z λh6 D E G=>aJ.ld D ?_
  have U:Fr (λy=>y=B) V h6:=Fr.of_eq E G;have l1:=aC z;have nX: ∀y,X.M y\/X.D y->y≠B:=λy o e=>by have:=H.lt y o;omega
  exact k1 n h6 ⟨L,⟨l,g,f,a,S,j.frame U nX⟩,t⟩ (I.fresh U (λy e=>ae))
 |cons x r=>
  have s':0<f.length:=by rw[a',n];simp
  rw[af (by simp only[db];omega)];have K:s.items[0]? =some x:=by rw[n];rfl
  obtain⟨v,hv,c'⟩:=Fm j K;refine⟨_,ak j.cW,bD j.cW bV λZ a1 P Q=> ?_⟩;have g':Fr (λy=>y=b) V Z:=Fr.of_eq P Q;obtain⟨f',k'⟩:=j.field (s':= { s with taken:=s.taken+1 }) (h':=Z) rfl (by
   rw[a1];dsimp only;rw[bC ae ae];rfl) g'
  refine AM (i:=0) f' (by show s.items.length<=100;omega) hL hv λJ m A M m'=>⟨_,_,_,_,_,_,rfl,?_⟩
  have l1:=aC z;have lb:=aC H.cW;have j':aJ.at J B 0 0 none 0 0 0:=M.fr.get ((Q B ae).trans z) (λhm=>bR (H.lt B (.inl hm)));refine aJ.set j' λw D E G=>aJ.ld D ?_
  have F:Fr (λy=>y=B) J w:=Fr.of_eq E G;have d': ∀y,m.M y\/m.D y->y≠B:=M.apart (Q:=λy=>y=B) (λy o e=>bR (H.lt y o)) (λy e=>by rw[e,P];exact l1);have vn:(v.num:Int)=(x.num:Int):=by rw[<-c'];rfl
  have T:vY s.items 0=r:=by unfold vY;rw[n];rfl
  have ed:qQ s.items (x.num:Int)=r:=by rw[<-pC t.inc K];exact T
  rw[vn]at A;have b':=t.del (t:=s.taken+1) (c:=s.qq) (o:=s.over) K ae;rw[ed]at b';have e':Bx w b m { s with items:=r,taken:=s.taken+1 } (fU L (x.num:Int)):=by
   have:({ ({ s with taken:=s.taken+1 } :BS)with items:=vY ({ s with taken:=s.taken+1 } :BS).items 0 } :BS)= { s with items:=r,taken:=s.taken+1 } :=by
    show(⟨vY s.items 0,_,_,_,_⟩:BS)=_;rw[T]
   rw[this]at A;exact A.frame F d'
  have u:bA X h m J:=(bA.hH I).trans (k'.trans M);have l':bA X h m w:=by
   refine⟨⟨cE u.fr.1 F.1,λy o hn=> ?_⟩,u.iz,u.jx,u.mQ⟩;rw[F.2 y (cA o u.fr.1) (λe=>ae)];exact u.fr.2 y o hn
  exact k2 x r n w m v c' ⟨_,e',b'⟩ l' (m'.frame F (λy hd e=>d' y (.inr hd) e))
theorem wk(A:Nat)(H':k=(A:Int))(H:za h b X s)(b1:s.next<=1000000000)
  (hk: ∀h' o p' c' (m:List IV) D,za h' b o { s with items:=s.items.filter (λx=>decide ((A:Int)<(x.fa:Int))),over:=s.over+m.length } ->bA X h o h'->fz h' p' m.length c' 4 (m.flatMap gO)->(∀y∈m,y.v.ok h' o.D)->(∀y,aN p' y->h.size<=y/\¬(o.M y\/o.D y))->
   (m.map IV.abs).map It.kv=D->jz D->D.Perm ((s.items.filter (λx=>decide ((x.fa:Int)<=(A:Int)))).map It.kv)->(∀y∈m,y.abs∈s.items)->R (.L p' m.length c') h'):
  Cl 49 #[.P b 0,.U k] h R:=by
 subst H';obtain⟨L,⟨l,g,f,a,S,H⟩,u⟩:=H;obtain⟨hL,b2⟩:=H.FP u;have I':=u.le;have a5:=u.yA;have U:=H.al.sorted;have C:=H.al.nodup;refine yY.walk (fT H ⟨_,rfl,aH.of λa4 hJ=> ?_⟩);simp only[ba];refine⟨_,ak H.cW,cf.Fj H.al ae _ λh3 p3 c3 A3 o3 g3 f3=>⟨_,_,_,rfl,?_⟩⟩;generalize hD:cf.due L (A:Int)=D at o3⊢;have P:L=D++cf.rest L (A:Int):=by rw[<-hD];exact(List.takeWhile_append_dropWhile).symm
 have M3:Mm h3 b X s (cf.rest L (A:Int)) l g f a S:=by
  refine⟨f3.get H.cW H.bs,H.own.frame f3 (λy j hs=>H.ls y j hs),A3,H.abs,λx n=>(H.Cj x n).frame f3 (λy hd hs=>H.vA y ((H.m y).2 (.inr (.inr hs))) hd),H.m,H.bl,H.bs,H.ls,H.vA,λy j=>cA (H.FO y j) f3.1⟩
 have s3:bA X h X h3:=bA.vw (f3.mono (λy _ hs=>(H.m y).2 (.inr (.inr hs))));have Dl:D.length<=16:=by
  have h1:=bQ List.length P;rw[au]at h1;have:=u.pm.length_eq;rw[ay]at this;omega
 have U':(keys D).Nodup:=by
  rw[P]at C;unfold keys at C⊢;rw[aV,ft]at C;exact C.1
 have dr: ∀e∈D,e.1∉keys (cf.rest L (A:Int)):=by
  intro e he z;rw[P]at C;unfold keys at C z;rw[aV,ft]at C;exact C.2.2 e.1 (bz he) e.1 z rfl
 have V':(cf.rest L (A:Int)).length<1000:=by
  have h1:=bQ List.length P;rw[au]at h1;omega
 refine⟨λQ ol oc o' G=> ∃(k:Nat)(o:Ft)(m:List IV),o'=(k:Int)/\k<=D.length/\ol=m.length/\m.length=k/\Bx G b o { s with items:=oT s.items (keys (D.take k)),over:=s.over+k } (cf.rest L (A:Int))/\bA X h o G/\Fr (λy=>h.size<=y\/X.M y) h3 G/\fz G Q ol oc 4 (m.flatMap gO)/\(∀y∈m,y.v.ok G o.D)/\
   (∀y,aN Q y->h.size<=y/\¬(o.M y\/o.D y)/\¬aN p3 y)/\(∀y,aN p3 y->¬(o.M y\/o.D y))/\Row G p3 (cf.kc D)/\(m.map IV.abs).map It.kv=D.take k/\(∀y∈m,y.abs∈s.items),λ_ _ _ o' _=>D.length - o'.toNat,
   ⟨0,X, [],rfl,ae,rfl,rfl,?_,s3,Fr.refl _ _,.nil rfl rfl rfl rfl,(λy j=>by cases j),(λy ⟨a,e,_⟩=>by cases e),(λy j n=>gG (g3 y j) (H.lt y n)),o3.iy,rfl,λy j=>by cases j⟩,?_⟩
 .have:({ s with items:=oT s.items (keys (D.take 0)),over:=s.over+0 } :BS)=s:=by
   show(⟨oT s.items [],_,_,_,_⟩:BS)=s;rw[Pg];rfl
  rw[this];exact⟨l,g,f,a,S,M3⟩
 clear M3 A3;rintro Q ol oc _ G ⟨k,o,m,rfl,a7,rfl,y',B,st,fg,A',hd,F,s',r3,g',v'⟩;by_cases J':k<D.length
 .have q:(k:Int)<((D.length:Nat):Int):=ae
  simp only[q,bu,ba];have M:D[k]? =some D[k]:=ai J';generalize D[k]=e at M;have u':=aK M;have aY:(cf.kc D)[k]? =some (.I e.1):=by
   unfold cf.kc keys;rw[aD,aD,M];rfl
  obtain⟨pa,rfl⟩:=r3.some (λE=>by rw[E]at aY;cases aY);have D':=r3.cell aY;refine⟨⟨by first|trivial|omega,by first|trivial|omega⟩,ax.2 ⟨e.1,by rw[aF,cp];exact D',?_⟩⟩;obtain⟨b4,b3,b5,J,S',d'⟩:=B;have m':({ s with items:=oT s.items (keys (D.take k)),over:=s.over+k } :BS).items=oT s.items (keys (D.take k)):=rfl;have rl:(oT s.items (keys (D.take k))).length<=16:=cE (cP _ _) I';refine iu d' (by rw[m'];omega) λh5 f5=>⟨_,rfl,?_⟩
  rw[m'];have M5:=d'.on f5;have G':e∈L:=by rw[P];exact eV _ u'
  obtain⟨x,n,w'⟩:=bp.1 (u.pm.mem_iff.1 G');have b':(x.num:Int)=e.1:=by rw[<-w'];rfl
  have K':e.1∉keys (D.take k):=by
   intro z;obtain⟨e',F',ek⟩:=bp.1 z;obtain⟨Q',hj⟩:=bO F';rw[df]at hj;split at hj
   .rename_i a6;have h1:(keys D)[Q']? =some e.1:=by unfold keys;rw[aD,hj,<-ek];rfl
    have h2:(keys D)[k]? =some e.1:=by unfold keys;rw[aD,M];rfl
    have:=(eE (by unfold keys;rw[ay];omega) U').1 (h1.trans h2.symm);omega
   .cases hj
  have O':x∈oT s.items (keys (D.take k)):=bj.2 ⟨n,aw (by rw[b'];exact K')⟩;cases f':yZ (oT s.items (keys (D.take k))) e.1 with
  |none=>exact absurd b' (Pf f' x O')
  |some i=>
   obtain⟨x',k',b0⟩:=By f';have M':x'∈s.items:=(bj.1 (aK k')).1;obtain rfl:x'=x:=uniq u.inc M' n ae;have ev:sa (oT s.items (keys (D.take k))) e.1=(i:Int):=by unfold sa;rw[f']
   rw[ev];obtain⟨v,hv,j'⟩:=Fm M5 k';refine AM M5 (by rw[m'];omega) V' hv λh6 t B6 s6 v6=>⟨_,_,_,_,_,_,rfl,?_⟩
   have vn:(v.num:Int)=e.1:=by rw[<-b',<-j'];rfl
   rw[vn,kI (dr e u')]at B6;have P':((oT s.items (keys (D.take k))).map It.num).Pairwise (· < ·):=u.inc.sublist (cS.map _);have L':keys (D.take (k+1))=keys (D.take k)++ [e.1]:=by unfold keys;rw[bt,M,aV];rfl
   have E':vY (oT s.items (keys (D.take k))) i=oT s.items (keys (D.take (k+1))):=by
    rw[pC P' k',b',Ph,L']
   have o5:=A'.frame f5 bX;have n': ∀y,aN Q y->¬(t.M y\/t.D y):=λy j=>λn=>s6.apart (Q:=aN Q) (λa' hz r=>(F a' r).2.1 hz) (λa' r=>o5.dC r) y n j
   have o6:=o5.frame s6.fr (λy j z=>(F y j).2.1 (.inl z));refine iS tI uI o6 rfl (λw hw=>by simp at hw;rcases hw with rfl|rfl|rfl|rfl<;>rfl) ae ae λp8 c8 h8 o8 K g8=>⟨_,_,_,rfl,?_⟩
   have B8:Bx h8 b t _ _:=B6.frame K (λy j r=>n' y r j);obtain⟨T',R',Z',a8,S8,V⟩:=B8;refine⟨_,ak V.cW,bD V.cW bV λh9 a1 a2 a3=> ?_⟩;have f9:Fr (λy=>y=b) h8 h9:=Fr.of_eq a2 a3;obtain⟨M9,s9⟩:=V.field (s':=⟨oT s.items (keys (D.take (k+1))),s.next,s.taken,s.qq,s.over+(k+1)⟩) (h':=h9) E'.symm (by
    rw[a1];dsimp only;rw[bC ae ae];rfl) f9
   have b6:t.M b:=(V.m b).2 (.inl rfl);have B': ∀y,aN p8 y->h.size<=y/\¬(t.M y\/t.D y)/\¬aN (some pa) y:=by
    intro y j;rcases g8 y j with h1|h1
    .exact⟨(F y h1).1,n' y h1,(F y h1).2.2⟩
    .have z6:=s6.fr.1;have z5:=f5.1;have zg:=st.fr.1;refine⟨ae,λn=>bR (B6.lt y n),λn=> ?_⟩;have:=iZ r3 (by intro E;rw[E]at aY;cases aY) n;omega
   have T:bA o G t h6:=(bA.hH f5).trans s6;have t': ∀y,aN (some pa) y->¬(t.M y\/t.D y):=λy j n=>T.apart (Q:=aN (some pa)) (λa' hz r=>s' a' r hz) (λa' r=>iZ r3 (by intro E;rw[E]at aY;cases aY) r) y n j
   have I:bA X h t h6:=st.trans T;have r': ∀y,y<h.size->¬X.M y->h9[y]? =h6[y]? :=by
    intro y j z;have zz:=I.fr.1;have b7:=K.1;rw[f9.2 y ae (λE=>(I.iz b b6).elim (λh1=>z (E▸h1)) (λh1=>ae)),K.2 y ae (λr=>bR ((F y r).1))]
   have X':bA X h t h9:=by
    refine⟨⟨gG I.fr.1 K.1,λy j hn=> ?_⟩,I.iz,I.jx,I.mQ⟩;rw[r' y j hn];exact I.fr.2 y j hn
   have a0: ∀y,aN p8 y->y≠b:=λy j E=>(B' y j).2.1 (.inl (E▸b6))
   have C':m.flatMap gO++([.I (v.num:Int),.I v.owner,.L v.v.p v.v.b.length v.v.c,.U (v.fa:Int)]:List Value)=(m++ [v]).flatMap gO:=by rw[cg];simp
   have ln:(m++ [v]).length=m.length+1:=by rw[au];rfl
   rw[bC ae ae];refine⟨⟨k+1,t,m++ [v],ae,ae,ln.symm,by rw[ln,y'],⟨T',R',Z',a8,S8,M9⟩,X',?_,?_,?_,B',t',?_,?_,?_⟩,?_⟩
   .refine⟨sU fg.1 T.fr.1 K.1,λy j hn=> ?_⟩;have l':y<h.size:=Nat.lt_of_not_le (λn=>hn (.inl n));have i': ¬X.M y:=λn=>hn (.inr n)
    rw[r' y l' i',I.fr.2 y l' i',s3.fr.2 y l' i']
   .rw[<-C'];exact o8.frame f9 a0
   .intro w hw;have z': ∀q':IV,q'.v.ok h6 t.D->q'.v.ok h9 t.D:=λq' hu=>(hu.frame K (λy j r=>n' y r (.inr j))).frame f9 (λy j E=>V.vA b b6 (E▸j))
    rcases bE.1 hw with hw|hw
    .exact z' w (((hd w hw).frame T.fr (λy j z=>d'.vA y z j)).mono (λy j=>T.mQ y j))
    .obtain rfl:=bP.1 hw;exact z' w v6
   .refine((r3.frame T.fr (λJ Z z=>s' _ ⟨J,Z,rfl⟩ (.inl z))).frame K (λJ Z r=>(F _ r).2.2 ⟨J,Z,rfl⟩)).frame f9 (λJ Z E=>t' _ ⟨J,Z,rfl⟩ (.inl (by have E:J.block=b:=E;rw[E];exact b6)))
   .rw[aV,aV,g',bt,M];simp[j',w']
   .intro w hw;rcases bE.1 hw with hw|hw
    .exact v' w hw
    .obtain rfl:=bP.1 hw;rw[j'];exact n
   .show D.length - Int.toNat ((k:Int)+1)<D.length - Int.toNat (k:Int);omega
 .have q: ¬(k:Int)<((D.length:Nat):Int):=ae
  simp only[q,bg,aq,aL];obtain rfl:k=D.length:=ae
  subst hJ;rw[dT]at B g';have e1:oT s.items (keys D)=s.items.filter (λx=>decide ((A:Int)<(x.fa:Int))):=by rw[<-hD];exact Pj u U C
  rw[e1]at B;have a9:D.length+(s.items.filter (λx=>decide ((A:Int)<(x.fa:Int)))).length=s.items.length:=by
   have h1:=bQ List.length P;rw[au,(DP (now:=(A:Int)) u U).length_eq,ay,u.pm.length_eq,ay]at h1;omega
  refine hk G o Q oc m D ⟨_,by rw[y'];exact B,?_⟩ st A' hd (λy j=>⟨(F y j).1,(F y j).2.1⟩) g' ?_ ?_ v'
  .exact u.sub cS (DP u U) ae
  .rw[<-hD,(gx U).1];exact gp _ U
  .rw[<-hD];exact Pk u U

end hZ
end
section
variable {h:aj} {R:fD}
variable {t d c:Nat} {r e:Bool} {j k n p E f o a b:Int} {l m g i:ByteArray} {D:ck}
theorem PB.walk(s:bh h (.map #[] 0) λb H=>bh H (.C #[.map (some b)] 114) λB q=>R (.P B 0) q):Cl 16 #[] h R:=aP (lq ll) Tryz.func16 s
theorem zc.walk(H: ∃T,Cc h t 0 (.map T)/\R (.B (!T.isNone)) h):Cl 97 #[.P t 0] h R:=aP (lq ll) Tryz.func97 H
theorem CL.walk{q:Int}(H:if(decide (q≥0))then R (.B (decide (q<=2))) h else R (.B false) h):Cl 190 #[.I q] h R:=aP (lq ll) Tryz.func190 H
theorem JE.walk(z:bh h (.C #[.B r,.U j,.U k,.S l,.S m,.I n,.I p] 146) λb u=>az.LD u (AA b 0) λB C F G I=>Cl 44 #[.agg #[.B B,.U C,.U F,.S G,.S I]] u λv H=> ∃y,v=.B y/\if y then az.LD H (AA b 0) λJ K L M O=> ∃(s:Bool),zJ Tryz.prog 25 (.agg #[.B J,.U K,.U L,.S M,.S O]) (.agg #[.B false,.U 0,.U 0,.S gg,.S gg]) s/\if(!s)then Hi H b 5 λA=>Cl 190 #[.I A] H λV q=> ∃T,V=.B T/\if T then∃w,Cc q b 6 (.I w)/\if(decide (w≥1))then∃x,Cc q b 6 (.I x)/\R (.B (decide (x<=1099511627776))) q else R (.B false) q else R (.B false) q else R (.B false) H else R (.B false) H):Cl 187 #[.agg #[.B r,.U j,.U k,.S l,.S m,.I n,.I p]] h R:=aP (lq ll) Tryz.func187 z
theorem BI.walk(X:bh h (.C #[.B r,.U j,.U k,.S l,.S m,.I n,.I p] 146) λb U=>Cl 97 #[.P t 0] U λs' q=> ∃Q,s'=.B Q/\if(!Q)then R (.I 6) q else∃T,Cc q t 0 (.map T)/\az.LD q (AA b 0) λv w x y z=> ∃A B C F G I J K,iJ Tryz.prog 112 (.map T) (.agg #[.B v,.U w,.U x,.S y,.S z]) true q (.T #[.agg #[.B A,.U B,.U C,.S F,.S G,.I I,.I J],.B K])/\bh q (.C #[.B false,.U 0,.U 0,.S gg,.S gg,.I 0,.I 0] 146) λS s=>kX (.map T) q s/\dP (AA b 0) [.B v,.U w,.U x,.S y,.S z] 0 s/\Cc s t 0 (.map T)/\bB.ST s (AA S 0) A B C F G I J λu=>bB.LD u (AA b 0) λZ a' b' c' d' e' f'=>Cl 187 #[.agg #[.B Z,.U a',.U b',.S c',.S d',.I e',.I f']] u λt' H=> ∃L,t'=.B L/\if(!L)then R (.I 1) H else if K then R (.I 11) H else∃M,Cc H t 0 (.map M)/\∃O:Int,QA Tryz.prog #[112] 3 (.map M) H (.I O)/\if(decide (O≥8))then R (.I 15) H else∃P,Cc H t 0 (.map P)/\az.LD H (AA b 0) λg' h' i' j' k'=>bB.LD H (AA b 0) λl' m' n' o' p' q' r'=>aW Tryz.prog (Instr.mapUpdate 112 (.map P) (.agg #[.B g',.U h',.U i',.S j',.S k']) (.agg #[.B l',.U m',.U n',.S o',.S p',.I q',.I r'])) H λ_ V=>R (.I 0) V):Cl 129 #[.P t 0,.agg #[.B r,.U j,.U k,.S l,.S m,.I n,.I p]] h R:=aP (lq (sq (lq (cq ll lf)) (sq (pN 13) (sq (bq (lq (cq ll (lq (cq ll (lq (cq ll lf))))))) (sq (pN 8) ll))))) Tryz.func129 X
theorem BJ.walk(Z:bh h (.C #[.B e,.U E,.U f,.S g,.S i] 25) λb V=>bh V (.C #[.B false,.U 0,.U 0,.S gg,.S gg,.I 0,.I 0] 146) λB X=>Cl 97 #[.P t 0] X λJ' H=> ∃z,J'=.B z/\if(!z)then bB.ST H (AA B 0) false 0 0 gg gg 0 0 λv=>bB.LD v (AA B 0) λa' e' i' m' q' u' y'=>R (.T #[.agg #[.B a',.U e',.U i',.S m',.S q',.I u',.I y'],.I 6]) v else∃T,Cc H t 0 (.map T)/\az.LD H (AA b 0) λA C F G I=> ∃J K L M O P Q S,iJ Tryz.prog 112 (.map T) (.agg #[.B A,.U C,.U F,.S G,.S I]) true H (.T #[.agg #[.B J,.U K,.U L,.S M,.S O,.I P,.I Q],.B S])/\bh H (.C #[.B false,.U 0,.U 0,.S gg,.S gg,.I 0,.I 0] 146) λu s=>kX (.map T) H s/\dP (AA b 0) [.B A,.U C,.U F,.S G,.S I] 0 s/\Cc s t 0 (.map T)/\bB.ST s (AA u 0) J K L M O P Q λq=>if(!S)then bB.ST q (AA B 0) false 0 0 gg gg 0 0 λw=>bB.LD w (AA B 0) λb' f' j' n' r' v' z'=>R (.T #[.agg #[.B b',.U f',.U j',.S n',.S r',.I v',.I z'],.I 4]) w else∃U,Cc q u 6 (.I U)/\if(U !=o)then bB.ST q (AA B 0) false 0 0 gg gg 0 0 λx=>bB.LD x (AA B 0) λc' g' k' o' s' w' A'=>R (.T #[.agg #[.B c',.U g',.U k',.S o',.S s',.I w',.I A'],.I 13]) x else bB.LD q (AA u 0) λC' D' E' F' G' H' I'=>bB.ST q (AA B 0) C' D' E' F' G' H' I' λy=>bB.LD y (AA B 0) λd' h' l' p' t' x' B'=>R (.T #[.agg #[.B d',.U h',.U l',.S p',.S t',.I x',.I B'],.I 0]) y):Cl 188 #[.P t 0,.agg #[.B e,.U E,.U f,.S g,.S i],.I o] h R:=aP (lq (sq (lq (cq ll lf)) (sq (pN 12) (sq (bq (lq (cq ll (lq (cq ll lf))))) ll)))) Tryz.func188 Z
theorem wm.walk(K:bh h (.C #[.B e,.U E,.U f,.S g,.S i] 25) λb q=>az.LD q (AA b 0) λL M O P Q=>Cl 188 #[.P t 0,.agg #[.B L,.U M,.U O,.S P,.S Q],.I o] q λa' C=> ∃s u v w x y z T,a'=.T #[.agg #[.B s,.U u,.U v,.S w,.S x,.I y,.I z],.I T]/\bh C (.C #[.B false,.U 0,.U 0,.S gg,.S gg,.I 0,.I 0] 146) λB F=>bB.ST F (AA B 0) s u v w x y z λH=>aH (λ(G:aj)=>R (.I T) G) (λJ=>if(T==0)then∃A,Cc H t 0 (.map A)/\az.LD H (AA b 0) λS U V X Z=>aW Tryz.prog (Builtin.delete_ #[112,25] 0 #[.map A,.agg #[.B S,.U U,.U V,.S X,.S Z]]) H λb' I=>b'=.T #[]/\J I else J H)):Cl 130 #[.P t 0,.agg #[.B e,.U E,.U f,.S g,.S i],.I o] h R:=aP (lq (lq (sq (lq (.join [] (cq (pN 6) lf))) ll))) Tryz.func130 K
theorem wo.walk{P:Int}(V:bh h (.C #[.B e,.U E,.U f,.S g,.S i] 25) λb L=>aH (λ(X:Bool) (q:aj)=>if X then R (.I 1) q else az.LD q (AA b 0) λZ a' b' c' d'=>Cl 188 #[.P t 0,.agg #[.B Z,.U a',.U b',.S c',.S d'],.I o] q λq' O=> ∃y z A C F G I T,q'=.T #[.agg #[.B y,.U z,.U A,.S C,.S F,.I G,.I I],.I T]/\bh O (.C #[.B false,.U 0,.U 0,.S gg,.S gg,.I 0,.I 0] 146) λB Q=>bB.ST Q (AA B 0) y z A C F G I λu=>aH (λ(S:aj)=>R (.I T) S) (λs=>if(T==0)then aT u (AA B 5) (.I P) λH=> ∃K,Cc H t 0 (.map K)/\az.LD H (AA b 0) λe' f' g' h' i'=>bB.LD H (AA B 0) λj' k' l' m' n' o' p'=>aW Tryz.prog (Instr.mapUpdate 112 (.map K) (.agg #[.B e',.U f',.U g',.S h',.S i']) (.agg #[.B j',.U k',.U l',.S m',.S n',.I o',.I p'])) H λ_ U=>s U else s u)) (λJ=>Cl 97 #[.P t 0] L λr' v=> ∃w,r'=.B w/\if w then Cl 190 #[.I P] v λs' M=> ∃x,s'=.B x/\J (!x) M else J false v)):Cl 132 #[.P t 0,.agg #[.B e,.U E,.U f,.S g,.S i],.I o,.I P] h R:=aP (lq (sq (sq (.join [(17,.one (.bool))] lf) (cq ll lf)) (lq (sq (lq (.join [] (cq (lq (pN 7)) lf))) ll)))) Tryz.func132 V
theorem ze.walk(U:bh h (.C #[.B e,.U E,.U f,.S g,.S i] 25) λb Q=>bh Q (.C #[.B false,.U 0,.U 0,.S gg,.S gg,.I 0,.I 0] 146) λB S=>Cl 97 #[.P t 0] S λs' H=> ∃P,s'=.B P/\if(!P)then bB.ST H (AA B 0) false 0 0 gg gg 0 0 λu=>bB.LD u (AA B 0) λV Z b' d' f' h' j'=>R (.T #[.agg #[.B V,.U Z,.U b',.S d',.S f',.I h',.I j'],.B false]) u else∃T,Cc H t 0 (.map T)/\az.LD H (AA b 0) λx y z A C=> ∃F G I J K L M O,iJ Tryz.prog 112 (.map T) (.agg #[.B x,.U y,.U z,.S A,.S C]) true H (.T #[.agg #[.B F,.U G,.U I,.S J,.S K,.I L,.I M],.B O])/\bh H (.C #[.B false,.U 0,.U 0,.S gg,.S gg,.I 0,.I 0] 146) λs q=>kX (.map T) H q/\dP (AA b 0) [.B x,.U y,.U z,.S A,.S C] 0 q/\Cc q t 0 (.map T)/\bB.ST q (AA s 0) F G I J K L M λv=>bB.LD v (AA s 0) λl' m' n' o' p' q' r'=>bB.ST v (AA B 0) l' m' n' o' p' q' r' λw=>bB.LD w (AA B 0) λX a' c' e' g' i' k'=>R (.T #[.agg #[.B X,.U a',.U c',.S e',.S g',.I i',.I k'],.B O]) w):Cl 148 #[.P t 0,.agg #[.B e,.U E,.U f,.S g,.S i]] h R:=aP (lq (sq (lq (cq ll lf)) (sq (pN 12) ll))) Tryz.func148 U
theorem BK.walk(hv:Cl 97 #[.P t 0] h λr' H=>Vb r' λt7=>aH (λ(F:ck) (C B:Nat) (c':aj)=>Cl 98 #[.L F C B,.func (.func 99) #[] #[]] c' λs' d'=>s'=.T #[]/\R (.L F C B) d') (λJ=>if t7 then∃G,Cc H t 0 (.map G)/\aW Tryz.prog (Instr.range 112 (.map G)) H λt' e'=> ∃(v:Nat),t'=.P v 0/\∃(I:ck->Nat->Nat->aj->Prop)(M:ck->Nat->Nat->aj->Nat),I none 0 0 e'/\∀(s:ck)(q O:Nat)(u:aj),I s q O u->aW Tryz.prog (Instr.next (.P v 0) false 0) u λZ z=>(Z=.T #[.B false]/\J s q O z)\/(∃(h' i':Value),Z=.T #[.B true,h',i']/\aW Tryz.prog (Instr.entry (.P v 0)) z λu' f'=> ∃(j' K:Value),u'=.T #[j',K]/\∃L P Q S U V X,K=.agg #[.B L,.U P,.U Q,.S S,.S U,.I V,.I X]/\bh f' (.C #[.B false,.U 0,.U 0,.S gg,.S gg,.I 0,.I 0] 146) λb g'=>bB.ST g' (AA b 0) L P Q S U V X λA=>bB.LD A (AA b 0) λk' l' m' n' o' p' q'=>bh A (.C #[.B k',.U l',.U m',.S n',.S o',.I p',.I q'] 146) λa' b'=>aW Tryz.prog (Builtin.append_ #[143,143] 143 #[.L s q O,.L (Sa a' 0) 1 1]) b' λv' y=> ∃x w T,v'=.L x w T/\(I x w T y/\M x w T y<M s q O u))else J none 0 0 H)):Cl 61 #[.P t 0] h R:=aP (lq (lq (sq (lq (.join [(3,.one (.slice))] (cq (lq (bq (.loop [(3,.one (.slice))] (lq (sq (cq lf lf) (bq (sq (.typed [(16,.agg [.bool,.int .u64,.int .u64,.str,.str,.int .i64,.int .i64])]) lf))))))) lf))) (lq ll)))) Tryz.func61 hv
theorem xH.walk{A:Bool}{q:Int}{s:Int}{u:ByteArray}{v:ByteArray}{w:Int}{x:Int}{y:Bool}{B:Int}{z:Int}{C:ByteArray}{F:ByteArray}{G:Int}{I:Int}(L:bh h (.C #[.B A,.U q,.U s,.S u,.S v,.I w,.I x] 146) λb K=>bh K (.C #[.B y,.U B,.U z,.S C,.S F,.I G,.I I] 146) λB H=>az.LD H (AA b 0) λM O P Q S=>az.LD H (AA B 0) λU V X Z a'=>Cl 100 #[.agg #[.B M,.U O,.U P,.S Q,.S S],.agg #[.B U,.U V,.U X,.S Z,.S a']] H λb' J=> ∃T,b'=.B T/\if T then R (.I (-1)) J else R (.I 1) J):Cl 99 #[.agg #[.B A,.U q,.U s,.S u,.S v,.I w,.I x],.agg #[.B y,.U B,.U z,.S C,.S F,.I G,.I I]] h R:=aP (lq (sq (lq (cq ll lf)) ll)) Tryz.func99 L
theorem kG.Ug.walk{q:ck}{x X:Nat}(u:Cl 158 #[.U (wrap .u64 (x:Int))] h λv H=>Vi v λT=>Cl 157 #[.L q x X,.I 0,.I (x:Int),.I T,.func (.func 99) #[] #[]] H λV s=>V=.T #[]/\R (.T #[]) s):Cl 98 #[.L q x X,.func (.func 99) #[] #[]] h R:=aP ll Tryz.func98 u
theorem mb.Ug.walk{b':Int} (hv: ∃(I:Int->Int->Int->Bool->Bool->aj->Prop)(mu:Int->Int->Int->Bool->Bool->aj->Nat),I a b b' true true h/\∀(A:Int)(B:Int)(L:Int)(w:Bool)(u:Bool)(H:aj),I A B L w u H->aH (λ(O:Int) (Q:Int) (c':Int) (h':Bool) (i':Bool) (X:aj)=>(I O Q c' h' i' X/\mu O Q c' h' i' X<mu A B L w u H)) (λJ=>if(decide ((wrap .i64 (B - A))<=12))then Cl 225 #[.L D d c,.I A,.I B,.func (.func 99) #[] #[]] H λP' u'=>P'=.T #[]/\R (.T #[]) u' else if(L==0)then Cl 226 #[.L D d c,.I A,.I B,.func (.func 99) #[] #[]] H λQ' v'=>Q'=.T #[]/\R (.T #[]) v' else aH (λ(s:Int) (w':aj)=>Cl 228 #[.L D d c,.I A,.I B,.func (.func 99) #[] #[]] w' λS' Z=> ∃y z,S'=.T #[.I y,.I z]/\aH (λ(P:Int) (x':Int) (x:aj)=>aH (λ(y':Bool) (a':aj)=>aH (λ(q:aj)=>aH (λ(O':Bool) (S:aj)=>if O' then Cl 231 #[.L D d c,.I A,.I B,.I P,.func (.func 99) #[] #[]] S λT' n'=> ∃d',T'=.I d'/\J d' B s w u n' else Cl 232 #[.L D d c,.I A,.I B,.I P,.func (.func 99) #[] #[]] S λU' U=> ∃T e',U'=.T #[.I T,.B e']/\aH (λ(j':Int) (m':Int) (a2:Bool) (o':aj)=>J j' m' s a2 e' o') (λM=>if(decide ((wrap .i64 (T - A))<(wrap .i64 (B - T))))then Cl 157 #[.L D d c,.I A,.I T,.I s,.func (.func 99) #[] #[]] U λV' p'=>V'=.T #[]/\M (wrap .i64 (T+1)) B (decide ((wrap .i64 (T - A))≥(wrap .i64 (Int.tdiv (wrap .i64 (B - A)) 8)))) p' else Cl 157 #[.L D d c,.I (wrap .i64 (T+1)),.I B,.I s,.func (.func 99) #[] #[]] U λX' q'=>X'=.T #[]/\M A T (decide ((wrap .i64 (B - T))≥(wrap .i64 (Int.tdiv (wrap .i64 (B - A)) 8)))) q')) (λK=>if(decide (A>0))then Bd (wrap .i64 (A - 1)) d/\aM D λk'=>bB.LD q (k'.add (toNat (wrap .i64 (A - 1))*7)) λz' A' B' C' D' E' F'=>Bd P d/\aM D λl'=>bB.LD q (l'.add (toNat P*7)) λG' H' I' J' K' L' M'=>Cl 99 #[.agg #[.B z',.U A',.U B',.S C',.S D',.I E',.I F'],.agg #[.B G',.U H',.U I',.S J',.S K',.I L',.I M']] q λZ' r'=> ∃g',Z'=.I g'/\K (!(decide (g'<0))) r' else K false q)) (λG=>if y' then Cl 230 #[.L D d c,.I A,.I B,.func (.func 99) #[] #[]] a' λa0 V=> ∃f',a0=.B f'/\if f' then R (.T #[]) V else G V else G a')) (λv=>if w then if u then v (x'==1) x else v false x else v false x)) (λF=>if(z==2)then Cl 229 #[.L D d c,.I A,.I B,.func (.func 99) #[] #[]] Z λa1 s'=>a1=.T #[]/\F (wrap .i64 ((wrap .i64 (B - 1)) - (wrap .i64 (y - A)))) 1 s' else F y z Z)) (λC=>if(!w)then Cl 227 #[.L D d c,.I A,.I B,.func (.func 99) #[] #[]] H λR' t'=>R'=.T #[]/\C (wrap .i64 (L - 1)) t' else C L H))):Cl 157 #[.L D d c,.I a,.I b,.I b',.func (.func 99) #[] #[]] h R:=aP (lq (lq (bq (.loop [(1,.one (.int .i64)),(2,.one (.int .i64)),(3,.one (.int .i64)),(10,.one (.bool)),(11,.one (.bool))] (.join [(1,.one (.int .i64)),(2,.one (.int .i64)),(3,.one (.int .i64)),(10,.one (.bool)),(11,.one (.bool))] (bq (lq (sq (lq (cq ll lf)) (sq (lq (cq ll lf)) (sq (lq (.join [(3,.one (.int .i64))] (cq ll lf))) (lq (sq (lq (.join [(13,.one (.int .i64)),(14,.one (.int .i64))] (cq (lq ll) lf))) (sq (sq (.join [(75,.one (.bool))] lf) (.join [] (cq (lq (cq lf lf)) lf))) (sq (sq (.join [(97,.one (.bool))] (pN 17)) (cq (lq ll) lf)) (lq (lq (lq (lq (lq (.join [(1,.one (.int .i64)),(2,.one (.int .i64)),(10,.one (.bool))] (cq (lq ll) (lq ll)))))))))))))))))))))) Tryz.func157 hv
theorem kx.Ug.walk (O: ∃(I:Int->aj->Prop)(M:Int->aj->Nat),I (wrap .i64 (a+1)) h/\∀(s:Int)(v:aj),I s v->if(decide (s<b))then∃(w:Int->aj->Prop)(y:Int->aj->Nat),w s v/\∀(q:Int)(H:aj),w q H->aH (λ(h':Bool) (u:aj)=>if h' then Bd (wrap .i64 (q - 1)) d/\aM D λA=>bB.LD u (A.add (toNat (wrap .i64 (q - 1))*7)) λi' j' k' l' m' n' o'=>Bd q d/\aM D λz=>bB.LD u (z.add (toNat q*7)) λp' q' r' s' t' u' v'=>Bd q d/\aM D λB=>bB.ST u (B.add (toNat q*7)) i' j' k' l' m' n' o' λK=>Bd (wrap .i64 (q - 1)) d/\aM D λC=>bB.ST K (C.add (toNat (wrap .i64 (q - 1))*7)) p' q' r' s' t' u' v' λx=>(w (wrap .i64 (q - 1)) x/\y (wrap .i64 (q - 1)) x<y q H)else(I (wrap .i64 (s+1)) u/\M (wrap .i64 (s+1)) u<M s v)) (λJ=>if(decide (q>a))then Bd q d/\aM D λF=>bB.LD H (F.add (toNat q*7)) λP Q S U V X Z=>Bd (wrap .i64 (q - 1)) d/\aM D λG=>bB.LD H (G.add (toNat (wrap .i64 (q - 1))*7)) λa' b' c' d' e' f' g'=>Cl 99 #[.agg #[.B P,.U Q,.U S,.S U,.S V,.I X,.I Z],.agg #[.B a',.U b',.U c',.S d',.S e',.I f',.I g']] H λw' L=> ∃T,w'=.I T/\J (decide (T<0)) L else J false H)else R (.T #[]) v):Cl 225 #[.L D d c,.I a,.I b,.func (.func 99) #[] #[]] h R:=aP (lq (bq (.loop [(8,.one (.int .i64))] (sq (lq (cq lf lf)) (sq (bq (lq (bq (.loop [(9,.one (.int .i64))] (sq (sq (.join [(34,.one (.bool))] (pN 17)) (cq lf lf)) (sq (bq (pN 18)) lf)))))) lf))))) Tryz.func225 O

end
section
namespace gD
open jA
variable {h H:aj} {R:fD} {b:Nat} {X:Ft}
structure Rg where
 e:Ev
 kH:Int
 own:Int
abbrev Rg.zero:Rg:=⟨.zero,0,0⟩
abbrev Rg.val(r:Rg):Value:=.agg #[.bool r.e.km,.int .u64 r.e.node,.int .u64 r.e.gy,.string r.e.host,.string r.e.jN,.int .i64 r.kH,.int .i64 r.own]
abbrev Rg.at(h:aj)(b:Nat)(r:Rg):Prop:=bB.at h b r.e.km r.e.node r.e.gy r.e.host r.e.jN r.kH r.own
abbrev wu(r:Rg):List Value:= [.bool r.e.km,.int .u64 r.e.node,.int .u64 r.e.gy,.string r.e.host,.string r.e.jN,.int .i64 r.kH,.int .i64 r.own]
theorem nQ(r:Rg):(wu r).length=7:=rfl
abbrev Rg.pair(r:Rg):Ev×Value:=(r.e,r.val)
abbrev kQ(x y:Rg):Prop:=lC x.e y.e=true
theorem oF:ph Tryz.prog 112 lL Rg.zero.val:=ph.of 25 146 dz key dz
structure NA (h:aj) (b:Nat) (X:Ft) (L:List Rg) (m:Nat):Prop where
 cW:h[b]? =some (.cells #[.map (some m)] 114 (0,0))
 map:jV h m lL (L.map Rg.pair)
 fm: ∀c,X.M c↔c=b\/c=m
 d: ∀c,¬X.D c
 ne:b≠m
 so:L.Pairwise kQ
def Tb(h:aj)(b:Nat)(X:Ft)(L:List Rg):Prop:= ∃m,NA h b X L m
variable {L : List Rg} {m : Nat}
theorem NA.frame{Q:Nat->Prop}(a:NA h b X L m)(f:Fr Q h H)(c: ∀y,X.M y\/X.D y->¬Q y):NA H b X L m:=
 ⟨f.get a.cW (c b (.inl ((a.fm b).2 (.inl rfl)))),a.map.frame f (c m (.inl ((a.fm m).2 (.inr rfl)))),a.fm,a.d,a.ne,a.so⟩
theorem NA.on(a:NA h b X L m)(f:Fr No h H):NA H b X L m:=a.frame f bX
theorem Tb.frame{Q:Nat->Prop}(a:Tb h b X L)(f:Fr Q h H)(c: ∀y,X.M y\/X.D y->¬Q y):Tb H b X L:=by
 obtain⟨m,a⟩:=a;exact⟨m,a.frame f c⟩
theorem Tb.on(a:Tb h b X L)(f:Fr No h H):Tb H b X L:=a.frame f bX
theorem Tb.lt(a:Tb h b X L)(y:Nat)(hy:X.M y\/X.D y):y<h.size:=by
 obtain⟨m,a⟩:=a;rcases hy with hy|hy
 .rcases(a.fm y).1 hy with rfl|rfl
  .exact aC a.cW
  .exact a.map.lt
 .exact absurd hy (a.d y)
def je(L:List Rg)(x:Ev):Option Rg:=L.find? (λr=>decide (r.e=x))
theorem JF{x:Ev}{r:Rg}(h:je L x=some r):r∈L/\r.e=x:=⟨List.mem_of_find?_eq_some h,cI (List.find?_some h)⟩
theorem JG{x:Ev}:je L x=none↔ ∀r∈L,r.e≠x:=by unfold je;simp
theorem MD(L:List Rg)(x:Ev):sW (L.map Rg.pair) x=(je L x).map Rg.val:=by
 unfold sW je;rw[List.find?_map];cases h:L.find? ((λe:Ev×Value=>decide (e.1=x)) ∘ Rg.pair)with
 |none=>have:L.find? (λr=>decide (r.e=x))=none:=h;rw[this];rfl
 |some r=>have:L.find? (λr=>decide (r.e=x))=some r:=h;rw[this];rfl
def CM(r:Rg):List Rg->List Rg
 | []=> [r]
 |x::l=>if lC x.e r.e=true then x::CM r l else r::x::l
theorem sQ(r:Rg): ∀L:List Rg,(CM r L).Perm (r::L)
 | []=> .refl _
 |x::l=>by
  unfold CM;split
  .exact((sQ r l).cons x).trans (List.Perm.swap r x l)
  .exact .refl _
theorem HK{r x:Rg}:x∈CM r L↔x=r\/x∈L:=by rw[(sQ r L).mem_iff,bK]
theorem PC(r:Rg)(L:List Rg):(CM r L).length=L.length+1:=by rw[(sQ r L).length_eq];rfl
theorem KW{r:Rg}: ∀{L:List Rg},L.Pairwise kQ->(∀x∈L,x.e≠r.e)->(CM r L).Pairwise kQ
 | [],_,_=>List.pairwise_singleton _ _
 |x::l,h,d=>by
  obtain⟨c,f⟩:=dY.1 h;unfold CM;split
  .rename_i a;refine dY.2 ⟨λy hy=> ?_,KW f (λy hy=>d y (cv _ hy))⟩;rcases HK.1 hy with rfl|hy
   .exact a
   .exact c y hy
  .rename_i a;have e:lC r.e x.e=true:=(AL (d x bV)).resolve_left a;refine dY.2 ⟨λy hy=> ?_,h⟩;rcases bK.1 hy with rfl|hy
   .exact e
   .exact uB e (c y hy)
def ME(L:List Rg)(x:Ev):List Rg:=L.filter (λr=> !decide (r.e=x))
def JH(L:List Rg)(x:Ev)(p:Int):List Rg:=L.map (λr=>if r.e=x then { r with kH:=p } else r)
def ja(r:Rg):Bool:=dc r.e && (!decide (r.e=Ev.zero) && (decide (r.kH≥0) && decide (r.kH<=2) && (decide (r.own≥1) && decide (r.own<=1099511627776))))
def jJ(L:List Rg)(r:Rg):Int:=if ja r=false then 1 else if(je L r.e).isSome=true then 11 else if L.length≥8 then 15 else 0
def CN(L:List Rg)(r:Rg):List Rg:=if jJ L r=0 then CM r L else L
def jZ(L:List Rg)(x:Ev)(o:Int):Int:=match je L x with|none=>4|some r=>if r.own=o then 0 else 13
def BM(L:List Rg)(x:Ev)(o:Int):List Rg:=if jZ L x o=0 then ME L x else L
def MF(L:List Rg)(x:Ev)(o p:Int):Int:=if 0<=p/\p<=2 then jZ L x o else 1
def HL(L:List Rg)(x:Ev)(o p:Int):List Rg:=if MF L x o p=0 then JH L x p else L
theorem BN(L:List Rg)(r:Rg):(ja r=false/\jJ L r=1)\/(ja r=true/\(je L r.e).isSome=true/\jJ L r=11)\/(ja r=true/\je L r.e=none/\L.length≥8/\jJ L r=15)\/(ja r=true/\je L r.e=none/\L.length<8/\jJ L r=0):=by
 unfold jJ;cases c:ja r with
 |false=>exact .inl ⟨rfl,bV⟩
 |true=>
  cases d:je L r.e with
  |some x=>exact .inr (.inl ⟨rfl,rfl,bV⟩)
  |none=>
   by_cases a:L.length≥8
   .exact .inr (.inr (.inl ⟨rfl,rfl,a,by simp[a]⟩))
   .exact .inr (.inr (.inr ⟨rfl,rfl,ae,by simp[a]⟩))
theorem fT(a:NA h b X L m)(c:R (.B true) h):Cl 97 #[.P b 0] h R:=zc.walk ⟨_,ak a.cW,c⟩
theorem gL(d: ∀H b X,Tb H b X []->KA h X H->R (.P b 0) H):Cl 16 #[] h R:=by
 refine PB.walk (cK (cK ?_));have f:Fr No h (h.push (.map #[] 0)):=Fr.push _ _;have M:=jV.push (α:=Ev) h lL;have z:(h.push (.map #[] 0)).size=h.size+1:=dk _;generalize h.push (.map #[] 0)=a at f M z⊢;have F:Fr No a (a.push (.C #[.map (some h.size)] 114)):=Fr.push _ _;refine d _ a.size ⟨λc=>c=a.size\/c=h.size,λ_=>False⟩ ⟨h.size,bZ,M.frame F id,λc=>fi,λ_=>id,ae,.nil⟩ ⟨f.tt F,λc hc=> ?_⟩;rcases hc with hc|hc
 .rcases hc with rfl|rfl<;>omega
 .exact hc.elim
theorem yD{n:Int}(a:R (.B (decide (n≥0) && decide (n<=2))) h):Cl 190 #[.I n] h R:=by
 refine CL.walk ?_;by_cases q:n≥0
 .simp only[q,bu,ba,eI]at a⊢;exact a
 .simp only[q,bg,aq,aL,fI]at a⊢;exact a
theorem fK(r:Rg)(f: iq h R (.B (ja r))):Cl 187 #[r.val] h R:=by
 refine JE.walk (bB.box λb n E i j=> ?_);have l: ∀{g:aj}{K:Bool->Int->Int->ByteArray->ByteArray->Prop},r.at g b->K r.e.km r.e.node r.e.gy r.e.host r.e.jN->az.LD g (AA b 0) K:=λa f=>⟨_,ak a,_,ak a,_,ak a,_,ak a,_,ak a,f⟩
 refine l i (jA.fK r.e λk F=>⟨_,rfl,?_⟩);have c:=F.get i id;have K:=f k (j.tt F);unfold ja at K;by_cases q:dc r.e=true
 .rw[ag q];rw[q,eI]at K;refine l c ⟨_,vD (y:=.zero) (x:=r.e) rfl rfl,?_⟩;by_cases d:r.e=.zero
  .rw[aw d,dB];rw[aw d]at K;exact K
  .rw[aB d,gk];rw[aB d,dS,eI]at K;refine⟨_,ak c,yD ⟨_,rfl,?_⟩⟩;by_cases Q:(decide (r.kH≥0) && decide (r.kH<=2))=true
   .rw[ag Q];rw[Q,eI]at K;refine⟨_,ak c,?_⟩;by_cases e:r.own≥1
    .rw[ag (aw e)];rw[aw e,eI]at K;exact⟨_,ak c,K⟩
    .rw[af (cI e)];rw[aB e,fI]at K;exact K
   .rw[af Q];have Q:(decide (r.kH≥0) && decide (r.kH<=2))=false:=by simpa using Q
    rw[Q,fI]at K;exact K
 .rw[af q];have q:dc r.e=false:=by simpa using q
  rw[q,fI]at K;exact K
theorem JI{g:aj}{b:Nat}{r:Rg}{K:Bool->Int->Int->ByteArray->ByteArray->Prop}(a:r.at g b)(c:K r.e.km r.e.node r.e.gy r.e.host r.e.jN):az.LD g (AA b 0) K:=
 ⟨_,ak a,_,ak a,_,ak a,_,ak a,_,ak a,c⟩
theorem look(c:NA h b X L m)(x:Ev):iJ Tryz.prog 112 (.map (some m)) (lL x) true h (.T #[((je L x).getD .zero).val,.B (je L x).isSome]):=by
 have:=Lu oF c.map x;rw[MD]at this;cases a:je L x with
 |none=>rw[a]at this;exact this
 |some r=>rw[a]at this;exact this
theorem Fr.put{a d g:aj}{c:Nat}(f:Fr No a d)(l:g.size=d.size)(j: ∀x,x≠c->g[x]? =d[x]?)(k:a.size<=c):Fr No a g:=
 f.fresh (S:=λy=>y=c) ⟨ae,λy _ i=>j y i⟩ (λy e=>ae)
theorem iu(d:Tb h b X L)(x:Ev)(r: iq h R (.T #[((je L x).getD .zero).val,.B (je L x).isSome])):
  Cl 148 #[.P b 0,lL x] h R:=by
 obtain⟨m,d⟩:=d;refine ze.walk (az.box λu y E c e=>bB.box λB z v i g=> ?_);have F:=e.tt g;have c:=g.get c id;have a:=d.on F;refine fT a ⟨_,rfl,?_⟩;rw[dB];refine⟨_,ak a.cW,az.ld c ⟨_,_,_,_,_,_,_,_,look a x,bB.box λk C w q f=> ?_⟩⟩;refine⟨f.2 m a.map.lt id,az.held (f.get c id),ak (f.get a.cW id),bB.set q λl A S o=>bB.ld A ?_⟩;have p:(Rg.zero).at l B:=by
  have:=f.get i id;have s:B≠k:=by have:=aC i;omega
  unfold Rg.at bB.at;rw[o B s];exact this
 have Z:=F.1;have D:=f.1;refine bB.set p λn j t O=>bB.ld j (r n ?_)
 exact Fr.put (Fr.put (F.tt f) S o ae) t O (bR e.1)
theorem xD(j:Tb h b X L)(x:Ev)(o:Int)(I: iq h R (.T #[(if jZ L x o=0 then(je L x).getD .zero else .zero).val,.I (jZ L x o)])):
  Cl 188 #[.P b 0,lL x,.I o] h R:=by
 obtain⟨m,j⟩:=j;refine BJ.walk (az.box λK P q g u=>bB.box λB Q t w F=> ?_);have v:=u.tt F;have g:=F.get g id;have c:=j.on v;refine fT c ⟨_,rfl,?_⟩;rw[dB];refine⟨_,ak c.cW,az.ld g ⟨_,_,_,_,_,_,_,_,look c x,bB.box λD T M G f=> ?_⟩⟩;refine⟨f.2 m c.map.lt id,az.held (f.get g id),ak (f.get c.cW id),bB.set G λn k S z=> ?_⟩;have p:(Rg.zero).at n B:=by
  have:=f.get w id;have J:B≠D:=by have:=aC w;omega
  unfold Rg.at bB.at;rw[z B J];exact this
 have Z:=u.1;have U:=F.1;have C:=Fr.put (v.tt f) S z ae;have l: ∀(r:Rg)(e:Int),(if jZ L x o=0 then(je L x).getD .zero else .zero)=r->jZ L x o=e->∀a,r.at a B->a.size=n.size->(∀y,y≠B->a[y]? =n[y]?)->R (.T #[r.val,.I e]) a:=by
  intro r e q t a _ s O;rw[<-q,<-t];exact I a (Fr.put C s O ae)
 cases d:je L x with
 |none=>
  have E:jZ L x o=4:=by unfold jZ;rw[d]
  rw[ag (by rfl)];exact bB.set p λa A s O=>bB.ld A (l .zero 4 (by rw[E,dB]) E a A s O)
 |some r=>
  rw[d]at k;rw[af bV];refine⟨_,ak k,?_⟩;by_cases i:r.own=o
  .have E:jZ L x o=0:=by unfold jZ;rw[d];exact ag i
   rw[af (cI i)];exact bB.ld k (bB.set p λa A s O=>bB.ld A (l r 0 (by rw[E,ag rfl,d];rfl) E a A s O))
  .have E:jZ L x o=13:=by unfold jZ;rw[d];exact af i
   rw[ag (cI i)];exact bB.set p λa A s O=>bB.ld A (l .zero 13 (by rw[E,dB]) E a A s O)
theorem NA.put{l:List Rg}{d:aj}(a:NA h b X L m)(M:jV d m lL (l.map Rg.pair))(j:d.size=h.size)(g: ∀c,c≠m->d[c]? =h[c]?)(so:l.Pairwise kQ):NA d b X l m/\bA X h X d:=by
 have f:Fr X.M h d:=⟨ae,λc _ i=>g c (λe=>i ((a.fm c).2 (.inr e)))⟩;refine⟨⟨?_,M,a.fm,a.d,a.ne,so⟩,bA.vw f⟩;rw[g b a.ne];exact a.cW
theorem JJ{L:List Rg}(s:L.Pairwise kQ):(L.map Rg.e).Nodup:=by
 unfold List.Nodup;rw[fu];refine s.imp fun {x y} a e=> ?_
 rw[kQ,e,oz]at a;cases a
theorem HM(L:List Rg)(x:Ev):wW (L.map Rg.pair) x=(ME L x).map Rg.pair:=by
 unfold wW ME;rw[dQ];rfl
theorem Rj{x:Ev}(s:L.Pairwise kQ):(ME L x).Pairwise kQ:=s.sublist cS
theorem Rk{x:Ev}{p:Int}(s:L.Pairwise kQ):(JH L x p).Pairwise kQ:=by
 unfold JH;rw[fu];refine s.imp fun {u v} a=> ?_
 have e: ∀r:Rg,(if r.e=x then { r with kH:=p } else r:Rg).e=r.e:=λr=>by split<;>rfl
 show lC _ _=true;rw[e,e];exact a
theorem HN{x:Ev}{p:Int}{r:Rg}: ∀{L:List Rg},L.Pairwise kQ->r∈L->r.e=x->(JH L x p).Perm ({ r with kH:=p } ::ME L x)
 | [],_,h,_=>by cases h
 |y::l,s,h,e=>by
  obtain⟨c,i⟩:=dY.1 s;unfold JH ME;rw[cu,cC];rcases bK.1 h with rfl|h
  .rw[ag e,af (by simp[e])];refine List.Perm.cons _ ?_;have d: ∀z∈l,z.e≠x:=λz a E=>by
    have:=c z a;rw[kQ,e,E,oz]at this;cases this
   have g:l.map (λr=>if r.e=x then({ r with kH:=p } :Rg)else r)=l:=by
    conv=>rhs;rw[<-List.map_id l]
    exact eH (λz a=>af (d z a))
   have E:l.filter (λr=> !decide (r.e=x))=l:=by
    rw[cD];intro z a;simp[d z a]
   rw[g,E]
  .have f:y.e≠x:=λE=>by
    have:=c r h;rw[kQ,e,E,oz]at this;cases this
   rw[af f,ag (by simp[f])];exact((HN i h e).cons y).trans (List.Perm.swap _ _ _)
theorem BH(g:Tb h b X L)(r:Rg)(hl:L.length<=8)(o: ∀H,Tb H b X (CN L r)->bA X h X H->R (.I (jJ L r)) H):
  Cl 129 #[.P b 0,r.val] h R:=by
 obtain⟨m,g⟩:=g;refine BI.walk (bB.box λB h1 e1 n l=> ?_);have f:=g.on l;refine fT f ⟨_,rfl,?_⟩;rw[dB];refine⟨_,ak f.cW,JI (r:=r) n ⟨_,_,_,_,_,_,_,_,look f r.e,bB.box λC h3 e3 G F=> ?_⟩⟩;have u:=F.get n id;refine⟨F.2 m f.map.lt id,hT u (λj a' a=> ?_),ak (F.get f.cW id),bB.set G λD Z T O=> ?_⟩
 .rw[bM]
  match j,a with
  |0,a=>simpa using a
  |1,a=>simpa using a
  |2,a=>simpa using a
  |3,a=>simpa using a
  |4,a=>simpa using a
 have z1:=l.1;have z:=Fr.put (l.tt F) T O ae;have v:r.at D B:=by
  have J:B≠C:=by have:=aC n;omega
  unfold Rg.at bB.at;rw[O B J];exact u
 refine bB.ld v (fK r λs p=>⟨_,rfl,?_⟩);have i:=z.tt p;have c:=g.on i;have w:=p.get v id;have k:CN L r=L->R (.I (jJ L r)) s:=λe=>o s (by rw[e];exact⟨m,c⟩) (bA.hH i)
 rcases BN L r with⟨Q,q⟩|⟨Q,d,q⟩|⟨Q,d,S,q⟩|⟨Q,d,S,q⟩
 .rw[Q,gk];rw[q]at k;exact k (by unfold CN;rw[q];rfl)
 .rw[Q,dB,ag d];rw[q]at k;exact k (by unfold CN;rw[q];rfl)
 .rw[Q,dB,af (by rw[d];simp)];refine⟨_,ak c.cW,_,IP oF c.map,?_⟩;rw[ay,gk];rw[q]at k;exact k (by unfold CN;rw[q];rfl)
 .rw[Q,dB,af (by rw[d];simp)];refine⟨_,ak c.cW,_,IP oF c.map,?_⟩;rw[ay,af (by simp;omega)];refine⟨_,ak c.cW,JI (r:=r) w (bB.ld w (Av oF c.map (k:=r.e) λt M U P=> ?_))⟩;have E:CN L r=CM r L:=ag q;have x:=JG.1 d;have M:jV t m lL ((CM r L).map Rg.pair):=by
   refine M.perm ?_;unfold Gp;rw[sJ (λe I=>by obtain⟨y,K,rfl⟩:=bp.1 I;exact x y K)];exact((sQ r L).map Rg.pair).symm
  obtain⟨A,V⟩:=c.put M U P (KW c.so x);rw[E,q]at o;exact o t ⟨m,A⟩ (bA.no i V)
theorem pE(c:Tb h b X L)(x:Ev)(o:Int)(j: ∀H,Tb H b X (BM L x o)->bA X h X H->R (.I (jZ L x o)) H):
  Cl 130 #[.P b 0,lL x,.I o] h R:=by
 refine wm.walk (az.box λB u E i f=>az.ld i (xD (c.on f) x o λv d=>⟨_,_,_,_,_,_,_,_,rfl,bB.new λr l t w e=>aH.of λJ g=> ?_⟩));have F:=f.tt (d.tt e);have p:=(d.tt e).get i id;obtain⟨m,c⟩:=c;have a:=c.on F;by_cases q:jZ L x o=0
 .rw[ag (cI q)];refine⟨_,ak a.cW,az.ld p (Gr oF a.map (k:=x) λn M s O=>⟨rfl,?_⟩)⟩;subst g;rw[HM]at M;obtain⟨k,S⟩:=a.put M s O (Rj a.so);exact j n (by unfold BM;rw[ag q];exact⟨m,k⟩) (bA.no F S)
 .rw[af (cI q)];subst g;exact j l (by unfold BM;rw[af q];exact⟨m,a⟩) (bA.hH F)
theorem MG(a:Tb h b X L)(x:Ev)(o p:Int)(c: ∀H,Tb H b X (HL L x o p)->bA X h X H->R (.I (MF L x o p)) H):
  Cl 132 #[.P b 0,lL x,.I o,.I p] h R:=by
 refine wo.walk (az.box λB d e1 k f=>aH.of λJ g=> ?_);have D:=a;obtain⟨m,a⟩:=a;have n:=a.on f;refine fT n ⟨_,rfl,?_⟩;rw[ag rfl];refine yD ⟨_,rfl,?_⟩;subst g;by_cases Q:0<=p/\p<=2
 .have E:(decide (p≥0) && decide (p<=2))=true:=by simp[Q.1,Q.2]
  have e:MF L x o p=jZ L x o:=ag Q;rw[E];dsimp only;rw[dB];refine az.ld k (xD (D.on f) x o λu j=>⟨_,_,_,_,_,_,_,_,rfl,bB.new λs P e3 y t=>aH.of λJ g=> ?_⟩);have F:=f.tt (j.tt t);have S:=(j.tt t).get k id;have G:=a.on F;rw[e]at c;by_cases q:jZ L x o=0
  .rw[ag (cI q)];obtain⟨r,z⟩: ∃r,je L x=some r:=by
    cases U:je L x with
    |none=>unfold jZ at q;rw[U]at q;cases q
    |some r=>exact⟨r,rfl⟩
   rw[ag q,z]at y;obtain⟨Z,C⟩:=JF z;refine bD y bV λv A s4 O=> ?_
   have z1:=f.1;have z2:=j.1;have l:=Fr.put F s4 O ae;have i:=a.on l;have T:Ev.at v B x:=by
    have V:B≠s:=by have:=aC k;omega
    unfold Ev.at az.at;rw[O B V];exact S
   have A:({ r with kH:=p } :Rg).at v s:=A;refine⟨_,ak i.cW,az.ld T (bB.ld A (Av oF i.map (k:=x) λw M s5 o5=> ?_))⟩;have M:jV w m lL ((JH L x p).map Rg.pair):=by
    refine M.perm ?_;unfold Gp;rw[HM];have:=((HN (p:=p) a.so Z C).map Rg.pair).symm;rw[cu]at this;have K:(x,({ r with kH:=p } :Rg).val)=({ r with kH:=p } :Rg).pair:=by rw[<-C]
    rw[show((x,Value.agg #[.B r.e.km,.U r.e.node,.U r.e.gy,.S r.e.host,.S r.e.jN,.I p,.I r.own]):Ev×Value)=({ r with kH:=p } :Rg).pair from K];exact this
   obtain⟨I,st⟩:=i.put M s5 o5 (Rk a.so);subst g;exact c w (by unfold HL;rw[e,ag q];exact⟨m,I⟩) (bA.no l st)
  .rw[af (cI q)];subst g;exact c P (by unfold HL;rw[e,af q];exact⟨m,G⟩) (bA.hH F)
 .have E:(decide (p≥0) && decide (p<=2))=false:=by
   rw[Bool.and_eq_false_iff];by_cases d:p≥0
   .exact .inr (aB (λu=>Q ⟨d,u⟩))
   .exact .inl (aB d)
  have e:MF L x o p=1:=af Q;rw[E];dsimp only;rw[gk];rw[e]at c;exact c d (by unfold HL;rw[e,dB];exact⟨m,n⟩) (bA.hH f)
end gD
end
section
variable {h:aj} {R:fD}
variable {t s S D g:Nat} {n E a v f num:Int} {d i:ck} {e:Bool} {b c:ByteArray}
theorem JK.walk(o:bh h (.map #[] 0) λB H=>Cl 45 #[] H λV k=>Vp V λT=>Cl 45 #[] k λq l=>Vp q λp=>bh l (.C #[.map (some B),.I 1,.I 0,.I 0,.I 0,.pointer T,.pointer p] 119) λj m=>R (.P j 0) m):Cl 17 #[] h R:=aP (lq ll) Tryz.func17 o
theorem wv.walk(H: ∃T,Cc h t 0 (.map T)/\R (.B (!T.isNone)) h):Cl 63 #[.P t 0] h R:=aP (lq ll) Tryz.func63 H
theorem si.walk(P:Cl 63 #[.P t 0] h λa' H=>Vb a' λZ=>aH (λ(x:ck) (w u:Nat) (C:aj)=>Cl 101 #[.L x w u] C λb' F=>b'=.T #[]/\R (.L x w u) F) (λJ=>if Z then∃y,Cc H t 0 (.map y)/\aW Tryz.prog (Instr.range 115 (.map y)) H λc' G=> ∃(l:Nat),c'=.P l 0/\∃(I:ck->Nat->Nat->aj->Prop)(M:ck->Nat->Nat->aj->Nat),I none 0 0 G/\∀(j:ck)(O o:Nat)(k:aj),I j O o k->aW Tryz.prog (Instr.next (.P l 0) false 0) k λV q=>(V=.T #[.B false]/\J j O o q)\/(∃(Q U:Value),V=.T #[.B true,Q,U]/\aW Tryz.prog (Instr.entry (.P l 0)) q λd' K=> ∃(z X:Value),d'=.T #[z,X]/\∃A,z=.I A/\bh K (.C #[.I A] 3) λB L=>aW Tryz.prog (Builtin.append_ #[128,128] 128 #[.L j O o,.L (Sa B 0) 1 1]) L λe' r=> ∃p m T,e'=.L p m T/\(I p m T r/\M p m T r<M j O o k))else J none 0 0 H)):Cl 64 #[.P t 0] h R:=aP (lq (lq (sq (lq (.join [(3,.one (.slice))] (cq (lq (bq (.loop [(3,.one (.slice))] (lq (sq (cq lf lf) (bq (sq (.typed [(15,.one (.int .i64))]) lf))))))) lf))) (lq ll)))) Tryz.func64 P
theorem wx.walk{C:Nat}{j:Nat}(H:Hp h C 0 λF=>aM F λA=> ∃l,aY h A=some (.map l)/\∃T,iJ Tryz.prog 115 (.map l) (.I n) false h (.pointer T)/\aM T λm=>az.LD h (m.add 1) λo p q r u=>az.LD h (AA j 0) λw x y z B=> ∃(k:Bool),zJ Tryz.prog 25 (.agg #[.B o,.U p,.U q,.S r,.S u]) (.agg #[.B w,.U x,.U y,.S z,.S B]) k/\R (.B (!k)) h):Cl 259 #[.I n,.P C 0,.P j 0] h R:=aP (lq (sq (pN 12) lf)) Tryz.func259 H
theorem mX.of.walk{l:Nat}{m:Nat}(C:Cl 293 #[.L d s S,.func (.func 259) #[] #[.P l 0,.P m 0]] h λV p=> ∃T,V=.I T/\if(T==(-1))then R (.L d s S) p else∃(I:Int->Int->aj->Prop)(M:Int->Int->aj->Nat),I T (wrap .i64 (T+1)) p/\∀(k:Int)(j:Int)(H:aj),I k j H->if(decide (j<(s:Int)))then aH (λ(u:Int) (q:aj)=>(I u (wrap .i64 (j+1)) q/\M u (wrap .i64 (j+1)) q<M k j H)) (λJ=>Bd j s/\aM d λA=>kR H (A.add (toNat j*1)) λw=>Cl 259 #[.I w,.P l 0,.P m 0] H λK r=>Vb K λG=>aH (λ(F:Int) (y:aj)=>J F y) (λo=>if(!G)then Bd k s/\aM d λx=>aT r (x.add (toNat k*1)) (.I w) λz=>o (wrap .i64 (k+1)) z else o k r))else((0:Int)<=k/\k<=(s:Int))/\aW Tryz.prog (Builtin.clear_ #[128] 0 #[.L (cT d S (toNat k) 1) (s - (toNat k)) (S - (toNat k))]) H λL B=>L=.T #[]/\((0:Int)<=k/\k<=(S:Int))/\R (.L (cT d S 0 1) ((toNat k) - 0) (S - 0)) B):Cl 258 #[.L d s S,.func (.func 259) #[] #[.P l 0,.P m 0]] h R:=aP (lq (lq (sq (lq (cq ll lf)) (sq (lq (bq (.loop [(5,.one (.int .i64)),(6,.one (.int .i64))] (sq (lq (cq lf lf)) (sq (.join [(5,.one (.int .i64))] (bq (lq (lq (.join [(5,.one (.int .i64))] (cq ll lf)))))) lf))))) (lq ll))))) Tryz.func258 C
theorem iO.of.walk{F:Nat}{k:Nat}(o: ∃(I:Int->aj->Prop)(m:Int->aj->Nat),I 0 h/\∀(T:Int)(H:aj),I T H->if(decide (T<(s:Int)))then Bd T s/\aM d λA=>kR H (A.add (toNat T*1)) λp=>Cl 259 #[.I p,.P F 0,.P k 0] H λV j=> ∃l,V=.B l/\if l then R (.I T) j else(I (wrap .i64 (T+1)) j/\m (wrap .i64 (T+1)) j<m T H)else R (.I (-1)) H):Cl 293 #[.L d s S,.func (.func 259) #[] #[.P F 0,.P k 0]] h R:=aP (lq (sq (lq (bq (.loop [(8,.one (.int .i64))] (lq (sq (cq lf lf) (sq (bq (lq (lq (cq ll lf)))) lf)))))) ll)) Tryz.func293 o
theorem zj.walk(q:bh h (.C #[.P t 0] 38) λB m=>bh m (.C #[.B e,.U E,.U a,.S b,.S c] 25) λl H=>Hp H B 0 λr=>Cl 64 #[.pointer r] H λV o=>Vl V λx w u=>Cl 258 #[.L x w u,.func (.func 259) #[] #[.P B 0,.P l 0]] o λy p=> ∃k j T,y=.L k j T/\R (.L k j T) p):Cl 189 #[.P t 0,.agg #[.B e,.U E,.U a,.S b,.S c]] h R:=aP (lq ll) Tryz.func189 q
theorem uO.walk(y:bh h (.C #[.B e,.U E,.U a,.S b,.S c] 25) λB k=>az.LD k (AA B 0) λK L M O P=>Cl 189 #[.P t 0,.agg #[.B K,.U L,.U M,.S O,.S P]] k λV w=>Vl V λC p _=> ∃(I:Int->Int->aj->Prop)(m:Int->Int->aj->Nat),I 0 0 w/\∀(n:Int)(T:Int)(H:aj),I n T H->if(decide (T<(p:Int)))then aH (λ(o:Int) (l:aj)=>(I o (wrap .i64 (T+1)) l/\m o (wrap .i64 (T+1)) l<m n T H)) (λJ=>Bd T p/\aM C λA=>kR H (A.add (toNat T*1)) λF=> ∃q,Cc H t 0 (.map q)/\∃r,iJ Tryz.prog 115 (.map q) (.I F) false H (.pointer r)/\aM r λu=>kR H (u.add 8) λG=>aH (λ(z:Int) (x:aj)=>J z x) (λj=>if(G==0)then j (wrap .i64 (n+1)) H else j n H))else R (.I n) H):Cl 135 #[.P t 0,.agg #[.B e,.U E,.U a,.S b,.S c]] h R:=aP (lq (lq (sq (lq (bq (.loop [(5,.one (.int .i64)),(12,.one (.int .i64))] (lq (sq (cq lf lf) (sq (.join [(5,.one (.int .i64))] (bq (lq (lq (.join [(5,.one (.int .i64))] (cq lf lf)))))) lf)))))) ll))) Tryz.func135 y
theorem CO.walk(l:bh h (.C #[.B e,.U E,.U a,.S b,.S c] 25) λB k=>az.LD k (AA B 0) λu w x y z=>Cl 44 #[.agg #[.B u,.U w,.U x,.S y,.S z]] k λV H=> ∃T,V=.B T/\if T then az.LD H (AA B 0) λm o p q r=> ∃(j:Bool),zJ Tryz.prog 25 (.agg #[.B m,.U o,.U p,.S q,.S r]) (.agg #[.B false,.U 0,.U 0,.S gg,.S gg]) j/\if(!j)then if(decide ((D:Int)≥1))then if(decide ((D:Int)<=600))then R (.B (decide (v<=1099511627776))) H else R (.B false) H else R (.B false) H else R (.B false) H else R (.B false) H):Cl 218 #[.agg #[.B e,.U E,.U a,.S b,.S c],.L i D g,.U v] h R:=aP (lq ll) Tryz.func218 l
theorem xI.walk(K:bh h (.C #[.B e,.U E,.U a,.S b,.S c] 25) λB I=>Cl 63 #[.P t 0] I λi' k=> ∃z,i'=.B z/\if(!z)then R (.T #[.I 0,.I 6]) k else az.LD k (AA B 0) λL M O P Q=>Cl 218 #[.agg #[.B L,.U M,.U O,.S P,.S Q],.L i D g,.U v] k λj' l=> ∃A,j'=.B A/\if(!A)then R (.T #[.I 0,.I 1]) l else az.LD l (AA B 0) λU V X Z a'=>Cl 189 #[.P t 0,.agg #[.B U,.U V,.U X,.S Z,.S a']] l λk' H=> ∃c' C b',k'=.L c' C b'/\if(decide (((C:Nat):Int)≥16))then R (.T #[.I 0,.I 15]) H else Hi H t 1 λT=> ∃F,Cc H t 1 (.I F)/\aT H (AA t 1) (.I (wrap .i64 (F+1))) λm=> ∃j,Cc m t 0 (.map j)/\az.LD m (AA B 0) λq r u w x=>Cl 27 #[.L i D g] m λl' o=>Vl l' λf' e' d'=>dP (AA B 0) [.B q,.U r,.U u,.S w,.S x] 0 o/\Cc o t 0 (.map j)/\bh o (.C #[.I T,.B q,.U r,.U u,.S w,.S x,.L f' e' d',.U v,.I 0,.U 0] 194) λG p=>dP (AA B 0) [.B q,.U r,.U u,.S w,.S x] 0 p/\Cc p t 0 (.map j)/\aW Tryz.prog (Instr.mapUpdate 115 (.map j) (.I T) (.P G 0)) p λ_ y=>Hp y t 5 λg'=>Cl 219 #[.pointer g',.I T,.U v] y λm' J=> ∃h',m'=.I h'/\R (.T #[.I T,.I 0]) J):Cl 152 #[.P t 0,.agg #[.B e,.U E,.U a,.S b,.S c],.L i D g,.U v] h R:=aP (lq (sq (bq (lq (cq ll (lq (cq ll (lq (cq ll lf))))))) (lq (lq (sq (.lK (.op 0 (.op 1 (.op 2 (.op 3 (.op 4 (.op 5 (.op 6 (.op 7 (.op 9 (.op 8 (.op 10 (.op 11 (.op 12 .done)))))))))))))) (lq ll)))))) Tryz.func152 K
theorem xJ.walk(H:if(decide (n≥1))then R (.B (decide (n<=1099511627776))) h else R (.B false) h):Cl 264 #[.I n] h R:=aP (lq ll) Tryz.func264 H
theorem uQ.walk{k:Int}(hv:bh h (.C #[.B e,.U E,.U a,.S b,.S c] 25) λd' e'=>bh e' (.C #[.I 0,.B false,.U 0,.U 0,.S gg,.S gg,.Z,.U 0,.I 0,.U 0] 194) λB h'=>Cl 63 #[.P t 0] h' λe4 y=> ∃C,e4=.B C/\if(!C)then aQ.ST y (AA B 0) 0 false 0 0 gg gg none 0 0 0 0 0 λz=>aQ.LD z (AA B 0) λk' o' s' w' A' E' R' M' I' V' a1 a5=>R (.T #[.agg #[.I k',.B o',.U s',.U w',.S A',.S E',.L R' M' I',.U V',.I a1,.U a5],.I 6]) z else aH (λ(a9:Bool) (m:aj)=>if a9 then aQ.ST m (AA B 0) 0 false 0 0 gg gg none 0 0 0 0 0 λA=>aQ.LD A (AA B 0) λl' p' t' x' B' F' S' O' J' X' a2 a6=>R (.T #[.agg #[.I l',.B p',.U t',.U x',.S B',.S F',.L S' O' J',.U X',.I a2,.U a6],.I 1]) A else az.LD m (AA d' 0) λb0 b1 b2 b3 b4=>Cl 189 #[.P t 0,.agg #[.B b0,.U b1,.U b2,.S b3,.S b4]] m λe5 i'=>Vl e5 λb5 G _=> ∃(I:Int->aj->Prop)(M:Int->aj->Nat),I 0 i'/\∀(T:Int)(H:aj),I T H->if(decide (T<(G:Int)))then Bd T G/\aM b5 λV=>kR H (V.add (toNat T*1)) λK=> ∃L,Cc H t 0 (.map L)/\∃j,iJ Tryz.prog 115 (.map L) (.I K) false H (.pointer j)/\aM j λX=> ∃O,aY H (X.add 8)=some (.I O)/\if(O==0)then aM j λZ=>aT H (Z.add 8) (.I f) λj'=>aM j λa'=>aT j' (a'.add 9) (.U k) λo=>Hp o t 6 λb6=>Cl 219 #[.pointer b6,.I K,.U k] o λe6 p=>Vi e6 λ_=>aM j λb'=>aQ.LD p b' λb7 b8 b9 c0 c1 c2 c5 c4 c3 c6 c7 c8=>bh p (.C #[.I 0,.B false,.U 0,.U 0,.S gg,.S gg,.Z,.U 0,.I 0,.U 0] 194) λl f'=>aQ.ST f' (AA l 0) b7 b8 b9 c0 c1 c2 c5 c4 c3 c6 c7 c8 λq=>aM j λc'=>mJ q (c'.add 6) λd1 d0 c9=>Cl 27 #[.L d1 d0 c9] q λe7 g'=> ∃U Q P,e7=.L U Q P/\aT g' (AA l 6) (.L U Q P) λr=>aQ.LD r (AA l 0) λd2 d3 d4 d5 d6 d7 e0 d9 d8 e1 e2 e3=>aQ.ST r (AA B 0) d2 d3 d4 d5 d6 d7 e0 d9 d8 e1 e2 e3 λu=>aQ.LD u (AA B 0) λm' q' u' y' C' G' T' P' K' Z' a3 a7=>R (.T #[.agg #[.I m',.B q',.U u',.U y',.S C',.S G',.L T' P' K',.U Z',.I a3,.U a7],.I 0]) u else(I (wrap .i64 (T+1)) H/\M (wrap .i64 (T+1)) H<M T H)else aQ.ST H (AA B 0) 0 false 0 0 gg gg none 0 0 0 0 0 λw=>aQ.LD w (AA B 0) λn' r' v' z' D' H' U' Q' L' a0 a4 a8=>R (.T #[.agg #[.I n',.B r',.U v',.U z',.S D',.S H',.L U' Q' L',.U a0,.I a4,.U a8],.I 4]) w) (λJ=>Cl 264 #[.I f] y λe8 x=> ∃F,e8=.B F/\if(!F)then J true x else J (decide (k>1099511627776)) x)):Cl 196 #[.P t 0,.agg #[.B e,.U E,.U a,.S b,.S c],.I f,.U k] h R:=aP (lq (sq (bq (lq (cq ll (sq (.join [(19,.one (.bool))] lf) (cq ll lf))))) (sq (lq (bq (.loop [(32,.one (.int .i64))] (lq (sq (cq lf lf) (sq (bq (lq (lq (lq (cq (lq (lq (lq (lq ll)))) lf))))) lf)))))) ll))) Tryz.func196 hv
theorem wy.walk(z:Cl 63 #[.P t 0] h λV H=> ∃T,V=.B T/\if(!T)then R (.T #[.pointer none,.I 6]) H else∃k,Cc H t 0 (.map k)/\∃l,iJ Tryz.prog 115 (.map k) (.I num) false H (.pointer l)/\if l.isNone then R (.T #[.pointer none,.I 4]) H else aH (λ(B:Bool) (j:aj)=>if B then R (.T #[.pointer none,.I 14]) j else∃w,Cc j t 0 (.map w)/\∃x,iJ Tryz.prog 115 (.map w) (.I num) false j (.pointer x)/\R (.T #[.pointer x,.I 0]) j) (λJ=> ∃m,Cc H t 0 (.map m)/\∃o,iJ Tryz.prog 115 (.map m) (.I num) false H (.pointer o)/\aM o λA=> ∃p,aY H (A.add 8)=some (.I p)/\if(p==0)then J true H else∃q,Cc H t 0 (.map q)/\∃r,iJ Tryz.prog 115 (.map q) (.I num) false H (.pointer r)/\aM r λy=> ∃u,aY H (y.add 8)=some (.I u)/\J (u !=f) H)):Cl 204 #[.P t 0,.I num,.I f] h R:=aP (lq (sq (bq (lq (cq ll (lq (cq ll (sq (.join [(20,.one (.bool))] lf) (cq ll lf))))))) ll)) Tryz.func204 z
theorem wz.walk(q:Hp h t 6 λr=>Cl 116 #[.pointer r,.I n] h λV H=>Vi V λ_=> ∃T,Cc H t 0 (.map T)/\∃j,iJ Tryz.prog 115 (.map T) (.I n) false H (.pointer j)/\∃k,Cc H t 0 (.map k)/\∃l,iJ Tryz.prog 115 (.map k) (.I n) false H (.pointer l)/\aM j λA=>aT H (A.add 8) (.I 0) λo=>aM l λm=>aT o (m.add 9) (.U 0) λp=>R (.T #[]) p):Cl 81 #[.P t 0,.I n] h R:=aP (lq (pN 18)) Tryz.func81 q
theorem tJ.walk(l:Hp h t 6 λo=>Cl 116 #[.pointer o,.I n] h λV H=>Vi V λ_=>Hp H t 5 λm=>Cl 116 #[.pointer m,.I n] H λp j=>Vi p λ_=> ∃T,Cc j t 0 (.map T)/\aW Tryz.prog (Builtin.delete_ #[115,3] 0 #[.map T,.I n]) j λq k=>q=.T #[]/\R (.T #[]) k):Cl 80 #[.P t 0,.I n] h R:=aP (lq ll) Tryz.func80 l
theorem xK.walk(o:Cl 204 #[.P t 0,.I num,.I f] h λV H=> ∃p T,V=.T #[.pointer p,.I T]/\aH (λ(l:aj)=>R (.I T) l) (λJ=>if(T==0)then Cl 80 #[.P t 0,.I num] H λq j=>q=.T #[]/\∃k,Cc j t 2 (.I k)/\aT j (AA t 2) (.I (wrap .i64 (k+1))) λm=>J m else J H)):Cl 200 #[.P t 0,.I num,.I f] h R:=aP (lq (lq (sq (lq (.join [] (cq ll lf))) ll))) Tryz.func200 o
theorem sk.walk(l:Cl 204 #[.P t 0,.I num,.I f] h λV H=> ∃m T,V=.T #[.pointer m,.I T]/\aH (λ(j:aj)=>R (.I T) j) (λJ=>if(T==0)then Cl 81 #[.P t 0,.I num] H λo k=>o=.T #[]/\J k else J H)):Cl 139 #[.P t 0,.I num,.I f] h R:=aP (lq (lq (sq (lq (.join [] (cq lf lf))) ll))) Tryz.func139 l
theorem wA.walk{o:Int}(J:Cl 63 #[.P t 0] h λV m=> ∃x,V=.B x/\if(!x)then R (.Z) m else Hp m t 5 λK=>Cl 79 #[.pointer K,.U o] m λX F=>Vl X λy p L=> ∃(I:Int->aj->Prop)(M:Int->aj->Nat),I 0 F/\∀(T:Int)(H:aj),I T H->if(decide (T<(p:Int)))then Bd T p/\aM y λB=>kR H (B.add (toNat T*1)) λO=>Cl 80 #[.P t 0,.I O] H λZ q=>Z=.T #[]/\∃z,Cc q t 3 (.I z)/\aT q (AA t 3) (.I (wrap .i64 (z+1))) λr=>(I (wrap .i64 (T+1)) r/\M (wrap .i64 (T+1)) r<M T H)else Hp H t 6 λP=>Cl 79 #[.pointer P,.U o] H λa' G=>Vl a' λQ A _=> ∃(l:Int->aj->Prop)(w:Int->aj->Nat),l 0 G/\∀(j:Int)(k:aj),l j k->if(decide (j<(A:Int)))then Bd j A/\aM Q λC=>kR k (C.add (toNat j*1)) λU=>Cl 81 #[.P t 0,.I U] k λb' u=>b'=.T #[]/\(l (wrap .i64 (j+1)) u/\w (wrap .i64 (j+1)) u<w j k)else R (.L y p L) k):Cl 48 #[.P t 0,.U o] h R:=aP (lq (sq (lq (cq ll lf)) (lq (sq (lq (bq (.loop [(21,.one (.int .i64))] (lq (sq (cq lf lf) (sq (bq (lq ll)) lf)))))) (sq (lq (bq (.loop [(43,.one (.int .i64))] (lq (sq (cq lf lf) (sq (bq ll) lf)))))) ll))))) Tryz.func48 J
theorem wB.walk(r:bh h (.C #[.B e,.U E,.U a,.S b,.S c] 25) λB k=>az.LD k (AA B 0) λx y z C F=>Cl 189 #[.P t 0,.agg #[.B x,.U y,.U z,.S C,.S F]] k λV q=>Vl V λo j u=> ∃(I:Int->aj->Prop)(M:Int->aj->Nat),I 0 q/\∀(T:Int)(H:aj),I T H->if(decide (T<(j:Int)))then Bd T j/\aM o λA=>kR H (A.add (toNat T*1)) λw=>Cl 80 #[.P t 0,.I w] H λG l=>G=.T #[]/\∃p,Cc l t 4 (.I p)/\aT l (AA t 4) (.I (wrap .i64 (p+1))) λm=>(I (wrap .i64 (T+1)) m/\M (wrap .i64 (T+1)) m<M T H)else R (.L o j u) H):Cl 131 #[.P t 0,.agg #[.B e,.U E,.U a,.S b,.S c]] h R:=aP (lq (lq (sq (lq (bq (.loop [(13,.one (.int .i64))] (lq (sq (cq lf lf) (sq (bq (lq ll)) lf)))))) ll))) Tryz.func131 r
theorem xL.walk(Q:Cl 64 #[.P t 0] h λz' J=>Vl z' λy' A _=> ∃(I:ck->Nat->Nat->Int->aj->Prop)(M:ck->Nat->Nat->Int->aj->Nat),I none 0 0 0 J/\∀(j:ck)(O o:Nat)(T:Int)(H:aj),I j O o T H->if(decide (T<(A:Int)))then Bd T A/\aM y' λC=>kR H (C.add (toNat T*1)) λU=> ∃u,Cc H t 0 (.map u)/\∃w,iJ Tryz.prog 115 (.map u) (.I U) false H (.pointer w)/\aM w λF=>aQ.LD H F λV X Z a' b' c' f' e' d' g' h' i'=>bh H (.C #[.I 0,.B false,.U 0,.U 0,.S gg,.S gg,.Z,.U 0,.I 0,.U 0] 194) λB K=>aQ.ST K (AA B 0) V X Z a' b' c' f' e' d' g' h' i' λp=>Hl p B 6 λl' k' j'=>Cl 27 #[.L l' k' j'] p λA' L=> ∃z y x,A'=.L z y x/\aT L (AA B 6) (.L z y x) λq=>aQ.LD q (AA B 0) λm' n' o' p' q' r' u' t' s' v' w' x'=>bh q (.C #[.I m',.B n',.U o',.U p',.S q',.S r',.L u' t' s',.U v',.I w',.U x'] 194) λG P=>aW Tryz.prog (Builtin.append_ #[296,296] 296 #[.L j O o,.L (Sa G 0) 1 1]) P λB' r=> ∃m l k,B'=.L m l k/\(I m l k (wrap .i64 (T+1)) r/\M m l k (wrap .i64 (T+1)) r<M j O o T H)else R (.L j O o) H):Cl 199 #[.P t 0] h R:=aP (lq (lq (sq (lq (bq (.loop [(3,.one (.slice)),(10,.one (.int .i64))] (lq (sq (cq lf lf) (sq (bq (lq (lq ll))) lf)))))) ll))) Tryz.func199 Q

end
section
open Go.kA
namespace gm
open jA cf
variable {h h':aj} {t:Nat} {X:Ft}
structure Cp where
 num:Nat
 e:Ev
 d:cM
 fa:Nat
 ses:Int
 dl:Nat
structure CV where
 num:Nat
 b:Nat
 e:Ev
 v:BV
 fa:Nat
 ses:Int
 dl:Nat
def CV.abs(x:CV):Cp:=⟨x.num,x.e,x.v.b,x.fa,x.ses,x.dl⟩
abbrev CV.at(h:aj)(b:Nat)(x:CV):Prop:=aQ.at h b (x.num:Int) x.e.km x.e.node x.e.gy x.e.host x.e.jN x.v.p x.v.b.length x.v.c (x.fa:Int) x.ses (x.dl:Int)
structure CF where
 L:List Cp
 next:Nat
 gE:Nat
 over:Nat
 gone:Nat
 E1:List E
 E2:List E
abbrev gO(b:Int):Value:=.int .i64 b
theorem VE:Dp Tryz.prog 3 gO:=⟨λc b h=>dz,λe c h=>dz,by
 have H:Tryz.prog.underlying 3=some (.int .i64):=dz
 exact⟨_,H,λc b=> .inr rfl⟩,λc=>by simp[Instr.sameBits]⟩
theorem oF:ph Tryz.prog 115 gO (.pointer none):=ph.of 3 150 dz VE dz
abbrev CV.pair(x:CV):Int×Value:=((x.num:Int),.pointer (some ⟨x.b,0,none⟩))
structure Cm (h:aj) (t:Nat) (X:Ft) (s:CF) (m:Nat) (a:List CV) (A:Nat) (g:Nat->Prop) (f:Nat) (i:Nat->Prop) (l:Nat->Option Nat):Prop where
 cW:h[t]? =some (.cells #[.map (some m),.int .i64 (s.next:Int),.int .i64 (s.gE:Int),.int .i64 (s.over:Int),.int .i64 (s.gone:Int),.pointer (some ⟨A,0,none⟩),.pointer (some ⟨f,0,none⟩)] 119 (0,0))
 map:jV h m gO (a.map CV.pair)
 FQ: ∀x∈a,x.at h x.b
 abs:a.map CV.abs=s.L
 Cj: ∀x∈a,x.v.ok h X.D
 JL:Al h A g s.E1
 JM:Al h f i s.E2
 l0:l t=some 0
 l1:l m=some 1
 l2: ∀c,g c->l c=some 2
 l3: ∀c,i c->l c=some 3
 l4: ∀x∈a,l x.b=some (4+x.num)
 mm: ∀c,X.M c↔l c≠none
 dd: ∀c,X.D c->l c=none/\c<h.size
 FR: ∀c,l c≠none->c<h.size
 so:(a.map CV.num).Pairwise (· < ·)
def Ct(h:aj)(t:Nat)(X:Ft)(s:CF):Prop:= ∃m a A g f i l,Cm h t X s m a A g f i l
variable {s s' : CF} {m A f : Nat} {a : List CV} {g i n j : Nat → Prop} {l : Nat → Option Nat}
structure Kept (h':aj) (t:Nat) (X:Ft) (s:CF) (m:Nat) (a:List CV) (A:Nat) (g:Nat->Prop) (f:Nat) (i:Nat->Prop) (k:Nat):Prop where
 cW:k≠0->h'[t]? =some (.cells #[.map (some m),.int .i64 (s.next:Int),.int .i64 (s.gE:Int),.int .i64 (s.over:Int),.int .i64 (s.gone:Int),.pointer (some ⟨A,0,none⟩),.pointer (some ⟨f,0,none⟩)] 119 (0,0))
 map:k≠1->jV h' m gO (a.map CV.pair)
 JL:k≠2->Al h' A g s.E1
 JM:k≠3->Al h' f i s.E2
 FQ: ∀x∈a,k≠4+x.num->x.at h' x.b
 Cj: ∀x∈a,x.v.ok h' X.D
theorem Cm.qU{Q:Nat->Prop}{k:Nat}(H:Cm h t X s m a A g f i l)(F:Fr Q h h')(r: ∀c,Q c->c<h.size->l c=some k):Kept h' t X s m a A g f i k:=by
 have o: ∀{c J:Nat},c<h.size->l c=some J->k≠J->¬Q c:=λd u b p=>b (by have:=r _ p d;rw[u]at this;exact(aZ this).symm)
 refine⟨λb=>F.get H.cW (o (aC H.cW) H.l0 b),λb=>H.map.frame F (o H.map.lt H.l1 b),λb=> ?_,λb=> ?_,λx e b=>F.get (H.FQ x e) (o (aC (H.FQ x e)) (H.l4 x e) b),λx e=> ?_⟩
 .exact H.JL.frame F (λc d=>o (H.JL.lt d) (H.l2 c d) b)
 .exact H.JM.frame F (λc d=>o (H.JM.lt d) (H.l3 c d) b)
 .refine(H.Cj x e).frame F (λc d p=> ?_);have:=H.dd c d;have q:=r c p this.2;rw[this.1]at q;cases q
theorem Cm.frame{Q:Nat->Prop}(H:Cm h t X s m a A g f i l)(F:Fr Q h h')(k: ∀y,X.M y\/X.D y->¬Q y):Cm h' t X s m a A g f i l:=by
 have d: ∀{c J:Nat},l c=some J->¬Q c:=λo=>k _ (.inl ((H.mm _).2 (by rw[o];simp)))
 exact⟨F.get H.cW (d H.l0),H.map.frame F (d H.l1),λx e=>F.get (H.FQ x e) (d (H.l4 x e)),H.abs,λx e=>(H.Cj x e).frame F (λc b=>k c (.inr b)),
  H.JL.frame F (λc b=>d (H.l2 c b)),H.JM.frame F (λc b=>d (H.l3 c b)),H.l0,H.l1,H.l2,H.l3,H.l4,H.mm,λc b=>⟨(H.dd c b).1,cA (H.dd c b).2 F.1⟩,λc b=>cA (H.FR c b) F.1,H.so⟩
theorem Cm.on(H:Cm h t X s m a A g f i l)(F:Fr No h h'):Cm h' t X s m a A g f i l:=H.frame F bX
theorem Ct.frame{Q:Nat->Prop}(H:Ct h t X s)(F:Fr Q h h')(b: ∀y,X.M y\/X.D y->¬Q y):Ct h' t X s:=by
 obtain⟨m,a,A,g,f,i,l,H⟩:=H;exact⟨m,a,A,g,f,i,l,H.frame F b⟩
theorem Ct.on(H:Ct h t X s)(F:Fr No h h'):Ct h' t X s:=H.frame F bX
theorem Ct.lt(H:Ct h t X s)(y:Nat)(hy:X.M y\/X.D y):y<h.size:=by
 obtain⟨m,a,A,g,f,i,l,H⟩:=H;rcases hy with hy|hy
 .exact H.FR y ((H.mm y).1 hy)
 .exact(H.dd y hy).2
theorem Cm.step{Q:Nat->Prop}{k:Nat}(H:Cm h t X s m a A g f i l)(F:Fr Q h h')(e: ∀c,Q c->c<h.size->l c=some k):bA X h X h':=
 bA.vw (F.mono λc d b=>(H.mm c).2 (by rw[e c b d];simp))
theorem Cm.field(H:Cm h t X s m a A g f i l)(q:s'.L=s.L)(o:s'.E1=s.E1)(p:s'.E2=s.E2)(r:h'[t]? =some (.C #[.map (some m),.I (s'.next:Int),.I (s'.gE:Int),.I (s'.over:Int),.I (s'.gone:Int),.P A 0,.P f 0] 119 (0,0)))(k:h'.size=h.size)(v: ∀x,x≠t->h'[x]? =h[x]?):Cm h' t X s' m a A g f i l/\bA X h X h':=by
 have F:Fr (λc=>c=t) h h':=⟨ae,λc _ u=>v c u⟩;have d: ∀c,c=t->c<h.size->l c=some 0:=λc e _=>by rw[e];exact H.l0
 have K:=H.qU F d;refine⟨⟨r,K.map ae,λx w=>K.FQ x w ae,H.abs.trans q.symm,K.Cj,by rw[o];exact K.JL ae,by rw[p];exact K.JM ae,H.l0,H.l1,H.l2,H.l3,H.l4,H.mm,λc b=>by rw[k];exact H.dd c b,λc b=>by rw[k];exact H.FR c b,H.so⟩,H.step F d⟩
def PD(l:Nat->Option Nat)(S:Nat->Prop)[DecidablePred S](k:Nat):Nat->Option Nat:=λc=>if S c then some k else l c
theorem Cm.JN{w:List E}(H:Cm h t X s m a A g f i l)(v:Al h' f j w)(r: ∀c,j c->i c\/h.size<=c)(F:Fr i h h')(C:s'.L=s.L)(y:s'.E1=s.E1)(B:s'.E2=w)(o:s'.next=s.next/\s'.gE=s.gE/\s'.over=s.over/\s'.gone=s.gone):
  ∃q L,Cm h' t q s' m a A g f j L/\bA X h q h'/\∀c,q.M c->X.M c\/j c:=by
 classical
 have G: ∀c,i c->c<h.size->l c=some 3:=λc b _=>H.l3 c b
 have K:=H.qU F G;have z:=F.1
 let L:=PD l j 3
 have p: ∀{c J:Nat},l c=some J->J≠3->L c=some J:=fun {c J} k D=>by
  show(if j c then some 3 else l c)=some J;rw[af]
  .exact k
  .intro b;rcases r c b with h3|h3
   .rw[H.l3 c h3]at k;exact D (aZ k).symm
   .have:=H.FR c (by rw[k];simp);omega
 have u: ∀c,L c≠none->l c≠none\/j c:=λc b=>by
  by_cases d:j c
  .exact .inr d
  .refine .inl ?_;have e:L c=l c:=af d;rwa[e]at b
 have I: ∀c,l c≠none->L c≠none:=λc b=>by
  by_cases d:j c
  .have e:L c=some 3:=ag d;rw[e];simp
  .have e:L c=l c:=af d;rwa[e]
 have S:bA X h ⟨λc=>L c≠none,X.D⟩ h':=by
  refine⟨F.mono (λc b d=>(H.mm c).2 (by rw[H.l3 c d];simp)),λc b=> ?_,λc b=> .inl b,λc b=>b⟩;rcases u c b with h3|h3
  .exact .inl ((H.mm c).2 h3)
  .rcases r c h3 with h4|h4
   .exact .inl ((H.mm c).2 (by rw[H.l3 c h4];simp))
   .exact .inr h4
 refine⟨⟨λc=>L c≠none,X.D⟩,L,⟨?_,K.map ae,λx d=>K.FQ x d ae,H.abs.trans C.symm,K.Cj,by rw[y];exact K.JL ae,by rw[B];exact v,p H.l0 ae,p H.l1 ae,λc b=>p (H.l2 c b) ae,λc b=>ag b,λx d=>p (H.l4 x d) ae,λc=>fi,λc b=> ?_,λc b=> ?_,H.so⟩,S,λc b=>(u c b).imp (λh=>(H.mm c).2 h) id⟩
 .rw[o.1,o.2.1,o.2.2.1,o.2.2.2];exact K.cW ae
 .have:=H.dd c b;refine⟨?_,ae⟩;show(if j c then some 3 else l c)=none;rw[af]
  .exact this.1
  .intro d;rcases r c d with h3|h3
   .rw[H.l3 c h3]at this;cases this.1
   .omega
 .rcases u c b with h3|h3
  .have:=H.FR c h3;omega
  .exact v.lt h3
theorem Cm.JO{w:List E}(H:Cm h t X s m a A g f i l)(v:Al h' A n w)(r: ∀c,n c->g c\/h.size<=c)(F:Fr g h h')(C:s'.L=s.L)(y:s'.E1=w)(B:s'.E2=s.E2)(o:s'.next=s.next/\s'.gE=s.gE/\s'.over=s.over/\s'.gone=s.gone):
  ∃q L,Cm h' t q s' m a A n f i L/\bA X h q h'/\∀c,q.M c->X.M c\/n c:=by
 classical
 have G: ∀c,g c->c<h.size->l c=some 2:=λc b _=>H.l2 c b
 have K:=H.qU F G;have z:=F.1
 let L:=PD l n 2
 have p: ∀{c J:Nat},l c=some J->J≠2->L c=some J:=fun {c J} k D=>by
  show(if n c then some 2 else l c)=some J;rw[af]
  .exact k
  .intro b;rcases r c b with h3|h3
   .rw[H.l2 c h3]at k;exact D (aZ k).symm
   .have:=H.FR c (by rw[k];simp);omega
 have u: ∀c,L c≠none->l c≠none\/n c:=λc b=>by
  by_cases d:n c
  .exact .inr d
  .refine .inl ?_;have e:L c=l c:=af d;rwa[e]at b
 have S:bA X h ⟨λc=>L c≠none,X.D⟩ h':=by
  refine⟨F.mono (λc b d=>(H.mm c).2 (by rw[H.l2 c d];simp)),λc b=> ?_,λc b=> .inl b,λc b=>b⟩;rcases u c b with h3|h3
  .exact .inl ((H.mm c).2 h3)
  .rcases r c h3 with h4|h4
   .exact .inl ((H.mm c).2 (by rw[H.l2 c h4];simp))
   .exact .inr h4
 refine⟨⟨λc=>L c≠none,X.D⟩,L,⟨?_,K.map ae,λx d=>K.FQ x d ae,H.abs.trans C.symm,K.Cj,by rw[y];exact v,by rw[B];exact K.JM ae,p H.l0 ae,p H.l1 ae,λc b=>ag b,λc b=>p (H.l3 c b) ae,λx d=>p (H.l4 x d) ae,λc=>fi,λc b=> ?_,λc b=> ?_,H.so⟩,S,λc b=>(u c b).imp (λh=>(H.mm c).2 h) id⟩
 .rw[o.1,o.2.1,o.2.2.1,o.2.2.2];exact K.cW ae
 .have:=H.dd c b;refine⟨?_,ae⟩;show(if n c then some 2 else l c)=none;rw[af]
  .exact this.1
  .intro d;rcases r c d with h3|h3
   .rw[H.l2 c h3]at this;cases this.1
   .omega
 .rcases u c b with h3|h3
  .have:=H.FR c h3;omega
  .exact v.lt h3
theorem Cm.del{k:Int}(H:Cm h t X s m a A g f i l)(M:jV h' m gO (wW (a.map CV.pair) k))(q:h'.size=h.size)(w: ∀c,c≠m->h'[c]? =h[c]?)(v:s'.L=s.L.filter (λx=> !decide ((x.num:Int)=k)))(r:s'.E1=s.E1)(u:s'.E2=s.E2)(d:s'.next=s.next/\s'.gE=s.gE/\s'.over=s.over/\s'.gone=s.gone):
  Cm h' t X s' m (a.filter (λx=> !decide ((x.num:Int)=k))) A g f i l/\bA X h X h':=by
 have F:Fr (λc=>c=m) h h':=⟨ae,λc _ d=>w c d⟩;have p: ∀c,c=m->c<h.size->l c=some 1:=λc e _=>by rw[e];exact H.l1
 have K:=H.qU F p;have S: ∀x∈a.filter (λx=> !decide ((x.num:Int)=k)),x∈a:=λx b=>(bj.1 b).1
 refine⟨⟨?_,?_,λx b=>K.FQ x (S x b) ae,?_,λx b=>K.Cj x (S x b),by rw[r];exact K.JL ae,by rw[u];exact K.JM ae,H.l0,H.l1,H.l2,H.l3,λx b=>H.l4 x (S x b),H.mm,λc o=>by rw[q];exact H.dd c o,λc o=>by rw[q];exact H.FR c o,H.so.sublist (cS.map _)⟩,H.step F p⟩
 .rw[d.1,d.2.1,d.2.2.1,d.2.2.2];exact K.cW ae
 .unfold wW at M;rw[dQ]at M;exact M
 .rw[v,<-H.abs,dQ];rfl
theorem Cm.change{x y:CV}(H:Cm h t X s m a A g f i l)(k:x∈a)(o:y.b=x.b)(v:y.num=x.num)(O:y.v=x.v)(P:y.at h' x.b)(B:h'.size=h.size)(J: ∀c,c≠x.b->h'[c]? =h[c]?)(E:s'.L=s.L.map (λz=>if z.num=x.num then y.abs else z))(C:s'.E1=s.E1)(D:s'.E2=s.E2)(d:s'.next=s.next/\s'.gE=s.gE/\s'.over=s.over/\s'.gone=s.gone):
  Cm h' t X s' m (a.map (λz=>if z.num=x.num then y else z)) A g f i l/\bA X h X h':=by
 have F:Fr (λc=>c=x.b) h h':=⟨ae,λc _ d=>J c d⟩;have w: ∀c,c=x.b->c<h.size->l c=some (4+x.num):=λc e _=>by rw[e];exact H.l4 x k
 have K:=H.qU F w;have M: ∀z∈a.map (λz=>if z.num=x.num then y else z),(z=y)\/(z∈a/\z.num≠x.num):=λz b=>by
  obtain⟨u,L,rfl⟩:=bp.1 b;by_cases e:u.num=x.num
  .rw[ag e];exact .inl rfl
  .rw[af e];exact .inr ⟨L,e⟩
 have S:(a.map (λz=>if z.num=x.num then y else z)).map CV.pair=a.map CV.pair:=by
  rw[dJ];refine eH λz b=> ?_
  show CV.pair (if z.num=x.num then y else z)=z.pair;by_cases e:z.num=x.num
  .rw[ag e];have:z=x:=by
    obtain⟨Q,q⟩:=bO b;obtain⟨R,r⟩:=bO k;have I:(a.map CV.num).Nodup:=H.so.imp (λh=>Nat.ne_of_lt h);have G:=(aE.1 q).1;have:=(eE (l:=a.map CV.num) (i:=Q) (j:=R) (cI G) I).1 (by rw[aD,aD,q,r];simp[e]);subst this;rw[q]at r;exact aZ r
   subst this;unfold CV.pair;rw[v,o]
  .rw[af e]
 refine⟨⟨?_,?_,λz b=> ?_,?_,λz b=> ?_,by rw[C];exact K.JL ae,by rw[D];exact K.JM ae,H.l0,H.l1,H.l2,H.l3,λz b=> ?_,H.mm,λc p=>by rw[B];exact H.dd c p,λc p=>by rw[B];exact H.FR c p,?_⟩,H.step F w⟩
 .rw[d.1,d.2.1,d.2.2.1,d.2.2.2];exact K.cW ae
 .rw[S];exact K.map ae
 .rcases M z b with rfl|⟨b,e⟩
  .rw[o];exact P
  .exact K.FQ z b ae
 .rw[E,<-H.abs,dJ,dJ];refine eH λz _=> ?_
  show CV.abs (if z.num=x.num then y else z)=if z.num=x.num then y.abs else z.abs
  split<;>rfl
 .rcases M z b with rfl|⟨b,_⟩
  .rw[O];exact K.Cj x k
  .exact K.Cj z b
 .rcases M z b with rfl|⟨b,_⟩
  .rw[o,v];exact H.l4 x k
  .exact H.l4 z b
 .have:(a.map (λz=>if z.num=x.num then y else z)).map CV.num=a.map CV.num:=by
   rw[dJ];refine eH λz _=> ?_
   show CV.num (if z.num=x.num then y else z)=z.num;split
   .rename_i e;rw[v,e]
   .rfl
  rw[this];exact H.so
theorem Cm.add{y:CV}{d k:aj}(H:Cm h t X s m a A g f i l)(u:Fr No h d)(E:y.at d y.b)(f':h.size<=y.b)(U:Row d y.v.p (bc y.v.b))(T:y.v.b.length<=y.v.c)(v: ∀c,aN y.v.p c->h.size<=c/\c≠y.b/\c<d.size)(C: ∀x∈a,x.num<y.num)(M:jV k m gO (Gp (a.map CV.pair) (y.num:Int) (.P y.b 0)))(hs:k.size=d.size)(ho: ∀c,c≠m->k[c]? =d[c]?)(R:s'.L=s.L++ [y.abs])(O:s'.E1=s.E1)(P:s'.E2=s.E2)(o:s'.next=s.next/\s'.gE=s.gE/\s'.over=s.over/\s'.gone=s.gone):
  ∃w L,Cm k t w s' m (a++ [y]) A g f i L/\bA X h w k:=by
 classical
 have z1:=u.1;have G:=H.on u;have F:Fr (λc=>c=m) d k:=⟨ae,λc _ o=>ho c o⟩;have hq: ∀c,c=m->c<d.size->l c=some 1:=λc e _=>by rw[e];exact H.l1
 have K:=G.qU F hq;have g':=aC E
 let L:=PD l (λc=>c=y.b) (4+y.num)
 have q: ∀c,c≠y.b->L c=l c:=λc b=>af b
 have b':L y.b=some (4+y.num):=ag rfl;have d': ∀{c:Nat},l c≠none->c≠y.b:=fun {c} b e=>by have:=H.FR c b;omega
 have p: ∀{c J:Nat},l c=some J->L c=some J:=fun {c J} B=>by rw[q c (d' (by rw[B];simp))];exact B
 let D:=λc=>X.D c\/(y.v.b≠ []/\aN y.v.p c)
 have c':y.b≠m:=λe=>by have:=H.map.lt;omega
 have I: ∀c,D c->L c=none/\c<k.size:=λc b=>by
  rcases b with b|⟨_,b⟩
  .have:=H.dd c b;rw[q c ae];exact⟨this.1,ae⟩
  .have:=v c b;rw[q c this.2.1];refine⟨?_,ae⟩;cases e:l c with
   |none=>rfl
   |some J=>have:=H.FR c (by rw[e];simp);omega
 refine⟨⟨λc=>L c≠none,D⟩,L,⟨?_,?_,λx hx=> ?_,?_,λx hx=> ?_,by rw[O];exact K.JL ae,by rw[P];exact K.JM ae,p H.l0,p H.l1,λc b=>p (H.l2 c b),λc b=>p (H.l3 c b),λx hx=> ?_,λc=>fi,I,λc b=> ?_,?_⟩,?_⟩
 .rw[o.1,o.2.1,o.2.2.1,o.2.2.2];exact K.cW ae
 .refine M.perm ?_;unfold Gp;rw[sJ (λe V=>by obtain⟨x,hx,rfl⟩:=bp.1 V;have:=C x hx;show¬((x.num:Int)=(y.num:Int));omega),aV];exact(List.perm_append_comm (l₁:= [CV.pair y]) (l₂:=a.map CV.pair))
 .rcases bE.1 hx with hx|hx
  .exact K.FQ x hx ae
  .obtain rfl:=bP.1 hx;exact F.get E c'
 .rw[R,<-H.abs,aV];rfl
 .rcases bE.1 hx with hx|hx
  .exact(K.Cj x hx).mono (λc b=> .inl b)
  .obtain rfl:=bP.1 hx;refine⟨U.frame F (λr e Z=> ?_),λa' c b=> .inr ⟨a',b⟩,T⟩;have d:=(v r.block ⟨r,e,rfl⟩).1;have k:=H.map.lt;have h3:r.block=m:=Z;omega
 .rcases bE.1 hx with hx|hx
  .exact p (H.l4 x hx)
  .obtain rfl:=bP.1 hx;exact b'
 .by_cases e:c=y.b
  .subst e;omega
  .rw[q c e]at b;have:=H.FR c b;omega
 .rw[aV,List.pairwise_append];refine⟨H.so,bV,λr S e' z=> ?_⟩;obtain⟨x,hx,rfl⟩:=bp.1 S;simp at z;subst z;exact C x hx
 .refine⟨?_,λc b=> ?_,λc b=> ?_,λc b=> .inl b⟩
  .have Q:Fr (λc=>c=m) h k:=Fr.no u F;exact Q.mono (λc _ e=>(H.mm c).2 (by rw[e,H.l1];simp))
  .by_cases e:c=y.b
   .exact .inr ae
   .have b:L c≠none:=b;rw[q c e]at b;exact .inl ((H.mm c).2 b)
  .rcases b with b|⟨_,b⟩
   .exact .inl b
   .exact .inr (v c b).1
end gm
end
end Go.Proofs.YtimiaphmdidfhaaGreatDoor
namespace Go.Proofs
open Go.Den
open IntKind (wrap)
open Int (toNat)
section
open Go.Shelf
def Tryz.MH:Go.Shelf.Ren:=⟨fun|5=>101|8=>158|7=>160|19=>233|20=>221|10=>234|11=>235|12=>236|13=>237|14=>238|15=>239|16=>240|17=>241|18=>242|30=>285|31=>281|32=>282|33=>286|34=>287|35=>288|40=>309|n=>n,fun|23=>128|25=>3|3=>3|32=>153|22=>128|0=>0|44=>329|46=>23|4=>4|36=>333|35=>332|41=>272|5=>5|9=>9|53=>379|57=>382|63=>402|64=>403|n=>n,fun|n=>n⟩
theorem Tryz.Se : Go.Proofs.SlLaysM.n5 Tryz.prog Tryz.MH := {
  mixed := by kernel_rfl
  f5 := ⟨Tryz.f101.name, by decide, Tryz.func101.trans (congrArg some (by kernel_rfl))⟩
  f7 := ⟨Tryz.f160.name, by decide, Tryz.func160.trans (congrArg some (by kernel_rfl))⟩
  f8 := Tryz.func158.trans (congrArg some (by kernel_rfl))
  f10 := ⟨Tryz.f234.name, by decide, Tryz.func234.trans (congrArg some (by kernel_rfl))⟩
  f11 := ⟨Tryz.f235.name, by decide, Tryz.func235.trans (congrArg some (by kernel_rfl))⟩
  f12 := ⟨Tryz.f236.name, by decide, Tryz.func236.trans (congrArg some (by kernel_rfl))⟩
  f13 := ⟨Tryz.f237.name, by decide, Tryz.func237.trans (congrArg some (by kernel_rfl))⟩
  f14 := ⟨Tryz.f238.name, by decide, Tryz.func238.trans (congrArg some (by kernel_rfl))⟩
  f15 := ⟨Tryz.f239.name, by decide, Tryz.func239.trans (congrArg some (by kernel_rfl))⟩
  f16 := ⟨Tryz.f240.name, by decide, Tryz.func240.trans (congrArg some (by kernel_rfl))⟩
  f17 := ⟨Tryz.f241.name, by decide, Tryz.func241.trans (congrArg some (by kernel_rfl))⟩
  f18 := ⟨Tryz.f242.name, by decide, Tryz.func242.trans (congrArg some (by kernel_rfl))⟩
  f19 := Tryz.func233.trans (congrArg some (by kernel_rfl))
  f20 := Tryz.func221.trans (congrArg some (by kernel_rfl))
  f30 := ⟨Tryz.f285.name, by decide, Tryz.func285.trans (congrArg some (by kernel_rfl))⟩
  f31 := Tryz.func281.trans (congrArg some (by kernel_rfl))
  f32 := Tryz.func282.trans (congrArg some (by kernel_rfl))
  f33 := ⟨Tryz.f286.name, by decide, Tryz.func286.trans (congrArg some (by kernel_rfl))⟩
  f34 := ⟨Tryz.f287.name, by decide, Tryz.func287.trans (congrArg some (by kernel_rfl))⟩
  f35 := ⟨Tryz.f288.name, by decide, Tryz.func288.trans (congrArg some (by kernel_rfl))⟩
  f40 := ⟨Tryz.f309.name, by decide, Tryz.func309.trans (congrArg some (by kernel_rfl))⟩
  t0 := Tryz.underlying0
  a0 := Tryz.isAgg0
  z0 := Tryz.sizeOf0
  v0 := Tryz.zeroValue0
  t3 := Tryz.underlying3
  a3 := Tryz.isAgg3
  z3 := Tryz.sizeOf3
  v3 := Tryz.zeroValue3
  t4 := Tryz.underlying4
  a4 := Tryz.isAgg4
  z4 := Tryz.sizeOf4
  v4 := Tryz.zeroValue4
  t5 := Tryz.underlying5
  a5 := Tryz.isAgg5
  z5 := Tryz.sizeOf5
  v5 := Tryz.zeroValue5
  t9 := Tryz.underlying9
  a9 := Tryz.isAgg9
  z9 := Tryz.sizeOf9
  v9 := Tryz.zeroValue9
  t22 := Tryz.underlying128
  a22 := Tryz.isAgg128
  z22 := Tryz.sizeOf128
  v22 := Tryz.zeroValue128
  t23 := Tryz.underlying128
  a23 := Tryz.isAgg128
  z23 := Tryz.sizeOf128
  v23 := Tryz.zeroValue128
  t25 := Tryz.underlying3
  a25 := Tryz.isAgg3
  z25 := Tryz.sizeOf3
  v25 := Tryz.zeroValue3
  t32 := Tryz.underlying153
  a32 := Tryz.isAgg153
  z32 := Tryz.sizeOf153
  v32 := Tryz.zeroValue153
  t35 := Tryz.underlying332
  a35 := Tryz.isAgg332
  z35 := Tryz.sizeOf332
  v35 := Tryz.zeroValue332
  t36 := Tryz.underlying333
  a36 := Tryz.isAgg333
  z36 := Tryz.sizeOf333
  v36 := Tryz.zeroValue333
  t41 := Tryz.underlying272
  a41 := Tryz.isAgg272
  z41 := Tryz.sizeOf272
  v41 := Tryz.zeroValue272
  t44 := Tryz.underlying329
  a44 := Tryz.isAgg329
  z44 := Tryz.sizeOf329
  v44 := Tryz.zeroValue329
  t46 := Tryz.underlying23
  a46 := Tryz.isAgg23
  z46 := Tryz.sizeOf23
  v46 := Tryz.zeroValue23
  t53 := Tryz.underlying379
  a53 := Tryz.isAgg379
  z53 := Tryz.sizeOf379
  v53 := Tryz.zeroValue379
  t57 := Tryz.underlying382
  a57 := Tryz.isAgg382
  z57 := Tryz.sizeOf382
  v57 := Tryz.zeroValue382
  t63 := Tryz.underlying402
  a63 := Tryz.isAgg402
  z63 := Tryz.sizeOf402
  v63 := Tryz.zeroValue402
  t64 := Tryz.underlying403
  a64 := Tryz.isAgg403
  z64 := Tryz.sizeOf403
  v64 := Tryz.zeroValue403 }

end
end Go.Proofs
namespace Go.Proofs.YtimiaphmdidfhaaGreatDoor
open Go.Den
open IntKind (wrap)
open Int (toNat)
section
open Go.Sort
namespace Wc
variable {h:aj} {R:fD} {p:ck} {n c:Nat} {x:List Int}
abbrev iv(X:Int):Value:=.int .i64 X
theorem Fo(o:fz h p n c 1 (x.map iv))(I:n=x.length)(T:x.Nodup)(F:n<=60000)(E: ∀f (z:List Int),fz f p n c 1 (z.map iv)->z.Perm x->z.Pairwise (· < ·)->Fr (aN p) h f->R (.T #[]) f):
  Cl 101 #[.L p n c] h R:=by
 subst I;intro w r;cases o with
 |nil m G i D=>
  obtain rfl:=List.eq_nil_of_length_eq_zero G;refine(AnyM.slices_Sort_int_none Tryz.Se p c w).mono ?_;rintro e Z ⟨rfl,rfl⟩;exact⟨_,rfl,E _ [] (by rw[r];exact .nil m rfl i rfl) (.refl _) .nil (by rw[r];exact Fr.refl _ _),fX.refl _⟩
 |row b O C t m d g i A D=>
  subst m;subst r;have B: ∀(z:List Int)(j:Nat),j<z.length->z.toArray[j]! =z.getD j 0:=λz j H=>by
   simp[getElem!_pos,H]
  refine(AnyM.slices_Sort_int Tryz.Se b O c x w (λj H=> ?_) (aC d) ae).mono ?_
  .have H:j<x.length:=by simpa using H
   refine⟨?_,by rw[sD];exact mi d⟩;rw[kV,kO d,B x j H];exact D j _ (by rw[aD,ai H,bk,ai H];rfl)
  .rintro e Z ⟨rfl,k,u,rfl⟩;have P:=List.mergeSort_perm x λX y=>decide (X<=y)
   have S:(x.mergeSort λX y=>decide (X<=y)).Pairwise (· < ·):=by
    have U:=List.pairwise_mergeSort (le:=λ(X y:Int)=>decide (X<=y)) (λa b c g A=>by simp at g A⊢;omega) (λa b=>by simp;omega) x;have V:(x.mergeSort λX y=>decide (X<=y)).Nodup:=P.nodup_iff.2 T;exact(U.and V).imp fun {a b} h=>by have:=aS h.1;have:=h.2;omega
   generalize (x.mergeSort λX y=>decide (X<=y))=z at P S⊢;have Q:z.length=x.length:=P.length_eq;have L: ∀X,X<w.heap.size->X≠b->(w.heap.modify b (onCells (putCells (Value.int .i64) O z.toArray))++u)[X]? =w.heap[X]? :=λX s J=>by
    rw[dR (cI s),dE,af (λe=>J e.symm)]
   have K:(w.heap.modify b (onCells (putCells (Value.int .i64) O z.toArray))++u)[b]? =some (.C (putCells (Value.int .i64) O z.toArray C) t (0,0)):=by
    rw[dR (cI (aC d)),dE,ag rfl,d];rfl
   refine⟨_,rfl,E _ z (.row b O _ t rfl K g (by unfold putCells;rw[Array.size_mapIdx];exact i) (by simp[Q]) λj v H=> ?_) P S ?_,⟨rfl,rfl,rfl⟩⟩
   .rw[aD]at H;have l:j<z.length:=by
     rcases Nat.lt_or_ge j z.length with q|q
     .exact q
     .rw[cY q]at H;cases H
    rw[ai l]at H;obtain rfl:=aZ H;unfold putCells;have M:O+j<C.size:=ae
    rw[Array.getElem?_mapIdx,Array.getElem?_eq_getElem M,du,ag ⟨ae,by simp;omega⟩,show O+j - O=j by omega,B z j l,bk,ai l];rfl
   .refine⟨by show _<=(w.heap.modify b _++u).size;simp,λX s F=>L X s (λe=>F ⟨_,rfl,e.symm⟩)⟩

end Wc
end
section
open Go.kA
namespace gm
open jA cf
variable {h H:aj} {R:fD} {t:Nat} {X:Ft} {s:CF} {m A d:Nat} {a:List CV} {S b:Nat→Prop} {l:Nat→Option Nat} {p:ck} {n c:Nat}
theorem Wy:Tryz.prog.underlying 128=some (.slice 3):=dz
theorem fT(e:Cm h t X s m a A S d b l)(g:R (.B true) h):Cl 63 #[.P t 0] h R:=wv.walk ⟨_,ak e.cW,g⟩
def kU(a:List CV):List Int:=a.map (λx=>(x.num:Int))
theorem zW(e:Cm h t X s m a A S d b l):(kU a).Pairwise (· < ·):=by
 have:=e.so;rw[fu]at this;unfold kU;rw[fu];exact this.imp (λh=>ae)
theorem uR(q:Cm h t X s m a A S d b l)(hl:a.length<=60000)(hk: ∀H P z,fz H P a.length z 1 ((kU a).map gO)->(∀y,aN P y->h.size<=y)->Fr No h H->R (.L P a.length z) H):
  Cl 64 #[.P t 0] h R:=by
 refine si.walk (fT q ⟨_,rfl,aH.of λf' hJ=> ?_⟩);rw[ag rfl];refine⟨_,cB q.cW rfl,Aw oF q.map λo h1 e1 I B=>⟨_,rfl,?_⟩⟩;refine⟨λr O u g=> ∃D:List (Int×Value),O=D.length/\fz g r O u 1 ((D.map (·.1)).map gO)/\(∀y,aN r y->h.size<=y/\y≠o)/\Iter g o m gO (a.map CV.pair) D/\Fr No h g,λ_ O _ _=>a.length - O,
  ⟨[],rfl,.nil rfl rfl rfl rfl,(λy ⟨j,e,_⟩=>by cases e),I,B⟩,?_⟩
 rintro r O u g ⟨D,rfl,U,k,w,K⟩;have b':=w.le;rw[ay]at b';refine Du w (λL=> .inl ⟨rfl,?_⟩) (λj a' G hm i' I s1 o1=> .inr ⟨_,_,rfl,?_⟩)
 .subst hJ;dsimp only;have M:(D.map (·.1)).Perm (kU a):=by
   have:=L.map (·.1);rw[dJ]at this;exact this
  have Z:=zW q;have nd:(D.map (·.1)).Nodup:=M.nodup_iff.2 (Z.imp (λh=>ae));have c':D.length=a.length:=by rw[L.length_eq,ay]
  refine Wc.Fo U (by rw[ay]) nd ae λh3 zs T p3 s3 F=>⟨rfl,?_⟩
  have:zs=kU a:=List.Perm.eq_of_pairwise (le:=(· < ·)) (λj g' _ _ h1 h2=>ae) s3 Z (p3.trans M);subst this;rw[c']at T⊢;exact hk h3 r u T (λy i=>(k y i).1) (K.fresh F (λy i=>(k y i).1))
 .refine Az I ⟨_,_,rfl,_,rfl,cK ?_⟩;have F:Fr No G (G.push (.C #[.I j] 3)):=Fr.push _ _;have V:Row (G.push (.C #[.I j] 3)) (Sa G.size 0) [gO j]:=iT (cs:= [gO j]);have z3:(G.push (.C #[.I j] 3)).size=G.size+1:=dk _;generalize G.push (.C #[.I j] 3)=g3 at F V z3⊢;have J:Fr (λy=>y=o) g G:=⟨ae,λy _ hn=>o1 y hn⟩;have e':=(U.frame J (λy i e=>(k y i).2 e)).frame F (λ_ _=>id);have zf:=B.1;have v:Fr No h G:=K.fresh J (λy e=>ae);have F3:=v.tt F;have j':o<G.size:=by
   obtain⟨_,_,_,_,_,_,hr,_⟩:=I;exact aC hr
  refine dH (cs:=(D.map (·.1)).map gO) (ds:= [gO j]) tI Wy e' V rfl (λa' Q=>by simp at Q;subst Q;rfl) ae ae λp4 c4 g4 o4 _ E k4=>⟨_,_,_,rfl,?_⟩
  have d': ∀y,aN p4 y->h.size<=y/\y≠o:=by
   intro y i;rcases k4 y i with h5|h5
   .exact k y h5
   .have:=v.1;exact⟨ae,ae⟩
  refine⟨⟨D++ [(j,a')],bV,?_,d',?_,F3.fresh E (λy i=>(k y i).1)⟩,?_⟩
  .rw[aV,aV];exact o4
  .have h':m<h.size:=q.map.lt;exact(I.frame F id id).frame E (λi=>(k o i).2 rfl) (λi=>by have:=(k m i).1;omega)
  .have:=I.le;rw[au,ay,dF]at this;show a.length - (D.length+1)<a.length - D.length;omega
theorem look(g:Cm h t X s m a A S d b l){x:CV}(i:x∈a):iJ Tryz.prog 115 (.map (some m)) (.I (x.num:Int)) false h (.P x.b 0):=by
 have:=KB oF g.map (x.num:Int);have e:sW (a.map CV.pair) (x.num:Int)=some (.P x.b 0):=(Ds g.map.nodup).2 (bp.2 ⟨x,i,rfl⟩);rw[e]at this;exact this
theorem Rl(g:Cm h t X s m a A S d b l){n:Int}(j: ∀x∈a,(x.num:Int)≠n):iJ Tryz.prog 115 (.map (some m)) (.I n) false h (.pointer none):=by
 have:=KB oF g.map n;have e:sW (a.map CV.pair) n=none:=Dr.2 (λe i=>by obtain⟨x,k,rfl⟩:=bp.1 i;exact j x k);rw[e]at this;exact this
structure Env (h:aj) (t:Nat) (m:Nat) (a:List CV) (f C:Nat) (x:Ev):Prop where
 b0:h[f]? =some (.cells #[.pointer (some ⟨t,0,none⟩)] 38 (0,0))
 b1:Ev.at h C x
 cm: ∃X s A S d b l,Cm h t X s m a A S d b l
variable {f C : Nat} {x : Ev}
theorem PE(V:Env h t m a f C x){y:CV}(i:y∈a)(j:R (.B (!decide (y.e=x))) h):Cl 259 #[.I (y.num:Int),.P f 0,.P C 0] h R:=by
 obtain⟨X,s,A,S,d,b,l,g⟩:=V.cm;have e:=g.FQ y i;refine wx.walk ⟨_,ak V.b0,ax.2 ⟨_,ak g.cW,_,look g i,ax.2 ⟨_,ak e,_,ak e,_,ak e,_,ak e,_,ak e,?_⟩⟩⟩;exact az.ld V.b1 ⟨_,vD (x:=y.e) (y:=x) rfl rfl,j⟩
def lJ(a:List CV)(x:Ev)(n:Int):Bool:=a.any (λy=>decide ((y.num:Int)=n) && decide (y.e=x))
theorem xM(w:(kU a).Pairwise (· < ·)){y:CV}(o:y∈a):lJ a x (y.num:Int)=decide (y.e=x):=by
 unfold lJ;by_cases e:y.e=x
 .rw[aw e,List.any_eq_true];exact⟨y,o,by simp[e]⟩
 .rw[aB e,List.any_eq_false];intro z v;simp only[aU,aX,not_and];intro r;have:z=y:=by
   obtain⟨i,g⟩:=bO v;obtain⟨j,k⟩:=bO o;have u:(kU a).Nodup:=w.imp (λh=>ae);have q:=(aE.1 g).1;have:=(eE (l:=kU a) (i:=i) (j:=j) (by simpa[kU]using q) u).1 (by unfold kU;rw[aD,aD,g,k];simp[r]);subst this;rw[g]at k;exact aZ k
  rw[this];exact e
theorem Te{q:List Int}(V:Env h t m a f C x)(o:fz h p n c 1 (q.map gO))(I:n=q.length)(T:n<=60000)(J: ∀k∈q,∃y∈a,k=(y.num:Int))(L: ∀i,i<n->(∀j,j<i->∀k,q[j]? =some k->lJ a x k=true)->(∀k,q[i]? =some k->lJ a x k=false)->R (.I (i:Int)) h)(M:(∀k∈q,lJ a x k=true)->R (.I (-1)) h):
  Cl 293 #[.L p n c,.func (.func 259) #[] #[.P f 0,.P C 0]] h R:=by
 subst I;have O:(kU a).Pairwise (· < ·):=by obtain⟨X,s,A,S,d,b,l,E⟩:=V.cm;exact zW E
 refine iO.of.walk ?_;refine⟨λu g=>g=h/\∃i:Nat,u=(i:Int)/\i<=q.length/\∀j,j<i->∀k,q[j]? =some k->lJ a x k=true,λu _=>q.length - u.toNat,⟨rfl,0,rfl,bL _,λj w=>ae⟩,?_⟩;rintro _ g ⟨rfl,i,rfl,U,z⟩;by_cases B:i<q.length
 .rw[gk];have r:q[i]? =some q[i]:=ai B;generalize q[i]=k at r;obtain⟨y,D,rfl⟩:=J k (aK r);obtain⟨P,Q,rfl⟩:=o.addr ae;have F:=o.cell (j:=i) (v:=gO (y.num:Int)) (by rw[aD,r];rfl);simp only[aF,cp];refine⟨ae,ax.2 ⟨_,F,PE V D ⟨_,rfl,?_⟩⟩⟩;have K:=xM (x:=x) O D;by_cases e:y.e=x
  .rw[aw e,dB,bC ae ae];rw[aw e]at K;refine⟨⟨rfl,i+1,ae,ae,λj w k v=> ?_⟩,by show q.length - Int.toNat ((i:Int)+1)<q.length - i;omega⟩;by_cases G:j=i
   .subst G;rw[r]at v;cases v;exact K
   .exact z j ae k v
  .rw[aB e,gk];rw[aB e]at K;exact L i B z (λk v=>by rw[r]at v;cases v;exact K)
 .rw[af (by simp;omega)];exact M (λk r=>by
   obtain⟨j,w⟩:=bO r;exact z j (bR ((aE.1 w).1)) k w)
theorem JB{r:List Int}(V:Env h t m a f C x)(o:fz h p n c 1 (r.map gO))(L:n=r.length)(hb:n<=60000)(hs: ∀k∈r,∃y∈a,k=(y.num:Int))(hV: ∀g,Fr (aN p) h g->Env g t m a f C x)(B: ∀H M,fz H p (r.filter (lJ a x)).length M 1 ((r.filter (lJ a x)).map gO)->Fr (aN p) h H->R (.slice p (r.filter (lJ a x)).length M) H):
  Cl 258 #[.L p n c,.func (.func 259) #[] #[.P f 0,.P C 0]] h R:=by
 subst L;have so:(kU a).Pairwise (· < ·):=by obtain⟨X,s,A,S,d,b,l,d'⟩:=V.cm;exact zW d'
 have one: ∀v∈((.I 0:Value)).cells.toList,gw v=true:=λv hv=>by
  have:v=.I 0:=by simpa[Value.cells]using hv
  subst this;rfl
 refine mX.of.walk (Te V o rfl hb hs (λi hi G a'=>⟨_,rfl,?_⟩) (λG=>⟨_,rfl,?_⟩))
 .rw[af (by intro h;have h:=eq_of_beq h;omega),bC ae ae];have c':(r.take i).filter (lJ a x)=r.take i:=by
   rw[cD];intro k f';obtain⟨j,z⟩:=bO f';rw[df]at z;split at z
   .rename_i e';exact G j e' k z
   .cases z
  have b':(r.take (i+1)).filter (lJ a x)=r.take i:=by
   have B:r[i]? =some r[i]:=ai hi;rw[bt,B,gi,c'];simp[a' _ B]
  refine⟨λi' w g=> ∃(i j:Nat)(u:List Int),i'=(i:Int)/\w=(j:Int)/\i<=j/\j<=r.length/\u.length=r.length/\fz g p r.length c 1 (u.map gO)/\u.take i=(r.take j).filter (lJ a x)/\(∀q,j<=q->u[q]? =r[q]?)/\Fr (aN p) h g,λ_ w _=>r.length - w.toNat,
   ⟨i,i+1,r,rfl,ae,ae,ae,rfl,o,b'.symm,λ_ _=>rfl,Fr.refl _ _⟩,?_⟩
  clear c' b' G a';rintro _ _ g ⟨i,j,u,rfl,rfl,l',z,Z,O,D,J,F⟩;have K:((r.take j).filter (lJ a x)).length=i:=by rw[<-D,bw];omega
  by_cases h':j<r.length
  .rw[gk];refine aH.of λk' Q=> ?_
   have I:r[j]? =some r[j]:=ai h';generalize r[j]=k at I;obtain⟨y,hy,rfl⟩:=hs k (aK I);obtain⟨ab,ao,rfl⟩:=O.addr ae;have g':u[j]? =some (y.num:Int):=by rw[J j (bm _)];exact I
   have cc:=O.cell (j:=j) (v:=gO (y.num:Int)) (by rw[aD,g'];rfl);simp only[aF,cp];have kn:=xM (x:=x) so hy;have T:(r.take (j+1)).filter (lJ a x)=(r.take j).filter (lJ a x)++(if y.e=x then [(y.num:Int)]else []):=by
    rw[bt,I,gi];congr 1
    show [(y.num:Int)].filter (lJ a x)=_;rw[cC,kn];by_cases e:y.e=x<;>simp[e]
   refine⟨ae,ax.2 ⟨_,cc,PE (hV g F) hy ⟨_,rfl,aH.of λJ1 U=> ?_⟩⟩⟩;by_cases e:y.e=x
   .rw[aw e,gk];rw[ag e]at T;refine⟨ae,ax.2 (O.store (by rw[ay];omega) λP E s2 q2=> ?_)⟩;subst U;subst Q;have e2:(u.map gO).set i (.I (y.num:Int))=(u.set i (y.num:Int)).map gO:=by rw[List.map_set]
    rw[e2]at E;dsimp only;rw[bC (n:=(i:Int)+1) ae ae,bC (n:=(j:Int)+1) ae ae];refine⟨⟨i+1,j+1,_,ae,ae,ae,ae,by rw[dt];exact Z,E,?_,λq hq=> ?_,F.tt ⟨ae,λj' _ L=>q2 j' L⟩⟩,by show r.length - Int.toNat ((j:Int)+1)<r.length - j;omega⟩
    .rw[T,<-D,bt,List.getElem?_set_self ae];congr 1
     apply fE
     intro q;rw[df,df];split
     .rw[List.getElem?_set_ne ae]
     .rfl
    .rw[List.getElem?_set_ne ae];exact J q ae
   .rw[aB e,dB];rw[af e,List.append_nil]at T;subst U;subst Q;dsimp only;rw[bC (n:=(j:Int)+1) ae ae];exact⟨⟨i,j+1,u,rfl,ae,ae,ae,Z,O,by rw[T,D],λq hq=>J q ae,F⟩,by show r.length - Int.toNat ((j:Int)+1)<r.length - j;omega⟩
  .rw[af (by simp;omega)];obtain rfl:j=r.length:=ae
   rw[dT]at D K;simp only[aF,Nat.sub_zero];refine⟨ae,Dn tI one O ae λP E f2=>⟨rfl,⟨ae,bR O.le⟩,?_⟩⟩;rw[iU];rw[cp,<-List.map_take,D]at E;have:=B P c (by rw[K];exact E) (F.tt f2);rw[K]at this;exact this
 .rw[ag (by rfl)];have e:r.filter (lJ a x)=r:=by rw[cD];exact G
  have:=B h c (by rw[e];exact o) (Fr.refl _ _);rw[e]at this;exact this
theorem MI(g:(kU a).Pairwise (· < ·)):(kU a).filter (lJ a x)=kU (a.filter (λy=>decide (y.e=x))):=by
 unfold kU;rw[dQ];congr 1
 exact eM (λy e=>xM g e)
theorem wi(i:Cm h t X s m a A S d b l)(x:Ev)(D:a.length<=60000) (hk: ∀H P v,fz H P (a.filter (λy=>decide (y.e=x))).length v 1 ((kU (a.filter (λy=>decide (y.e=x)))).map gO)->(∀y,aN P y->h.size<=y)->Fr No h H->R (.slice P (a.filter (λy=>decide (y.e=x))).length v) H):
  Cl 189 #[.P t 0,lL x] h R:=by
 refine zj.walk (cK ?_);have j:Fr No h (h.push (.C #[.P t 0] 38)):=Fr.push _ _;have B:(h.push (.C #[.P t 0] 38))[h.size]? =some (.C #[.P t 0] 38 (0,0)):=bZ;have z1:(h.push (.C #[.P t 0] 38)).size=h.size+1:=dk _;generalize h.push (.C #[.P t 0] 38)=M at j B z1⊢;refine az.box λC Q e2 z F=>⟨_,ak (F.get B id),?_⟩
 have z2:=aC z;refine uR (i.on (j.tt F)) D λw I l3 o3 G o=>⟨_,_,_,rfl,?_⟩
 have r:=j.tt (F.tt o);have u:=i.on r;have zf:=F.1;have V:Env w t m a h.size C x:=⟨(F.tt o).get B id,o.get z id,X,s,A,S,d,b,l,u⟩;have U: ∀g,Fr (aN I) w g->Env g t m a h.size C x:=λg q=>
  ⟨q.get V.b0 (λe=>bR (G _ e)),q.get V.b1 (λe=>bR (G _ e)),X,s,A,S,d,b,l,u.frame q (λy e Z=>by
   have M:=G y Z;have Q:y<h.size:=(Ct.lt (s:=s) ⟨m,a,A,S,d,b,l,i⟩ y e);omega)⟩
 have nl:(kU a).length=a.length:=by unfold kU;rw[ay]
 refine JB V o3 nl.symm D (λk a'=>by
  obtain⟨y,e,rfl⟩:=bp.1 a';exact⟨y,e,rfl⟩) U λT J O L=>⟨_,_,_,rfl,?_⟩
 have E:=MI (x:=x) (zW i);have K:((kU a).filter (lJ a x)).length=(a.filter (λy=>decide (y.e=x))).length:=by rw[E];unfold kU;rw[ay]
 rw[K]at O⊢;rw[E]at O;exact hk T I J O (λy e=>bR (G y e)) (r.fresh L (λy e=>bR (G y e)))
end gm
end
end Go.Proofs.YtimiaphmdidfhaaGreatDoor
