/-
  FD is proved here: parts of x4 proof, one behind x4 other (texts of this work, merged by a program; IX x4 theorem IY not use is left out). No condition.
-/
import Derived.Test.YtlenamcfacpheaaGreatDoorProg
import Derived.Shelf.SortM.Plain
import Derived.Shelf.SortM.SortNone
import Derived.Ground.SlgmProg
import Derived.Test.YtlenamcfacpheaaGreatDoorMArtsd
set_option maxRecDepth 100000
set_option maxHeartbeats 4000000
namespace Go.Proofs.YtlenamcfacpheaaGreatDoor
open Go.Den
open IntKind (wrap)
open Int (toNat)
section
open Go.fT Go.jU
namespace gV
open kK
variable {h h':ai} {b:Nat} {X:Ft} {R:fp} {p q:cy} {c d i:Nat} {L:List E}
structure It where
 num:Nat
 owner:Int
 d:cD
 cf:Nat
structure IV where
 num:Nat
 owner:Int
 v:BV
 cf:Nat
def IV.abs(x:IV):It:=⟨x.num,x.owner,x.v.b,x.cf⟩
abbrev ga(x:IV):List Value:= [.int .i64 (x.num:Int),.int .i64 x.owner,x.v.val,.int .u64 (x.cf:Int)]
theorem gZ(x:IV):(ga x).length=4:=rfl
theorem EM(xs:List IV): ∀v∈xs.flatMap ga,fR v=true:=by
 intro v e;obtain⟨a,_,H⟩:=List.mem_flatMap.1 e;simp at H;rcases H with rfl|rfl|rfl|rfl<;>rfl
abbrev IV.agg(x:IV):Value:=.agg #[.int .i64 (x.num:Int),.int .i64 x.owner,x.v.val,.int .u64 (x.cf:Int)]
theorem tI:oy Tryz.prog 86 119 4 48 (.agg #[.I 0,.I 0,.Z,.U 0]):=⟨dj,dj,rfl⟩
theorem uI:Tryz.prog.underlying 86=some (.slice 119):=dj
theorem Tt:Tryz.prog.underlying 3=some (.int .i64):=dj
structure BS where
 items:List It
 next:Nat
 taken:Nat
 rC:Nat
 over:Nat
structure Mm (h:ai) (b:Nat) (X:Ft) (s:BS) (L:List E) (t:cy) (r:Nat) (xs:List IV) (a:Nat) (S:Nat->Prop):Prop where
 cT:h[b]? =some (.cells #[.slice t xs.length r,.int .i64 (s.next:Int),.int .i64 (s.taken:Int),.int .i64 (s.rC:Int),.int .i64 (s.over:Int),.pointer (some ⟨a,0,none⟩)] 145 (0,0))
 own:fJ h t xs.length r 4 (xs.flatMap ga)
 al:bW.Al h a S L
 abs:xs.map IV.abs=s.items
 C8: ∀x∈xs,x.v.ok h X.D
 m: ∀c,X.M c↔c=b\/aR t c\/S c
 bl: ¬aR t b
 bs: ¬S b
 ls: ∀c,aR t c->¬S c
 tH: ∀c,X.M c->¬X.D c
 EN: ∀c,X.D c->c<h.size
def Bx(h:ai)(b:Nat)(X:Ft)(s:BS)(L:List E):Prop:= ∃t r xs a S,Mm h b X s L t r xs a S
variable {s : BS} {t : Option Addr} {r a : Nat} {xs : List IV} {S : Nat → Prop}
theorem Mm.lt(H:Mm h b X s L t r xs a S)(y:Nat)(hy:X.M y\/X.D y):y<h.size:=by
 rcases hy with hy|hy
 .rcases(H.m y).1 hy with rfl|h1|h1
  .exact aD H.cT
  .exact H.own.dY h1
  .exact H.al.lt h1
 .exact H.EN y hy
theorem Bx.lt(H:Bx h b X s L)(y:Nat)(e:X.M y\/X.D y):y<h.size:=by
 obtain⟨t,r,xs,a,S,H⟩:=H;exact H.lt y e
theorem Mm.frame{Q:Nat->Prop}(H:Mm h b X s L t r xs a S)(f:Fr Q h h')(j: ∀y,X.M y\/X.D y->¬Q y):Mm h' b X s L t r xs a S:=
 have g: ∀y,X.M y->¬Q y:=λy e=>j y (.inl e)
 ⟨f.get H.cT (g b ((H.m b).2 (.inl rfl))),H.own.frame f (λy e=>g y ((H.m y).2 (.inr (.inl e)))),H.al.frame f (λy e=>g y ((H.m y).2 (.inr (.inr e)))),H.abs,λx k=>(H.C8 x k).frame f (λy e=>j y (.inr e)),H.m,H.bl,H.bs,H.ls,H.tH,λy e=>cC (H.EN y e) f.1⟩
theorem Bx.frame{Q:Nat->Prop}(H:Bx h b X s L)(f:Fr Q h h')(e: ∀y,X.M y\/X.D y->¬Q y):Bx h' b X s L:=by
 obtain⟨t,r,xs,a,S,H⟩:=H;exact⟨t,r,xs,a,S,H.frame f e⟩
theorem Mm.on(H:Mm h b X s L t r xs a S)(f:Fr No h h'):Mm h' b X s L t r xs a S:=H.frame f cb
theorem Mm.len(H:Mm h b X s L t r xs a S):xs.length=s.items.length:=by rw[<-H.abs,aF]
theorem fI(H:Mm h b X s L t r xs a S)(hk:R (.bool true) h):Cl 70 #[.P b 0] h R:=
 xm.walk ⟨_,ar H.cT,hk⟩
theorem iT(hk: ∀h' b X,Bx h' b X ⟨[],1,0,0,0⟩ []->Fr No h h'->(∀y,X.M y\/X.D y->h.size<=y)->R (.P b 0) h'):Cl 38 #[] h R:=by
 refine GK.walk (bW.iT λa S H A1 g f1=>⟨_,rfl,cF ?_⟩);have f2:Fr No H (H.push (.cells #[.Z,.I 1,.I 0,.I 0,.I 0,.P a 0] 145)):=Fr.push _ _;have z:=f1.1;refine hk _ H.size ⟨λy=>y=H.size\/aR none y\/S y,λ_=>False⟩ ⟨none,0, [],a,S,⟨bV,.nil rfl rfl rfl rfl,A1.frame f2 cb,rfl,(λx f=>by cases f),λ_=>eE,(λ⟨a,e,_⟩=>by cases e),λhs=> ?_,(λy ⟨a,e,_⟩=>by cases e),λ_ _=>id,λ_ hy=>hy.elim⟩⟩ (f1.tt f2) ?_
 .have:=A1.lt hs;omega
 .rintro y ((rfl|⟨a,e,_⟩|hs)|hy)
  .exact z
  .cases e
  .exact g y hs
  .exact hy.elim
theorem qO{x j k:Int}{bs:cD}{n m:Nat}(D:Row h p (bc bs))(f:n=bs.length)(A:bs.length<=70368744177664)(hk: ∀h' P c',fJ h' P bs.length c' 1 (bc bs)->Fr No h h'->(∀y,aR P y->h.size<=y)->R (.agg #[.I x,.I j,.slice P bs.length c',.U k]) h'):
  Cl 88 #[.agg #[.I x,.I j,.slice p n m,.U k]] h R:=by
 subst f;refine AG.walk (aH.box λb1 Q M u f1=>aH.box λB T N w f2=> ?_);have v:=f2.get u id;refine⟨_,_,_,ar v,gF (D.frame (f1.tt f2) cb) rfl A λz C g O f3 G=>⟨_,_,_,rfl,?_⟩⟩;have l1:=aD u;have l2:=aD w;have K:=f3.get v id;have E:aH.at g B 0 0 none 0 0 0:=f3.get w id;have Z:=f1.1;have U:=f2.1;have ne:B≠b1:=ag
 refine bw K bP λl a1 a2 a3=> ?_
 have I:aH.at l b1 x j z bs.length C k:=a1;refine aH.ld I ?_;have J:aH.at l B 0 0 none 0 0 0:=(a3 B ne).trans E;refine aH.set J λo d1 d2 d3=>aH.ld d1 ?_
 have f4:Fr (λy=>y=b1\/y=B) g o:=⟨ag,λy H f=>by rw[d3 y (λe=>f (.inr e)),a3 y (λe=>f (.inl e))]⟩;have F:Fr No h g:=f1.tt (f2.tt f3);refine hk o z C (O.frame f4 (λy H e=>bY (G y H))) (F.fresh f4 (λy H=>ag)) (λy H=>bY (G y H))
def vM(owner:Int)(n:Nat)(cf:Int):Bool:=decide (1<=owner) && decide (owner<=1099511627776) && decide (1<=n) && decide (n<=600) && decide (cf<=1099511627776)
theorem GL{owner cf:Int}{n:Nat}:vM owner n cf=true↔1<=owner/\owner<=1099511627776/\1<=n/\n<=600/\cf<=1099511627776:=by simp[vM,and_assoc]
theorem e8{l x k:Int}{n m:Nat}(hk: gL h R (.bool (vM x n k))):
  Cl 280 #[.agg #[.I l,.I x,.slice p n m,.U k]] h R:=by
 refine C7.walk (aH.box λb1 H E e f1=>⟨_,ar e,?_⟩);have hk:=hk H f1;unfold vM at hk;by_cases H:1<=x
 .rw[af (cA H)];refine⟨_,ar e,?_⟩;by_cases f:x<=1099511627776
  .rw[af (cA f)];refine⟨_,_,_,ar e,?_⟩;by_cases g:1<=n
   .rw[af (by simp;omega)];refine⟨_,_,_,ar e,?_⟩;by_cases j:n<=600
    .rw[af (by simp;omega)];refine⟨_,ar e,?_⟩;simpa[H,f,g,j]using hk
    .rw[ae (by simp;omega)];simpa[j]using hk
   .rw[ae (by simp;omega)];simpa[g]using hk
  .rw[ae (cA f)];simpa[f]using hk
 .rw[ae (cA H)];simpa[H]using hk
def xr(xs:List It)(num:Int):Option Nat:=xs.findIdx? (λa=>decide ((a.num:Int)=num))
def qj(xs:List It)(num:Int):Int:=match xr xs num with|some k=>(k:Int)|none=> -1
abbrev zC(h:ai)(b:Nat)(num:Int):Prop:=h[b]? =some (.cells #[.int .i64 num] 3 (0,0))
theorem MG{b:Nat}{num:Int}(x:IV)(hid:zC h b num)(hk: gL h R (.bool (decide ((x.num:Int)=num)))):Cl 173 #[x.agg,.P b 0] h R:=by
 refine uj.walk (aH.box λb1 H E f f1=>⟨_,ar f,_,ar (f1.get hid (λx=>x)),?_⟩);have e:((x.num:Int)==num)=decide ((x.num:Int)=num):=by
  by_cases q:(x.num:Int)=num<;>simp[q]
 rw[e];exact hk H f1
theorem qk{xs:List IV}{n m b:Nat}{num:Int}(A:Row h p (xs.flatMap ga))(z:n=xs.length)(D:xs.length<=1000000000)(hid:zC h b num)(hk: gL h R (.I (qj (xs.map IV.abs) num))):
  Cl 153 #[.slice p n m,.func (.func 173) #[] #[.P b 0]] h R:=by
 subst z;refine fh.find.walk ?_;refine⟨λi h'=>Fr No h h'/\∃k:Nat,i=(k:Int)/\k<=xs.length/\∀j (H:j<xs.length),j<k->(xs[j].num:Int)≠num,λi _=>xs.length - i.toNat,⟨Fr.refl _ _,0,rfl,ag,λj _ H=>ag⟩,?_⟩;rintro _ l ⟨f1,k,rfl,C,f⟩;have u:=A.frame f1 (λ_ _ x=>x);have y:zC l b num:=f1.get hid (λx=>x);by_cases o:k<xs.length
 .have q1:(k:Int)<(xs.length:Int):=ag
  simp only[q1,bC,bj,aI];have g:xs[k]? =some xs[k]:=aj o;obtain⟨a,rfl⟩:=u.some (λe=>by have:=bU List.length e;rw[eU ga 4 gZ,bz]at this;omega);refine⟨⟨ag,by first|trivial|omega⟩,aw.2 (aH.FA (u.gJ gZ g) ?_)⟩;refine MG xs[k] y λv f2=>⟨_,rfl,?_⟩
  by_cases e:(xs[k].num:Int)=num
  .simp only[e,bC,bj];have:qj (xs.map IV.abs) num=(k:Int):=by
    unfold qj xr;have:(xs.map IV.abs).findIdx? (λa=>decide ((a.num:Int)=num))=some k:=by
     rw[cp];refine⟨by rw[aF];exact o,?_,λj H=> ?_⟩
     .rw[List.getElem_map];exact av e
     .rw[List.getElem_map,Bool.not_eq_true];exact az (f j ag H)
    rw[this]
   rw[this]at hk;exact hk v (f1.tt f2)
  .simp only[e,bp,au,aM];rw[bD ag ag];refine⟨⟨f1.tt f2,k+1,ag,ag,λj H B=> ?_⟩,?_⟩
   .by_cases q:j=k
    .subst q;exact e
    .exact f j H ag
   .show xs.length - Int.toNat ((k:Int)+1)<xs.length - Int.toNat (k:Int);omega
 .have q1: ¬(k:Int)<(xs.length:Int):=ag
  simp only[q1,bp,au,aM];have:qj (xs.map IV.abs) num= -1:=by
   unfold qj xr;have:(xs.map IV.abs).findIdx? (λa=>decide ((a.num:Int)=num))=none:=by
    rw[cY];intro a w;obtain⟨x,g,rfl⟩:=bh.1 w;obtain⟨j,H,rfl⟩:=List.mem_iff_getElem.1 g;exact az (f j H ag)
   rw[this]
  rw[this]at hk;exact hk l f1
theorem gH{num:Int}(H:Mm h b X s L t r xs a S)(g:s.items.length<=1000000000)(hk: gL h R (.I (qj s.items num))):Cl 122 #[.P b 0,.I num] h R:=by
 refine xo.walk (cF ?_);have f1:Fr No h (h.push (.cells #[.I num] 3)):=Fr.push _ _;have e:=H.on f1;have j:=H.len;refine⟨_,_,_,ar e.cT,qk e.own.iw rfl ag bV λf f2=>⟨_,rfl,?_⟩⟩;rw[H.abs];exact hk f (f1.tt f2)
theorem OO{n:Nat}(j:n<=1000000)(hk: ∀P c' h',fJ h' P 0 c' 4 []->Fr No h h'->(∀y,aR P y->h.size<=y)->R (.slice P 0 c') h'):
  Cl 199 #[.Z,.I (n:Int)] h R:=by
 refine jm.walk ?_;simp only[aG];have Q: ¬(n:Int)<0:=ag
 have e1:IntKind.wrap .i64 (((0:Nat):Int) - ((0:Nat):Int))=0:=rfl;have e2:IntKind.wrap .i64 ((n:Int) - 0)=(n:Int):=by rw[bD ag ag];omega
 rw[e1,e2];simp only[Q,bp,au,aM];by_cases H:n=0
 .subst H;rw[ae bP];exact hk none 0 h (.nil rfl rfl rfl rfl) (Fr.refl _ _) (λy ⟨a,e,_⟩=>by cases e)
 .have q1:(n:Int)>0:=ag
  simp only[q1,bC,bj];refine⟨ag,?_⟩;have E:cO none 0 0 4=none:=jN _ _ _;rw[E];refine LB tI Tt ag ag ag λC h' o g f=>⟨_,_,_,rfl,ag,?_⟩
  rw[jN];exact hk _ C h' o f (λy ⟨a,e,e2⟩=>by cases e;exact Nat.le_of_eq e2)
theorem BC{w x:cy}{n1 c1 n2 c2:Nat}{u ws:List IV}(A:Row h (Sa c 0) [.slice w n1 c1,.slice x n2 c2])(r1:Row h w (u.flatMap ga))(e1:n1=u.length)(r2:Row h x (ws.flatMap ga))(e2:n2=ws.length)(U:u.length+ws.length<=1000)(hk: ∀P c' h',fJ h' P (u++ws).length c' 4 ((u++ws).flatMap ga)->Fr No h h'->(∀y,aR P y->h.size<=y)->R (.slice P (u++ws).length c') h'):
  Cl 172 #[.slice (Sa c 0) 2 2] h R:=by
 subst e1 e2;have c0: ∀{g:ai},Fr No h g->bg g (((AA c 0):Addr).add (0*1))=some (.slice w u.length c1):=λf=>(A.frame f cb).cell (j:=0) rfl
 have C: ∀{g:ai},Fr No h g->bg g (((AA c 0):Addr).add (1*1))=some (.slice x ws.length c2):=λf=>(A.frame f cb).cell (j:=1) rfl
 refine jc.walk ?_;refine⟨λsize i g=>g=h/\((i=0/\size=0)\/(i=1/\size=(u.length:Int))\/(i=2/\size=((u.length+ws.length:Nat):Int))),λ_ i _=>2 - i.toNat,⟨rfl,.inl ⟨rfl,rfl⟩⟩,?_⟩;rintro size i g ⟨rfl,n⟩;rcases n with⟨rfl,rfl⟩|⟨rfl,rfl⟩|⟨rfl,rfl⟩
 .rw[af (by rfl)];refine aG.of λJ m=>⟨ag,aw.2 ⟨_,_,_,c0 (Fr.refl _ _),aG.of λB H=> ?_⟩⟩
  have e:IntKind.wrap .i64 (0+(u.length:Int))=(u.length:Int):=by rw[bD ag ag];omega
  rw[e]at H;rw[e,ae (by simp<;>omega)];subst H;subst m;exact⟨⟨rfl,.inr (.inl ⟨rfl,rfl⟩)⟩,by show 2 - Int.toNat 1<2 - Int.toNat 0;decide⟩
 .rw[af (by rfl)];refine aG.of λJ m=>⟨ag,aw.2 ⟨_,_,_,C (Fr.refl _ _),aG.of λB H=> ?_⟩⟩
  have e:IntKind.wrap .i64 ((u.length:Int)+(ws.length:Int))=((u.length+ws.length:Nat):Int):=by rw[bD ag ag];omega
  rw[e]at H;rw[e,ae (by simp<;>omega)];subst H;subst m;exact⟨⟨rfl,.inr (.inr ⟨rfl,rfl⟩)⟩,by show 2 - Int.toNat 2<2 - Int.toNat 1;decide⟩
 .rw[dc];refine OO ag λV Q T M f4 E=>⟨_,_,_,rfl,?_⟩
  refine⟨λnp nl nc i G=>Fr No g G/\(∀y,aR np y->g.size<=y)/\((i=0/\nl=0/\fJ G np nl nc 4 [])\/(i=1/\nl=u.length/\fJ G np nl nc 4 (u.flatMap ga))\/(i=2/\nl=(u++ws).length/\fJ G np nl nc 4 ((u++ws).flatMap ga))),λ_ _ _ i _=>2 - i.toNat,⟨f4,E,.inl ⟨rfl,rfl,M⟩⟩,?_⟩;rintro np nl nc i G ⟨F,k,n⟩;rcases n with⟨rfl,rfl,o⟩|⟨rfl,rfl,o⟩|⟨rfl,rfl,o⟩
  .rw[af (by rfl)];refine⟨ag,aw.2 ⟨_,_,_,c0 F,?_⟩⟩;refine dT tI uI o (r1.frame F cb) (eU ga 4 gZ u) (EM u) ag ag λN D K O _ f6 l=>⟨_,_,_,rfl,?_⟩
   rw[dW,bL]at O;rw[bL];have z:=F.1;exact⟨⟨F.fresh f6 k,(λy v=>(l y v).elim (k y) (λI=>ag)),.inr (.inl ⟨rfl,rfl,O⟩)⟩,by show 2 - Int.toNat 1<2 - Int.toNat 0;decide⟩
  .rw[af (by rfl)];refine⟨ag,aw.2 ⟨_,_,_,C F,?_⟩⟩;refine dT tI uI o (r2.frame F cb) (eU ga 4 gZ ws) (EM ws) ag ag λN D K O _ f6 l=>⟨_,_,_,rfl,?_⟩
   rw[<-da,<-aA]at O;rw[<-aA];have z:=F.1;exact⟨⟨F.fresh f6 k,(λy v=>(l y v).elim (k y) (λI=>ag)),.inr (.inr ⟨rfl,rfl,O⟩)⟩,by show 2 - Int.toNat 2<2 - Int.toNat 1;decide⟩
  .rw[dc];exact hk np nc G o F k
theorem JV{L:List E}{k:Int}(hk:k∉keys L):fv L k=L:=by
 unfold fv;rw[cj];intro e H;have:e.1≠k:=λe2=>hk (e2▸bx H)
 simpa using this
theorem fJ.xY{h:ai}{p:cy}{xs:List IV}{cap l u:Nat}(f:Row h p (xs.flatMap ga))(H:l<=u)(e:u<=cap):Row h (cO p cap l 4) (((xs.take u).drop l).flatMap ga):=by
 have:=f.sub (cap:=cap) (l:=l) (u:=u) (sz:=4) H e;rwa[lO ga 4 gZ,lP ga 4 gZ]at this
def um(xs:List It)(i:Nat):List It:=xs.take i++xs.drop (i+1)
theorem yK{x:IV}(H:Mm h b X s L t r xs a S)(hl:s.items.length<=100)(hL:L.length<1000)(g:xs[i]? =some x)(hk: ∀h' Y,Bx h' b Y { s with items:=um s.items i } (fv L (x.num:Int))->bm X h Y h'->x.v.ok h' Y.D->R x.agg h'):
  Cl 121 #[.P b 0,.I (i:Int)] h R:=by
 have z':=H.len;have hi:=(aB.1 g).1;refine zy.walk (aH.box λb1 h1 x' c' f1=> ?_);have W:=H.on f1;obtain⟨n,o,rfl⟩:=H.own.addr ag;refine⟨_,_,_,ar W.cT,ag,aw.2 (aH.FA (by rw[aI];exact W.own.gJ gZ g) (aH.new λB j y' Z f2=> ?_))⟩;have w:=W.on f2;have u':aH.at j b1 0 0 none 0 0 0:=f2.get c' id;have z1:=f1.1;have z2:=f2.1;have l1:=aD c';have l2:=aD Z;have ne:B≠b1:=ag
 have nX: ∀y,h.size<=y->¬(X.M y\/X.D y):=λy hy g=>by have:=H.lt y g;omega
 refine⟨_,ar w.cT,_,ar Z,?_⟩;have rest: ∀f,bW.Al f a S (fv L (x.num:Int))->Fr S j f->
   f[b]? =some (.cells #[.slice (Sa n o) xs.length r,.I (s.next:Int),.I (s.taken:Int),.I (s.rC:Int),.I (s.over:Int),.P a 0] 145 (0,0))/\
   Row f (Sa n o) (xs.flatMap ga)/\aH.at f b1 0 0 none 0 0 0/\aH.at f B (x.num:Int) x.owner x.v.p x.v.b.length x.v.c (x.cf:Int):=by
  intro f A f7;have nS: ∀y,h.size<=y->¬S y:=λy hy F=>by have:=H.al.lt F;omega
  exact⟨f7.get w.cT H.bs,w.own.iw.frame f7 (λa' ea F=>H.ls _ ⟨a',ea,rfl⟩ F),f7.get u' (nS b1 ag),f7.get Z (nS B ag)⟩
 have fin: ∀f,bW.Al f a S (fv L (x.num:Int))->Fr S j f->∀P C k,Fr No f k->fJ k P (xs.take i++xs.drop (i+1)).length C 4 ((xs.take i++xs.drop (i+1)).flatMap ga)->(∀y,aR P y->f.size<=y)->
   aS k (AA b 0) (.slice P (xs.take i++xs.drop (i+1)).length C) λD=>
    ∃(l':Int),bg D (AA B 0)=some (.I l')/\∃(m':Int),bg D (AA B 1)=some (.I m')/\∃(p':cy)(o' n':Nat),bg D (AA B 2)=some (.slice p' o' n')/\∃(q':Int),bg D (AA B 3)=some (.U q')/\
    aS D (AA b1 0) (.I l') λr'=>
    aS r' (AA b1 1) (.I m') λs'=>
    aS s' (AA b1 2) (.slice p' o' n') λt'=>
    aS t' (AA b1 3) (.U q') λE=>
    ∃(e':Int),bg E (AA b1 0)=some (.I e')/\∃(f':Int),bg E (AA b1 1)=some (.I f')/\∃(j':cy)(i' g':Nat),bg E (AA b1 2)=some (.slice j' i' g')/\∃(k':Int),bg E (AA b1 3)=some (.U k')/\
    R (.agg #[.I e',.I f',.slice j' i' g',.U k']) E:=by
  intro f A f7 P C k f9 O G;obtain⟨K,_,k3,k4⟩:=rest f A f7;have lb:=aD H.cT;have z7:=f7.1;have z9:=f9.1;refine bw (f9.get K id) bP λz a1 a2 a3=> ?_
  have i2:aH.at z B (x.num:Int) x.owner x.v.p x.v.b.length x.v.c (x.cf:Int):=(a3 B ag).trans (f9.get k4 id);refine aH.ld i2 ?_;have i1:aH.at z b1 0 0 none 0 0 0:=(a3 b1 ag).trans (f9.get k3 id);refine aH.set i1 λQ d1 d2 d3=>aH.ld d1 ?_
  have f10:Fr (λy=>y=b) k z:=Fr.of_eq a2 a3;have f14:Fr (λy=>y=b1) z Q:=Fr.of_eq d2 d3;have F2:Fr No h j:=f1.tt f2;have F7:Fr S h f:=Fr.no F2 f7;have F9:Fr S h k:=F7.tt (f9.mono (λ_ _ g=>g.elim));have U:Fr (λy=>S y\/y=b) h z:=(F9.mono (λ_ _ g=> .inl g)).tt (f10.mono (λ_ _ g=> .inr g));have V:Fr X.M h Q:=by
   refine⟨cW U.1 f14.1,λy hy hn=> ?_⟩;rw[f14.2 y (cC hy U.1) (λe=>ag),U.2 y hy (λg=>hn ((H.m y).2 (g.elim (λh=> .inr (.inr h)) .inl)))]
  have v': ∀y,aR P y->¬S y:=λy hy F=>by have:=G y hy;have:=H.al.lt F;omega
  have d': ∀y,aR P y->y≠b:=λy hy e=>by have:=G y hy;omega
  have w': ∀y,aR P y->y≠b1:=λy hy e=>by have:=G y hy;omega
  have b': ∀v:IV,v∈xs->v.v.ok Q X.D:=λv hv=>(H.C8 v hv).frame V (λy hd T=>H.tH y T hd)
  refine hk Q ⟨λy=>y=b\/aR P y\/S y,X.D⟩ ⟨P,C,xs.take i++xs.drop (i+1),a,S,⟨?_,(O.frame f10 d').frame f14 w',?_,?_,?_,λ_=>eE,λg=>d' b g rfl,H.bs,v',?_,λy hy=>cC (H.EN y hy) V.1⟩⟩ ⟨V,?_,λ_=> .inl,λ_=>id⟩ (b' x (bn g))
  .rw[d3 b ag,a1];simp
  .have A9:=A.frame f9 cb;exact(A9.frame f10 (λy hy e=>H.bs (e▸hy))).frame f14 (λy hy e=>bY (H.al.lt hy))
  .show _=um s.items i;unfold um;rw[<-H.abs,aZ,List.map_take,List.map_drop]
  .intro v hv;refine b' v ?_;rcases bM.1 hv with hv|hv
   .exact List.mem_of_mem_take hv
   .exact fF hv
  .rintro y (rfl|hy|hy) hd
   .exact H.tH _ ((H.m _).2 (.inl rfl)) hd
   .have:=G y hy;have:=H.EN y hd;omega
   .exact H.tH _ ((H.m _).2 (.inr (.inr hy))) hd
  .rintro y (rfl|hy|hy)
   .exact .inl ((H.m _).2 (.inl rfl))
   .right;have:=G y hy;omega
   .exact .inl ((H.m _).2 (.inr (.inr hy)))
 have ew:IntKind.wrap .i64 ((i:Int)+1)=((i+1:Nat):Int):=by rw[bD ag ag];omega
 have cap:=H.own.le;rw[ew];simp only[aI,Nat.sub_zero];refine bW.oH w.al ag _ (λT f A f7=>⟨_,rfl,?_⟩) (λT=>⟨_,rfl,?_⟩)
 .obtain⟨K,k2,k3,k4⟩:=rest f A f7;refine⟨_,_,_,ar K,ag,_,_,_,ar K,ag,cF ?_⟩;have f8:Fr No f (f.push (.cells #[.slice (cO (Sa n o) r 0 4) i r,.slice (cO (Sa n o) r (i+1) 4) (xs.length - (i+1)) (r - (i+1))] 86)):=Fr.push _ _;have m:=f8.get K id;refine⟨ar m,ar m,?_⟩;have J:=k2.frame f8 cb;have M:=fJ.xY (l:=0) (u:=i) (cap:=r) J ag ag;have N:=fJ.xY (l:=i+1) (u:=xs.length) (cap:=r) J ag ag;rw[gv]at M;rw[fb]at N;refine BC jl M (by rw[bB];omega) N (by rw[bF]) (by rw[bB,bF];omega) λP C k O f9 G=>⟨_,_,_,rfl,?_⟩
  have I:=f9.get m id;exact⟨ar I,ar I,fin f A f7 P C k (f8.tt f9) O (λy hy=>by have:=G y hy;rw[dJ]at this;omega)⟩
 .have A:bW.Al j a S (fv L (x.num:Int)):=by
   rw[JV T];exact w.al
  have f7:Fr S j j:=Fr.refl _ _;obtain⟨K,k2,k3,k4⟩:=rest j A f7;refine⟨_,_,_,ar K,ag,_,_,_,ar K,ag,cF ?_⟩;have f8:Fr No j (j.push (.cells #[.slice (cO (Sa n o) r 0 4) i r,.slice (cO (Sa n o) r (i+1) 4) (xs.length - (i+1)) (r - (i+1))] 86)):=Fr.push _ _;have m:=f8.get K id;refine⟨ar m,ar m,?_⟩;have J:=k2.frame f8 cb;have M:=fJ.xY (l:=0) (u:=i) (cap:=r) J ag ag;have N:=fJ.xY (l:=i+1) (u:=xs.length) (cap:=r) J ag ag;rw[gv]at M;rw[fb]at N;refine BC jl M (by rw[bB];omega) N (by rw[bF]) (by rw[bB,bF];omega) λP C k O f9 G=>⟨_,_,_,rfl,?_⟩
  have I:=f9.get m id;exact⟨ar I,ar I,fin j A f7 P C k (f8.tt f9) O (λy hy=>by have:=G y hy;rw[dJ]at this;omega)⟩
end gV
end
section
open Go.fT Go.jU
namespace gV
open bW (iY)
variable {L:List E} {s:BS} {items:List It} {now:Int}
variable {num:Int}
def It.kv(x:It):E:=((x.num:Int),(x.cf:Int))
structure okB (s:BS) (L:List E):Prop where
 le:s.items.length<=16
 pm:L.Perm (s.items.map It.kv)
 it: ∀x∈s.items,1<=x.num/\x.num<s.next/\1<=x.d.length/\x.d.length<=600/\1<=x.owner/\x.owner<=1099511627776/\x.cf<=1099511627776
 inc:(s.items.map It.num).Pairwise (· < ·)
 uo:s.next=1+s.items.length+s.taken+s.rC+s.over
theorem okB.nil:okB ⟨[],1,0,0,0⟩ []:=⟨bP,.refl _,bP,.nil,rfl⟩
def ph(items:List It)(num:Int):List It:=items.filter (λy=> !decide ((y.num:Int)=num))
theorem nI: ∀{items:List It}{i:Nat}{x:It},(items.map It.num).Pairwise (· < ·)->items[i]? =some x->um items i=ph items (x.num:Int)
 | [],i,x,_,h=>by simp at h
 |y::r,0,x,H,h=>by
  simp at h;subst h;rw[bX,dF]at H;unfold um ph;rw[ch];simp only[bC,cN,au,aM,dV,dW,List.drop_succ_cons,gv];symm
  rw[cj];intro z b;have:=H.1 z.num (bx b);have: ¬(z.num:Int)=(y.num:Int):=ag
  simp[this]
 |y::r,i+1,x,H,h=>by
  rw[bX,dF]at H;rw[dv]at h;have I:=nI H.2 h;have c:=H.1 x.num (bx (bn h));have a: ¬(y.num:Int)=(x.num:Int):=ag
  unfold um ph at I⊢;rw[ch];simp only[a,bp,dK,bj,fN,List.drop_succ_cons,eR];rw[I]
theorem zD(h:L.Perm (items.map It.kv)):(fv L num).Perm ((ph items num).map It.kv):=by
 have:=h.filter (λe=> !(e.1==num));unfold fv;refine this.trans ?_;rw[du];refine List.Perm.of_eq ?_;unfold ph;refine bU _ (dR ?_);intro x _;show(!((x.num:Int)==num))=_;by_cases q:(x.num:Int)=num<;>simp[q]
theorem okB.sub{i:List It}{l:List E}{t c o:Nat}(ok:okB s L)(h:i.Sublist s.items)(a:l.Perm (i.map It.kv))(H:s.next=1+i.length+t+c+o):okB ⟨i,s.next,t,c,o⟩ l:=
 ⟨cW h.length_le ok.le,a,λx b=>ok.it x (h.subset b),ok.inc.sublist (h.map _),H⟩
theorem zE{i:Nat}(h:xr items num=some i): ∃x,items[i]? =some x/\(x.num:Int)=num:=by
 unfold xr at h;rw[cp]at h;obtain⟨H,a,_⟩:=h;exact⟨_,aj H,cA a⟩
theorem MH(h:xr items num=none): ∀x∈items,(x.num:Int)≠num:=by
 unfold xr at h;rw[cY]at h;intro x H;simpa using h x H
theorem uniq(h:(items.map It.num).Pairwise (· < ·)){x y:It}(H:x∈items)(a:y∈items)(e:x.num=y.num):x=y:=by
 induction items with
 |nil=>cases H
 |cons z r i=>
  rw[bX,dF]at h;rcases bH.1 H with e1|Uz
  .rcases bH.1 a with e2|Tu
   .rw[e1,e2]
   .have:=h.1 y.num (bx Tu);rw[e1]at e;omega
  .rcases bH.1 a with e2|Tu
   .have:=h.1 x.num (bx Uz);rw[e2]at e;omega
   .exact i h.2 Uz Tu
theorem fS: ∀{L:List E},iQ L->bW.due L now=L.filter (iY now)/\bW.rest L now=L.filter (λe=> !iY now e)
 | [],_=>⟨rfl,rfl⟩
 |e::r,c=>by
  have b:=dF.1 c;obtain⟨i1,i2⟩:=fS (L:=r) b.2;unfold bW.due at i1⊢;unfold bW.rest at i2⊢;by_cases a:iY now e=true
  .rw[List.takeWhile_cons,List.dropWhile_cons,ch,ch,a];simp only[bj,cN,au,aM];rw[i1,i2];exact⟨rfl,rfl⟩
  .have H:iY now e=false:=by simpa using a
   have all: ∀x∈r,iY now x=false:=by
    intro x h;have h1:=b.1 x h;unfold iY at H⊢;have d:=fz H;apply az
    rcases h1 with h1|h1<;>omega
   rw[List.takeWhile_cons,List.dropWhile_cons,ch,ch,H];simp only[au,aM,dK,bj];refine⟨?_,?_⟩
   .symm;rw[List.filter_eq_nil_iff];intro x h;rw[all x h];simp
   .congr 1;symm;rw[cj];intro x h;rw[all x h];rfl
def mT(items:List It)(K:List Int):List It:=items.filter (λx=>decide ((x.num:Int)∉K))
theorem MI:mT items []=items:=by unfold mT;simp
theorem MJ{K:List Int}{k:Int}:ph (mT items K) k=mT items (K++ [k]):=by
 unfold ph mT;rw[List.filter_filter];apply dR
 intro x _;by_cases h:(x.num:Int)=k
 .simp[h]
 .by_cases H:(x.num:Int)∈K<;>simp[h,H]
theorem MK(ok:okB s L)(so:iQ L)(nd:(keys L).Nodup):mT s.items (keys (bW.due L now))=s.items.filter (λx=>decide (now<(x.cf:Int))):=by
 obtain⟨e1,_⟩:=fS (now:=now) so;unfold mT;apply dR
 intro x a;have c:x.kv∈L:=ok.pm.mem_iff.2 (bx a);by_cases H:now<(x.cf:Int)
 .simp only[H,bC,aV];intro hk;rw[e1]at hk;obtain⟨e,b,E⟩:=bh.1 hk;have h:=ba.1 b;obtain⟨y,d,rfl⟩:=bh.1 (ok.pm.mem_iff.1 h.1);have:y=x:=uniq ok.inc d a (by have:(y.num:Int)=(x.num:Int):=E;omega);subst this;have:=aU h.2;unfold It.kv at this;dsimp only at this;omega
 .simp only[H,bp,eN,Classical.not_not];rw[e1];refine bh.2 ⟨x.kv,ba.2 ⟨c,av ?_⟩,rfl⟩;unfold It.kv;dsimp only;omega
theorem BD(ok:okB s L)(so:iQ L):(bW.rest L now).Perm ((s.items.filter (λx=>decide (now<(x.cf:Int)))).map It.kv):=by
 rw[(fS (now:=now) so).2];refine(ok.pm.filter _).trans (List.Perm.of_eq ?_);rw[du];congr 1
 apply dR
 intro x _;show(!decide ((x.cf:Int)<=now))=_;by_cases q:now<(x.cf:Int)
 .simp[q]
 .simp[q];omega
theorem ML(ok:okB s L)(so:iQ L):(bW.due L now).Perm ((s.items.filter (λx=>decide ((x.cf:Int)<=now))).map It.kv):=by
 rw[(fS (now:=now) so).1];refine(ok.pm.filter _).trans (List.Perm.of_eq ?_);rw[du];rfl

end gV
end
section
variable {h:ai} {R:fp}
variable {p:Nat} {owner n:Int}
theorem vN.walk(H: ∃t9,Cc h p 2 (.map t9)/\R (.bool (!t9.isNone)) h):Cl 174 #[.P p 0] h R:=aO (lq ll) Tryz.func174 H
theorem JW.walk{w:Int}{s:Int}(d:aG (λ(t20:Bool) (H:ai)=>if t20 then R (.tuple #[.pointer none,.I 1]) H else aQ H (.map #[] 0) λb a=>aQ a (.cells #[.I w,.I s,.map (some b),.I 0] 169) λB c=>R (.tuple #[.P B 0,.I 0]) c) (λJ=>if(decide (w<1))then J true h else if(decide (w>1048576))then J true h else if(decide (s<1))then J true h else J (decide (s>w)) h)):Cl 34 #[.I w,.I s] h R:=aO (lq (sq (sq (.join [(20,.one (.bool))] lf) (cq ll lf)) ll)) Tryz.func34 d
theorem xt.walk(b:Cl 174 #[.P p 0] h λv H=> ∃t9,v=.bool t9/\if(!t9)then R (.I 6) H else aG (λ(t11:Bool) (a:ai)=>if t11 then R (.I 1) a else R (.I 0) a) (λJ=>if(decide (owner<1))then J true H else if(decide (owner>1099511627776))then J true H else J (decide (n<0)) H)):Cl 123 #[.P p 0,.I owner,.I n] h R:=aO (lq (sq (bq (lq (cq ll (sq (.join [(11,.one (.bool))] lf) (cq ll lf))))) ll)) Tryz.func123 b
theorem vO.walk (e:Cl 123 #[.P p 0,.I owner,.I n] h λv H=> ∃t11,v=.I t11/\if(t11 !=0)then R (.I t11) H else aG (λ(t40:Bool) (a:ai)=>if t40 then R (.I 15) a else aG (λ(c:ai)=>R (.I 0) c) (λj=>if(decide (n>0))then∃t46,Cc a p 2 (.map t46)/\∃t48,hI Tryz.prog 167 (.map t46) (.I owner) false a (.I t48)/\aW Tryz.prog (Instr.mapUpdate 167 (.map t46) (.I owner) (.I (wrap .i64 (t48+n)))) a λ_ b=> ∃t54,Cc b p 3 (.I t54)/\aS b (AA p 3) (.I (wrap .i64 (t54+n))) λd=>j d else j a)) (λJ=>Hi H p 1 λt19=> ∃t23,Cc H p 2 (.map t23)/\∃t25,hI Tryz.prog 167 (.map t23) (.I owner) false H (.I t25)/\if(decide (n>(wrap .i64 (t19 - t25))))then J true H else Hi H p 0 λt33=> ∃t37,Cc H p 3 (.I t37)/\J (decide (n>(wrap .i64 (t33 - t37)))) H)):Cl 241 #[.P p 0,.I owner,.I n] h R:=aO (lq (sq (lq (lq (cq ll lf))) (sq (sq (.join [(40,.one (.bool))] (pN 26)) (cq ll lf)) (sq (lq (.join [] (cq ll lf))) ll)))) Tryz.func241 e
theorem vP.walk (a:Cl 123 #[.P p 0,.I owner,.I n] h λv H=> ∃t10,v=.I t10/\if(t10==0)then Hi H p 1 λt17=> ∃t21,Cc H p 2 (.map t21)/\∃t23,hI Tryz.prog 167 (.map t21) (.I owner) false H (.I t23)/\if(decide (n<=(wrap .i64 (t17 - t23))))then Hi H p 0 λt32=> ∃t36,Cc H p 3 (.I t36)/\R (.bool (decide (n<=(wrap .i64 (t32 - t36))))) H else R (.bool false) H else R (.bool false) H):Cl 239 #[.P p 0,.I owner,.I n] h R:=aO (lq (sq (pN 34) lf)) Tryz.func239 a
theorem vQ.walk(e:Cl 123 #[.P p 0,.I owner,.I n] h λv H=> ∃t11,v=.I t11/\if(t11 !=0)then R (.I t11) H else∃t19,Cc H p 2 (.map t19)/\∃t21,hI Tryz.prog 167 (.map t19) (.I owner) false H (.I t21)/\if(decide (n>t21))then R (.I 7) H else∃t26,Cc H p 3 (.I t26)/\aS H (AA p 3) (.I (wrap .i64 (t26 - n))) λb=> ∃t34,Cc b p 2 (.map t34)/\∃t36,hI Tryz.prog 167 (.map t34) (.I owner) false b (.I t36)/\aW Tryz.prog (Instr.mapUpdate 167 (.map t34) (.I owner) (.I (wrap .i64 (t36 - n)))) b λ_ a=> ∃t42,Cc a p 2 (.map t42)/\∃t44,hI Tryz.prog 167 (.map t42) (.I owner) false a (.I t44)/\aG (λ(c:ai)=>R (.I 0) c) (λJ=>if(t44==0)then∃t49,Cc a p 2 (.map t49)/\aW Tryz.prog (Builtin.delete_ #[167,3] 0 #[.map t49,.I owner]) a λV d=>V=.tuple #[]/\J d else J a)):Cl 55 #[.P p 0,.I owner,.I n] h R:=aO (lq (sq (lq (lq (cq ll lf))) (sq (lq (cq ll lf)) (lq (lq (sq (lq (.join [] (cq lf lf))) ll)))))) Tryz.func55 e

end
section
namespace mc
theorem tm:pO Tryz.prog 167 (.I 0):=.of 3 3 .i64 dj dj dj
def gm(h:ai)(p m:Nat)(W S A:Int)(f:Int->Int):Prop:=
 h[p]? =some (.cells #[.int .i64 W,.int .i64 S,.map (some m),.int .i64 A] 169 (0,0))/\
 ∃g:Int->Option Value,mv h m g/\∀k,(g k).getD (.int .i64 0)=.int .i64 (f k)
def Ok(W S A:Int)(f:Int->Int):Prop:=1<=S/\S<=W/\W<=1048576/\ -2000000000000<=A/\A<=W/\∀k,0<=f k/\f k<=S
variable {h : ai} {p m : Nat} {W S A : Int} {f : Int → Int} {R : Value → ai → Prop}
theorem gm.frame{Q:Nat->Prop}{h':ai}(i:gm h p m W S A f)(H:Fr Q h h')(a: ¬Q p)(b: ¬Q m):gm h' p m W S A f:=by
 obtain⟨c,g,d,e⟩:=i;exact⟨H.get c a,g,d.frame H b,e⟩
theorem gm.ne(d:gm h p m W S A f):p≠m:=by
 obtain⟨a,g,b,_⟩:=d;obtain⟨es,c,H⟩:=b.map;rintro rfl;rw[a]at H;cases H
theorem gm.lt(H:gm h p m W S A f):p<h.size/\m<h.size:=⟨aD H.1,by obtain⟨_,g,a,_⟩:=H;exact a.lt⟩
theorem gm.ext{F:Int->Int}(d:gm h p m W S A f)(a: ∀k,F k=f k):gm h p m W S A F:=by
 obtain⟨H,g,b,c⟩:=d;exact⟨H,g,b,λk=>by rw[a];exact c k⟩
theorem fI(H:gm h p m W S A f)(hk:R (.bool true) h):Cl 174 #[.P p 0] h R:=
 vN.walk ⟨some m,ar H.1,hk⟩
theorem look(b:gm h p m W S A f)(o:Int):hI Tryz.prog 167 (.map (some m)) (.I o) false h (.I (f o)):=by
 obtain⟨_,g,H,a⟩:=b;have:=A6 tm H o;rw[a]at this;exact this
def may(o n:Int):Bool:=decide (1<=o) && decide (o<=1099511627776) && decide (0<=n)
def jh(o n:Int):Int:=if may o n=true then 0 else 1
theorem lH{o n:Int}:may o n=true↔1<=o/\o<=1099511627776/\0<=n:=by simp[may,and_assoc]
theorem vR(c:gm h p m W S A f)(o n:Int)(hk:R (.I (jh o n)) h):Cl 123 #[.P p 0,.I o,.I n] h R:=by
 refine xt.walk (fI c ⟨true,rfl,?_⟩);simp only[aG];unfold jh may at hk;by_cases H:o<1
 .simpa[H,show¬1<=o by omega]using hk
 .by_cases a:o>1099511627776
  .simpa[H,a,show¬o<=1099511627776 by omega]using hk
  .by_cases b:n<0
   .simpa[H,a,b,show¬0<=n by omega]using hk
   .simpa[H,a,b,show 1<=o by omega,show o<=1099511627776 by omega,show 0<=n by omega]using hk
def fits(W S A:Int)(f:Int->Int)(o n:Int):Bool:=may o n && decide (n<=S - f o) && decide (n<=W - A)
def PS(W S A:Int)(f:Int->Int)(o n:Int):Int:=if may o n=true then(if fits W S A f o n=true then 0 else 15)else 1
def jn(f:Int->Int)(o n:Int):Int->Int:=λk=>if k=o then f k+n else f k
theorem MM{o n:Int}:fits W S A f o n=true↔(1<=o/\o<=1099511627776/\0<=n)/\n<=S - f o/\n<=W - A:=by
 simp[fits,lH,and_assoc]
theorem Ok.take{o n:Int}(ok:Ok W S A f)(H:fits W S A f o n=true):Ok W S (A+n) (jn f o n):=by
 obtain⟨o1,o2,O,j,l,a⟩:=ok;obtain⟨⟨b,c,d⟩,g,i⟩:=MM.1 H;refine⟨o1,o2,O,ag,ag,λk=> ?_⟩;have:=a k;unfold jn;split
 .rename_i e;subst e;omega
 .exact this
theorem uq(H:gm h p m W S A f)(ok:Ok W S A f)(o n:Int)(u:fits W S A f o n=true->∀h',gm h' p m W S (A+n) (jn f o n)->Fr (λc=>c=p\/c=m) h h'->R (.I 0) h')(K:fits W S A f o n=false->R (.I (PS W S A f o n)) h):
  Cl 241 #[.P p 0,.I o,.I n] h R:=by
 obtain⟨o1,o2,I,J,L,O⟩:=ok;have of:=O o;refine vO.walk (vR H o n ⟨_,rfl,?_⟩);unfold PS at K;unfold jh;cases b:may o n with
 |false=>
  have:=K (by simp[fits,b]);simpa[b]using this
 |true=>
  have E:=lH.1 b;simp only[bj,bne_self_eq_false,au,aM,aG];refine⟨S,ar H.1,some m,ar H.1,f o,look H o,?_⟩;rw[bD ag ag];by_cases d:n>S - f o
  .have a:fits W S A f o n=false:=by simp[fits,show¬n<=S - f o by omega]
   have:=K a;simpa[d,b,a]using this
  .simp only[d,bp,au,aM];refine⟨W,ar H.1,A,ar H.1,?_⟩;rw[bD ag ag];by_cases i:n>W - A
   .have a:fits W S A f o n=false:=by simp[fits,show¬n<=W - A by omega]
    have:=K a;simpa[i,b,a]using this
   .have a:fits W S A f o n=true:=by simp[fits,b,show n<=S - f o by omega,show n<=W - A by omega]
    simp only[i,bp,au,aM];by_cases j:n>0
    .simp only[j,bC,bj];refine⟨some m,ar H.1,f o,look H o,?_⟩;rw[bD ag ag];have r:=H.ne;obtain⟨w,g,y,B⟩:=H;refine lX tm y ?_;intro D z F s;have l:=(s p r).trans w;refine⟨A,ar l,?_⟩;rw[bD ag ag];refine bw l bP ?_;intro v x G t;refine u a v ⟨x,_,z.lW (t m (fo r)),λk=> ?_⟩ (Fr.of_eq ag λc q=> ?_)
     .unfold jn;by_cases hk:k=o
      .simp[hk]
      .simp[hk,B]
     .rw[t c (λe=>q (.inl e)),s c (λe=>q (.inr e))]
    .have C:n=0:=ag
     simp only[j,bp,au,aM];refine u a h ?_ (Fr.refl _ _);subst C;rw[Int.add_zero];exact H.ext λk=>by unfold jn;split<;>omega
theorem OQ(H:gm h p m W S A f)(ok:Ok W S A f)(o n:Int)(hk:R (.bool (fits W S A f o n)) h):Cl 239 #[.P p 0,.I o,.I n] h R:=by
 obtain⟨o1,o2,c,d,e,O⟩:=ok;have of:=O o;refine vP.walk (vR H o n ⟨_,rfl,?_⟩);unfold jh;unfold fits at hk;cases b:may o n with
 |false=>simpa[b]using hk
 |true=>
  simp only[bj,fc];refine⟨S,ar H.1,some m,ar H.1,f o,look H o,?_⟩;rw[bD ag ag];by_cases a:n<=S - f o
  .simp only[a,bC,bj];refine⟨W,ar H.1,A,ar H.1,?_⟩;rw[bD ag ag];simpa[b,a]using hk
  .simpa[b,a]using hk
def qm(f:Int->Int)(o n:Int):Bool:=may o n && decide (n<=f o)
def PT(f:Int->Int)(o n:Int):Int:=if may o n=true then(if qm f o n=true then 0 else 7)else 1
theorem JX{o n:Int}:qm f o n=true↔(1<=o/\o<=1099511627776/\0<=n)/\n<=f o:=by simp[qm,lH,and_assoc]
theorem OR(d:gm h p m W S A f)(ok:Ok W S A f)(o n:Int)(C:qm f o n=true->∀h',gm h' p m W S (A - n) (jn f o (-n))->Fr (λc=>c=p\/c=m) h h'->R (.I 0) h')(K:qm f o n=false->R (.I (PT f o n)) h):
  Cl 55 #[.P p 0,.I o,.I n] h R:=by
 obtain⟨o1,o2,U,V,X,O⟩:=ok;have of:=O o;refine vQ.walk (vR d o n ⟨_,rfl,?_⟩);unfold PT at K;unfold jh;cases b:may o n with
 |false=>
  have:=K (by simp[qm,b]);simpa[b]using this
 |true=>
  have N:=lH.1 b;simp only[bj,bne_self_eq_false,au,aM];refine⟨some m,ar d.1,f o,look d o,?_⟩;by_cases v:n>f o
  .have a:qm f o n=false:=by simp[qm,show¬n<=f o by omega]
   have:=K a;simpa[v,b,a]using this
  .have a:qm f o n=true:=by simp[qm,b,show n<=f o by omega]
   simp only[v,bp,au,aM];have r:=d.ne;obtain⟨w,g,G,q⟩:=d;refine⟨A,ar w,?_⟩;rw[bD ag ag];refine bw w bP ?_;intro D l P s;have x:=G.lW (s m (fo r));have L:gm D p m W S (A - n) f:=⟨l,g,x,q⟩;refine⟨some m,ar l,f o,look L o,?_⟩;rw[bD ag ag];refine lX tm x ?_;intro j y Q t;have i:=(t p r).trans l;have B:gm j p m W S (A - n) (jn f o (-n)):=⟨i,_,y,λk=>by
    unfold jn;by_cases hk:k=o
    .simp[hk,Int.sub_eq_add_neg]
    .simp[hk,q]⟩
   have F:Fr (λc=>c=p\/c=m) h j:=Fr.of_eq ag λc H=>by rw[t c (λe=>H (.inr e)),s c (λe=>H (.inl e))]
   have J:=look B o;refine⟨some m,ar i,jn f o (-n) o,J,?_⟩;simp only[aG];by_cases u:jn f o (-n) o=0
   .simp only[u,fc,bj];refine⟨some m,ar i,?_⟩;refine wF tm y ?_;intro E I T z;refine⟨rfl,C a E ⟨(z p r).trans i,_,I,λk=> ?_⟩ (Fr.of_eq ag λc H=> ?_)⟩
    .by_cases hk:k=o
     .subst hk;simp[u]
     .simp[hk,q,jn]
    .rw[z c (λe=>H (.inr e)),t c (λe=>H (.inr e)),s c (λe=>H (.inl e))]
   .have M:(jn f o (-n) o==0)=false:=by simpa using u
    simp only[M,au,aM];exact C a j B F
def wS(W S:Int):Bool:=decide (1<=W) && decide (W<=1048576) && decide (1<=S) && decide (S<=W)
theorem JY:wS W S=true↔1<=W/\W<=1048576/\1<=S/\S<=W:=by simp[wS,and_assoc]
theorem iT(W S:Int){h:ai}(K:wS W S=true->∀h' p m,gm h' p m W S 0 (λ_=>0)->h.size<=p->h.size<=m->Fr No h h'->R (.tuple #[.P p 0,.I 0]) h')(k:wS W S=false->R (.tuple #[.pointer none,.I 1]) h):Cl 34 #[.I W,.I S] h R:=by
 refine JW.walk ?_;simp only[aG];by_cases a:W<1
 .simpa only[a,bC,bj]using k (by simp[wS,show¬1<=W by omega])
 .simp only[a,bp,au,aM];by_cases c:W>1048576
  .simpa only[c,bC,bj]using k (by simp[wS,show¬W<=1048576 by omega])
  .simp only[c,bp,au,aM];by_cases d:S<1
   .simpa only[d,bC,bj]using k (by simp[wS,show¬1<=S by omega])
   .simp only[d,bp,au,aM];by_cases e:S>W
    .simpa only[e,bC,bj]using k (by simp[wS,show¬S<=W by omega])
    .simp only[e,bp,au,aM];rintro b g rfl rfl b1 i rfl rfl;refine K (JY.2 ag) _ _ h.size ⟨bV,λ_=>none,?_,λ_=>rfl⟩ bP bP ?_
     .exact(mv.push h).frame (Fr.push (S:=λ_=>False) _ _) bP
     .exact(Fr.push (S:=λ_=>False) h _).trans (Fr.push (S:=λ_=>False) _ _) (λ_ _ H=>H) (λ_ _ H=>H)
end mc
end
section
namespace dH
open gV (It)
variable {l L:List It} {x:It} {o:Int}
def w6(l:List It):Int:=(l.map (λx=>(x.d.length:Int))).sum
def own(l:List It)(o:Int):Int:=w6 (l.filter (λx=>decide (x.owner=o)))
theorem zF(p:l.Perm L):w6 l=w6 L:=by
 induction p with
 |nil=>rfl
 |cons x _ i=>unfold w6 at i⊢;simp only[bX,List.sum_cons];omega
 |swap x y l=>unfold w6;simp only[bX,List.sum_cons];omega
 |trans _ _ H a=>exact H.trans a
theorem zH(p:l.Perm L):own l=own L:=funext λo=>zF (p.filter _)
theorem ji:w6 (x::l)=x.d.length+w6 l:=by unfold w6;rw[bX,List.sum_cons]
theorem me:own (x::l) o=(if x.owner=o then(x.d.length:Int)else 0)+own l o:=by
 unfold own;rw[ch];split<;>rename_i h
 .rw[ji,af (aU h)]
 .rw[ae (λe=>h (av e))];omega
theorem GM:0<=w6 l:=by
 induction l with
 |nil=>exact eJ _
 |cons x l i=>rw[ji];omega
theorem GN:0<=own l o:=GM
theorem Qz(H:x∈l):(x.d.length:Int)<=own l x.owner:=by
 obtain⟨a,b,rfl⟩:=List.append_of_mem H;rw[zH List.perm_middle,me,af rfl];have:=GN (l:=a++b) (o:=x.owner);omega
abbrev rD(l:List It):Prop:=mc.Ok 4800 1600 (w6 l) (own l)
theorem rD.perm(ok:rD l)(p:l.Perm L):rD L:=by
 unfold rD;rw[<-zF p,<-zH p];exact ok
theorem rD.sub(ok:rD (x::l)):rD l:=by
 obtain⟨a,b,c,d,e,f⟩:=ok;rw[ji]at d e;have:=GM (l:=l);refine⟨a,b,c,ag,ag,λk=>⟨GN,?_⟩⟩;have:=(f k).2;rw[me]at this;split at this<;>omega
theorem rD.nil:rD []:=⟨di,di,di,di,di,λ_=>⟨eJ 0,show(0:Int)<=1600 by decide⟩⟩
theorem Ig:mc.jn (own l) x.owner (x.d.length:Int)=own (x::l):=by
 funext k
 unfold mc.jn;rw[me];by_cases e:k=x.owner
 .rw[af e,af e.symm];omega
 .rw[ae e,ae (λq=>e q.symm)];omega
theorem MN:mc.jn (own (x::l)) x.owner (-(x.d.length:Int))=own l:=by
 funext k
 unfold mc.jn;rw[me];by_cases e:k=x.owner
 .rw[af e,af e.symm];omega
 .rw[ae e,ae (λq=>e q.symm)];omega
def Tv(x:It):Prop:=1<=x.d.length/\x.d.length<=600/\1<=x.owner/\x.owner<=1099511627776
section
variable {h h' : ai} {R : Value → ai → Prop} {p m : Nat}
abbrev Pu(h:ai)(p m:Nat)(l:List It):Prop:=mc.gm h p m 4800 1600 (w6 l) (own l)
theorem Pu.perm(H:Pu h p m l)(q:l.Perm L):Pu h p m L:=by
 unfold Pu;rw[<-zF q,<-zH q];exact H
theorem RH{n:Int}(H:Pu h p m (x::l))(ok:rD (x::l))(k:Tv x)(b:n=(x.d.length:Int))(hk: ∀h',Pu h' p m l->Fr (λc=>c=p\/c=m) h h'->R (.I 0) h'):
  Cl 55 #[.P p 0,.I x.owner,.I n] h R:=by
 subst b;have g:mc.qm (own (x::l)) x.owner (x.d.length:Int)=true:=mc.JX.2 ⟨⟨k.2.2.1,k.2.2.2,ag⟩,Qz bP⟩;refine mc.OR H ok _ _ (λ_ h' a f=>hk h' ?_ f) (λe=>by rw[g]at e;cases e);rw[MN,ji,show(x.d.length:Int)+w6 l - x.d.length=w6 l by omega]at a;exact a
end
end dH
end
section
variable {h:ai} {R:fp}
variable {t d D g f c0 s c F:Nat} {num token id A:Int} {e k S:cy}
theorem Da.walk(a:aQ h (.cells #[.bool true,.Z] 90) λb H=>R (.P b 0) H):Cl 35 #[] h R:=aO (lq ll) Tryz.func35 a
theorem rE.walk (i:aG (λ(t6:Bool) (H:ai)=>if t6 then R (.tuple #[.pointer none,.I 6]) H else aG (λ(t16:Bool) (b:ai)=>if t16 then R (.tuple #[.pointer none,.I 4]) b else Hl b t 1 λo n p=>Bd (wrap .i64 (num - 1)) n/\aL o λa=> ∃t35,bg b (a.add (toNat (wrap .i64 (num - 1))*1))=some (.pointer t35)/\R (.tuple #[.pointer t35,.I 0]) b) (λj=>if(decide (num<1))then j true H else∃m T l,Cc H t 1 (.slice m T l)/\j (decide (num>((T:Nat):Int))) H)) (λJ=> ∃t13,Cc h t 0 (.bool t13)/\J (!t13) h)):Cl 78 #[.P t 0,.I num] h R:=aO (lq (sq (bq (sq (.join [(6,.one (.bool))] lf) (cq ll (sq (.join [(16,.one (.bool))] lf) (cq ll lf))))) ll)) Tryz.func78 i
theorem ur.walk(i:Cl 78 #[.P t 0,.I num] h λv H=> ∃T b,v=.tuple #[.pointer T,.I b]/\if(b==0)then aL T λa=> ∃t19,bg H (a.add 2)=some (.bool t19)/\R (.bool t19) H else R (.bool false) H):Cl 28 #[.P t 0,.I num] h R:=aO (lq (lq ll)) Tryz.func28 i
theorem uu.walk(i:Hl h t 1 λj T l=> ∃(I:Int->ai->Prop)(m:Int->ai->Nat),I 0 h/\∀(t12:Int)(H:ai),I t12 H->if(decide (t12<(T:Int)))then Bd t12 T/\aL j λa=>yu H (a.add (toNat t12*1)) λt15=>aL t15 λb=> ∃t19,bg H (b.add 1)=some (.U t19)/\if(t19==token)then R (.pointer t15) H else(I (wrap .i64 (t12+1)) H/\m (wrap .i64 (t12+1)) H<m t12 H)else R (.pointer none) H):Cl 40 #[.P t 0,.U token] h R:=aO (lq (sq (lq (bq (.loop [(12,.one (.int .i64))] (lq (sq (cq lf lf) (sq (bq (lq (lq (cq ll lf)))) lf)))))) ll)) Tryz.func40 i
theorem rF.walk (z:aG (λ(t7:Bool) (a:ai)=>if t7 then R (.tuple #[.I 0,.I 6]) a else aG (λ(t17:Bool) (i:ai)=>if t17 then R (.tuple #[.I 0,.I 1]) i else Cl 40 #[.P t 0,.U token] i λv H=> ∃t27,v=.pointer t27/\if(!t27.isNone)then R (.tuple #[.I 0,.I 12]) H else∃E T C,Cc H t 1 (.slice E T C)/\if(decide (((T:Nat):Int)≥8))then R (.tuple #[.I 0,.I 5]) H else∃I n G,Cc H t 1 (.slice I n G)/\aQ H (.cells #[.I (wrap .i64 (((n:Nat):Int)+1)),.U token,.bool true,.bool false,.Z,.Z] 76) λb l=> ∃q p o,Cc l t 1 (.slice q p o)/\aQ l (.cells #[.P b 0] 91) λB x=>aW Tryz.prog (Builtin.append_ #[88,88] 88 #[.slice q p o,.slice (Sa B 0) 1 1]) x λV y=> ∃w u r,V=.slice w u r/\aS y (AA t 1) (.slice w u r) λm=> ∃t58,Cc m b 0 (.I t58)/\R (.tuple #[.I t58,.I 0]) m) (λj=>if(decide (token<1))then j true a else j (decide (token>2147483648)) a)) (λJ=> ∃t14,Cc h t 0 (.bool t14)/\J (!t14) h)):Cl 12 #[.P t 0,.U token] h R:=aO (lq (sq (bq (sq (.join [(7,.one (.bool))] lf) (cq ll (sq (.join [(17,.one (.bool))] lf) (cq ll (lq (cq ll (lq (cq ll lf))))))))) (lq (lq ll)))) Tryz.func12 z
theorem pj.walk(m:aG (λ(t15:Bool) (b:ai)=>if t15 then R (.tuple #[.I 0,.I 6]) b else Cl 40 #[.P t 0,.U token] b λv H=> ∃t18,v=.pointer t18/\if t18.isNone then R (.tuple #[.I 0,.I 12]) H else aL t18 λa=> ∃t26,bg H (a.add 2)=some (.bool t26)/\if t26 then R (.tuple #[.I 0,.I 7]) H else aL t18 λj=>aS H (j.add 2) (.bool true) λi=>aL t18 λl=> ∃t33,bg i l=some (.I t33)/\R (.tuple #[.I t33,.I 0]) i) (λJ=> ∃t13,Cc h t 0 (.bool t13)/\J (!t13) h)):Cl 126 #[.P t 0,.U token] h R:=aO (lq (sq (sq (.join [(15,.one (.bool))] lf) (cq ll lf)) (lq (sq (bq (lq (cq ll (lq (cq ll lf))))) (lq ll))))) Tryz.func126 m
theorem rG.walk(l:Cl 78 #[.P t 0,.I num] h λv H=> ∃T b,v=.tuple #[.pointer T,.I b]/\if(b !=0)then R (.I b) H else aL T λa=> ∃t21,bg H (a.add 2)=some (.bool t21)/\if(!t21)then R (.I 7) H else aL T λi=>aS H (i.add 2) (.bool false) λj=>R (.I 0) j):Cl 73 #[.P t 0,.I num] h R:=aO (lq (lq (sq (bq (lq (cq ll (lq (cq ll lf))))) (lq ll)))) Tryz.func73 l
theorem oI.walk(j:Hl h t 1 λl T n=> ∃(I:Int->ai->Prop)(m:Int->ai->Nat),I 0 h/\∀(t11:Int)(H:ai),I t11 H->if(decide (t11<(T:Int)))then Bd t11 T/\aL l λa=>yu H (a.add (toNat t11*1)) λt14=>aL t14 λi=>aS H (i.add 2) (.bool false) λb=>(I (wrap .i64 (t11+1)) b/\m (wrap .i64 (t11+1)) b<m t11 H)else R (.tuple #[]) H):Cl 129 #[.P t 0] h R:=aO (lq (cq (lq (bq (.loop [(11,.one (.int .i64))] (lq (sq (cq lf lf) (sq (bq ll) lf)))))) lf)) Tryz.func129 j
theorem rH.walk (Q:aQ h (.cells #[.U id] 27) λb L=>Cl 78 #[.P t 0,.I num] L λv H=> ∃T p,v=.tuple #[.pointer T,.I p]/\if(p !=0)then R (.I p) H else aG (λ(t21:Bool) (l:ai)=>if t21 then R (.I 1) l else aL T λa=>oP l (a.add 4) λW V U=>Cl 109 #[.slice W V U,.func (.func 110) #[] #[.P b 0]] l λl' P=>Vl l' λZ Y X=>aL T λB=>aS P (B.add 4) (.slice Z Y X) λm=>aL T λj=>oP m (j.add 4) λu r q=>Hu m b 0 λt43=>Cl 50 #[.slice e d D] m λm' n=>Vl m' λc' b' a'=>Cc n b 0 (.U t43)/\bg n (j.add 4)=some (.slice u r q)/\aQ n (.cells #[.U t43,.slice c' b' a'] 161) λK o=>Cc o b 0 (.U t43)/\bg o (j.add 4)=some (.slice u r q)/\aW Tryz.prog (Builtin.append_ #[74,74] 74 #[.slice u r q,.slice (Sa K 0) 1 1]) o λn' x=>Vl n' λf' e' d'=>Cc x b 0 (.U t43)/\aL T λC=>aS x (C.add 4) (.slice f' e' d') λi=>aL T λE=>oP i (E.add 4) λq' g' p'=>aG (λ(M:ai)=>R (.I 0) M) (λw=>if(decide ((g':Int)>6))then aL T λG=>oP i (G.add 4) λh' z y=>((0:Int)<=1/\1<=(z:Int))/\Cl 111 #[.slice (cO h' y (toNat 1) 2) (z - (toNat 1)) (y - (toNat 1))] i λo' N=>Vl o' λk' j' i'=>aL T λI=>aS N (I.add 4) (.slice k' j' i') λO=>w O else w i)) (λJ=> ∃t22,Cc H b 0 (.U t22)/\if(decide (t22>1099511627776))then J true H else J (decide ((d:Int)>1000)) H)):Cl 46 #[.P t 0,.I num,.U id,.slice e d D] h R:=aO (lq (lq (sq (bq (lq (cq ll (sq (.join [(21,.one (.bool))] lf) (cq ll lf))))) (lq (sq (pN 14) (sq (lq (.join [] (cq lf lf))) ll)))))) Tryz.func46 Q
theorem pk.walk(a:aQ h (.cells #[.U A,.slice k g f] 161) λb H=>Hu H b 0 λt5=> ∃t6,Cc H c0 0 (.U t6)/\R (.bool (t5==t6)) H):Cl 110 #[.agg #[.U A,.slice k g f],.P c0 0] h R:=aO (lq ll) Tryz.func110 a
theorem rJ.walk(u:aQ h (.cells #[.U id] 27) λb q=>Cl 78 #[.P t 0,.I num] q λv i=> ∃T j,v=.tuple #[.pointer T,.I j]/\if(j !=0)then R (.tuple #[.Z,.bool false]) i else aL T λa=>oP i (a.add 4) λy x w=>Cl 89 #[.slice y x w,.func (.func 90) #[] #[.P b 0]] i λV H=> ∃t24,V=.I t24/\if(decide (t24<0))then R (.tuple #[.Z,.bool false]) H else aL T λo=>oP H (o.add 4) λB z J=>Bd t24 z/\aL B λp=>oP H ((p.add (toNat t24*2)).add 1) λG E C=>Cl 50 #[.slice G E C] H λI r=> ∃n m l,I=.slice n m l/\R (.tuple #[.slice n m l,.bool true]) r):Cl 42 #[.P t 0,.I num,.U id] h R:=aO (lq (lq (sq (lq (cq ll lf)) (lq (sq (lq (cq ll lf)) ll))))) Tryz.func42 u
theorem pn.walk(a:aQ h (.cells #[.U A,.slice k g f] 161) λb H=>Hu H b 0 λt5=> ∃t6,Cc H c0 0 (.U t6)/\R (.bool (t5==t6)) H):Cl 90 #[.agg #[.U A,.slice k g f],.P c0 0] h R:=aO (lq ll) Tryz.func90 a
theorem qo.walk{on:Bool}(l:Cl 78 #[.P t 0,.I num] h λv H=> ∃b T,v=.tuple #[.pointer b,.I T]/\aG (λ(i:ai)=>R (.I T) i) (λJ=>if(T==0)then aL b λa=>aS H (a.add 3) (.bool on) λj=>J j else J H)):Cl 166 #[.P t 0,.I num,.bool on] h R:=aO (lq (lq (sq (lq (.join [] (cq lf lf))) ll))) Tryz.func166 l
theorem xu.walk{a:cy}{b B:Nat}(H:if(decide ((b:Int)≥1))then R (.bool (decide ((b:Int)<=600))) h else R (.bool false) h):Cl 302 #[.slice a b B] h R:=aO (lq ll) Tryz.func302 H
theorem rK.walk(K:Cl 78 #[.P t 0,.I num] h λv p=> ∃T l,v=.tuple #[.pointer T,.I l]/\if(l !=0)then R (.I l) p else Cl 302 #[.slice e d D] p λZ H=> ∃t21,Z=.bool t21/\if(!t21)then R (.I 1) H else aL T λa=> ∃t27,bg H (a.add 3)=some (.bool t27)/\if(!t27)then R (.I 7) H else aL T λj=>oP H (j.add 5) λo n m=>Cl 50 #[.slice e d D] H λa' q=>Vl a' λN M L=>bg q (j.add 5)=some (.slice o n m)/\aQ q (.cells #[.slice N M L] 22) λb r=>bg r (j.add 5)=some (.slice o n m)/\aW Tryz.prog (Builtin.append_ #[64,64] 64 #[.slice o n m,.slice (Sa b 0) 1 1]) r λb' C=>Vl b' λQ P O=>aL T λx=>aS C (x.add 5) (.slice Q P O) λi=>aL T λy=>oP i (y.add 5) λe' U d'=>aG (λ(E:ai)=>R (.I 0) E) (λJ=>if(decide ((U:Int)>6))then aL T λz=>oP i (z.add 5) λV w u=>((0:Int)<=1/\1<=(w:Int))/\Cl 198 #[.slice (cO V u (toNat 1) 1) (w - (toNat 1)) (u - (toNat 1))] i λc' G=>Vl c' λY X W=>aL T λB=>aS G (B.add 5) (.slice Y X W) λI=>J I else J i)):Cl 263 #[.P t 0,.I num,.slice e d D] h R:=aO (lq (lq (sq (bq (lq (cq ll (lq (cq ll (lq (cq ll lf))))))) (sq (pN 12) (sq (lq (.join [] (cq lf lf))) ll))))) Tryz.func263 K
theorem rL.walk(x:Cl 78 #[.P t 0,.I num] h λv b=> ∃T i,v=.tuple #[.pointer T,.I i]/\aG (λ(n:Int) (H:ai)=>if(n==0)then R (.tuple #[.Z,.I 0,.I i]) H else aL T λa=>oP H (a.add 5) λC B O=>Bd 0 B/\aL C λo=>oP H (o.add (toNat 0*1)) λI G E=>aL T λp=>oP H (p.add 5) λK m l=>((0:Int)<=1/\1<=(m:Int))/\Cl 198 #[.slice (cO K l (toNat 1) 1) (m - (toNat 1)) (l - (toNat 1))] H λV u=>Vl V λN M L=>aL T λq=>aS u (q.add 5) (.slice N M L) λw=>R (.tuple #[.slice I G E,.I n,.I 0]) w) (λJ=>if(i==0)then aL T λr=> ∃z j y,bg b (r.add 5)=some (.slice z j y)/\J ((j:Nat):Int) b else J 0 b)):Cl 167 #[.P t 0,.I num] h R:=aO (lq (lq (lq (sq (lq (.join [(9,.one (.int .i64))] (cq lf lf))) (sq (lq (cq ll lf)) (lq (lq ll))))))) Tryz.func167 x
theorem gU.mU.walk{l:Nat}(B:Cl 89 #[.slice S s c,.func (.func 110) #[] #[.P l 0]] h λv o=> ∃t10,v=.I t10/\if(t10==(-1))then R (.slice S s c) o else∃(I:Int->Int->ai->Prop)(M:Int->Int->ai->Nat),I t10 (wrap .i64 (t10+1)) o/\∀(i:Int)(j:Int)(H:ai),I i j H->if(decide (j<(s:Int)))then aG (λ(r:Int) (p:ai)=>(I r (wrap .i64 (j+1)) p/\M r (wrap .i64 (j+1)) p<M i j H)) (λJ=>Bd j s/\aL S λa=>cz.LD H (a.add (toNat j*2)) λT K G E=>aQ H (.cells #[.U 0,.Z] 161) λb w=>cz.ST w (AA b 0) T K G E λq=>cz.LD q (AA b 0) λL P O N=>Cl 110 #[.agg #[.U L,.slice P O N],.P l 0] q λX m=>Vb X λt28=>aG (λ(C:Int) (x:ai)=>J C x) (λn=>if(!t28)then cz.LD m (AA b 0) λQ W V U=>Bd i s/\aL S λu=>cz.ST m (u.add (toNat i*2)) Q W V U λy=>n (wrap .i64 (i+1)) y else n i m))else((0:Int)<=i/\i<=(s:Int))/\aW Tryz.prog (Builtin.clear_ #[74] 0 #[.slice (cO S c (toNat i) 2) (s - (toNat i)) (c - (toNat i))]) H λY z=>Y=.tuple #[]/\((0:Int)<=i/\i<=(c:Int))/\R (.slice (cO S c 0 2) ((toNat i) - 0) (c - 0)) z):Cl 109 #[.slice S s c,.func (.func 110) #[] #[.P l 0]] h R:=aO (lq (lq (sq (lq (cq ll lf)) (sq (lq (bq (.loop [(5,.one (.int .i64)),(6,.one (.int .i64))] (sq (lq (cq lf lf)) (sq (.join [(5,.one (.int .i64))] (bq (lq (lq (.join [(5,.one (.int .i64))] (cq ll lf)))))) lf))))) (lq ll))))) Tryz.func109 B
theorem dZ.mU.walk(i: ∃(I:Int->ai->Prop)(m:Int->ai->Nat),I 0 h/\∀(t8:Int)(H:ai),I t8 H->if(decide (t8<(s:Int)))then Bd t8 s/\aL S λa=>cz.LD H (a.add (toNat t8*2)) λT n l j=>Cl 110 #[.agg #[.U T,.slice n l j],.P F 0] H λv b=> ∃t16,v=.bool t16/\if t16 then R (.I t8) b else(I (wrap .i64 (t8+1)) b/\m (wrap .i64 (t8+1)) b<m t8 H)else R (.I (-1)) H):Cl 89 #[.slice S s c,.func (.func 110) #[] #[.P F 0]] h R:=aO (lq (sq (lq (bq (.loop [(8,.one (.int .i64))] (lq (sq (cq lf lf) (sq (bq (lq (lq (cq ll lf)))) lf)))))) ll)) Tryz.func89 i
theorem dZ.kept.walk(i: ∃(I:Int->ai->Prop)(m:Int->ai->Nat),I 0 h/\∀(t8:Int)(H:ai),I t8 H->if(decide (t8<(s:Int)))then Bd t8 s/\aL S λa=>cz.LD H (a.add (toNat t8*2)) λT n l j=>Cl 90 #[.agg #[.U T,.slice n l j],.P F 0] H λv b=> ∃t16,v=.bool t16/\if t16 then R (.I t8) b else(I (wrap .i64 (t8+1)) b/\m (wrap .i64 (t8+1)) b<m t8 H)else R (.I (-1)) H):Cl 89 #[.slice S s c,.func (.func 90) #[] #[.P F 0]] h R:=aO (lq (sq (lq (bq (.loop [(8,.one (.int .i64))] (lq (sq (cq lf lf) (sq (bq (lq (lq (cq ll lf)))) lf)))))) ll)) Tryz.func89 i
theorem ie.walk(l:if S.isNone then R (.Z) h else aQ h (.cells #[] 161) λb H=>aW Tryz.prog (Builtin.append_ #[74,74] 74 #[.slice (Sa b 0) 0 0,.slice S s c]) H λv j=> ∃i a T,v=.slice i a T/\R (.slice i a T) j):Cl 111 #[.slice S s c] h R:=aO (lq (sq (lq (cq ll lf)) ll)) Tryz.func111 l
theorem kY.walk(l:if S.isNone then R (.Z) h else aQ h (.cells #[] 22) λb H=>aW Tryz.prog (Builtin.append_ #[64,64] 64 #[.slice (Sa b 0) 0 0,.slice S s c]) H λv j=> ∃i a T,v=.slice i a T/\R (.slice i a T) j):Cl 198 #[.slice S s c] h R:=aO (lq (sq (lq (cq ll lf)) ll)) Tryz.func198 l

end
section
open Go.fT
namespace fj
open kK
variable {h h' u:ai} {t:Nat} {X:Ft} {R:fp} {p q:cy} {c i:Nat}
structure AV where
 id:Nat
 v:BV
abbrev AV.enc(a:AV):List Value:= [.int .u64 (a.id:Int),a.v.val]
structure SC where
 b:Nat
 num:Nat
 token:Nat
 up:Bool
 watch:Bool
 kept:List AV
 kp:cy
 kc:Nat
 notes:List BV
 np:cy
 nc:Nat
structure fj where
 num:Nat
 token:Nat
 up:Bool
 watch:Bool
 kept:List (Nat×cD)
 notes:List (cD)
def AV.abs(a:AV):Nat×cD:=(a.id,a.v.b)
def SC.abs(s:SC):fj:=⟨s.num,s.token,s.up,s.watch,s.kept.map AV.abs,s.notes.map BV.b⟩
theorem uv{α:Type}{l:List α}{i:Nat}{v:α}(h:l[i]? =some v):l.set i v=l:=by
 apply eV
 intro j;rw[dt];split
 .rename_i e;subst e;rw[af (aB.1 h).1,h]
 .rfl
abbrev PU:=Nat->Option Nat
abbrev At(h:ai)(s:SC):Prop:=iy.at h s.b (s.num:Int) (s.token:Int) s.up s.watch s.kp s.kept.length s.kc s.np s.notes.length s.nc
structure zI (h:ai) (d:PU) (D:Nat->Prop) (i:Nat) (s:SC):Prop where
 cT:At h s
 lb:d s.b=some (2+3*i)
 qp:fJ h s.kp s.kept.length s.kc 2 (s.kept.flatMap AV.enc)
 kl: ∀c,aR s.kp c->d c=some (3+3*i)
 uw:fJ h s.np s.notes.length s.nc 1 (s.notes.flatMap nE)
 nl: ∀c,aR s.np c->d c=some (4+3*i)
 kd: ∀a∈s.kept,a.v.ok h D
 nd: ∀n∈s.notes,n.ok h D
structure Db (h:ai) (t:Nat) (d:PU) (D:Nat->Prop) (L:List SC):Prop where
 cT: ∃p c,h[t]? =some (.cells #[.bool true,.slice p L.length c] 90 (0,0))/\fJ h p L.length c 1 (L.map λs=> .pointer (some ⟨s.b,0,none⟩))/\∀x,aR p x->d x=some 1
 MO:d t=some 0
 ses: ∀i s,L[i]? =some s->zI h d D i s
 MP: ∀c r,d c=some r->c<h.size
 EN: ∀c,D c->c<h.size
 ap: ∀c r,d c=some r->¬D c
def rM(h:ai)(t:Nat)(X:Ft)(A:List fj)(B:List Nat):Prop:=
 ∃d L,Db h t d X.D L/\L.map SC.abs=A/\L.map SC.b=B/\∀c,X.M c↔ ∃r,d c=some r
def Has(h:ai)(t:Nat)(X:Ft)(A:List fj):Prop:= ∃B,rM h t X A B
variable {d : PU} {D : Nat → Prop} {L : List SC} {A : List fj}
theorem zI.frame{Q:Nat->Prop}{s:SC}(H:zI h d D i s)(f:Fr Q h h')(e: ∀c r,d c=some r->2+3*i<=r->r<=4+3*i->¬Q c)(hd: ∀c,D c->¬Q c):zI h' d D i s:=
 ⟨f.get H.cT (e _ _ H.lb ag ag),H.lb,H.qp.frame f (λc b=>e c _ (H.kl c b) ag ag),H.kl,H.uw.frame f (λc b=>e c _ (H.nl c b) ag ag),H.nl,λa g=>(H.kd a g).frame f hd,λn j=>(H.nd n j).frame f hd⟩
theorem zI.mono{l:PU}{D':Nat->Prop}{s:SC}(H:zI h d D i s)(e: ∀c r,d c=some r->l c=some r)(hd: ∀c,D c->D' c):zI h l D' i s:=
 ⟨H.cT,e _ _ H.lb,H.qp,λc b=>e c _ (H.kl c b),H.uw,λc b=>e c _ (H.nl c b),λa f=>(H.kd a f).mono hd,λn g=>(H.nd n g).mono hd⟩
theorem rM.lt{B:List Nat}(H:rM h t X A B): ∀x,X.M x\/X.D x->x<h.size:=by
 obtain⟨d,L,T,_,_,a⟩:=H;rintro x (e|hd)
 .obtain⟨r,b⟩:=(a x).1 e;exact T.MP x r b
 .exact T.EN x hd
theorem rM.tH{B:List Nat}(H:rM h t X A B): ∀x,X.M x->¬X.D x:=by
 obtain⟨d,L,T,_,_,a⟩:=H;intro x e;obtain⟨r,b⟩:=(a x).1 e;exact T.ap x r b
theorem rM.frame{B:List Nat}{Q:Nat->Prop}(H:rM h t X A B)(f:Fr Q h h')(k: ∀x,X.M x\/X.D x->¬Q x):rM h' t X A B:=by
 obtain⟨d,L,T,e,E,g⟩:=H;obtain⟨p,c,l,own,j⟩:=T.cT;have b: ∀c r,d c=some r->¬Q c:=λc r a=>k c (.inl ((g c).2 ⟨r,a⟩))
 refine⟨d,L,⟨⟨p,c,f.get l (b t _ T.MO),own.frame f (λx n=>b x _ (j x n)),j⟩,T.MO,λi s m=>(T.ses i s m).frame f (λc r a _ _=>b c r a) (λc hd=>k c (.inr hd)),?_,?_,T.ap⟩,e,E,g⟩
 .intro c r a;exact cC (T.MP c r a) f.1
 .intro c hd;exact cC (T.EN c hd) f.1
theorem Has.lt(H:Has h t X A): ∀x,X.M x\/X.D x->x<h.size:=by obtain⟨B,H⟩:=H;exact H.lt
theorem Has.tH(H:Has h t X A): ∀x,X.M x->¬X.D x:=by obtain⟨B,H⟩:=H;exact H.tH
theorem Has.frame{Q:Nat->Prop}(H:Has h t X A)(f:Fr Q h h')(a: ∀x,X.M x\/X.D x->¬Q x):Has h' t X A:=by obtain⟨B,H⟩:=H;exact⟨B,H.frame f a⟩
open Classical in
theorem Db.RI{s s':SC}{Q E:Nat->Prop}(T:Db h t d X.D L)(C: ∀c,X.M c↔ ∃r,d c=some r)(y:L[i]? =some s)(B:s'.b=s.b)(f:Fr Q h h')(o: ∀c,Q c->∃r,d c=some r/\2+3*i<=r/\r<=4+3*i)(cT:At h' s')(qp:fJ h' s'.kp s'.kept.length s'.kc 2 (s'.kept.flatMap AV.enc))(kn: ∀c,aR s'.kp c->d c=some (3+3*i)\/h.size<=c)(uw:fJ h' s'.np s'.notes.length s'.nc 1 (s'.notes.flatMap nE))(U: ∀c,aR s'.np c->d c=some (4+3*i)\/h.size<=c)(N: ∀c,aR s'.kp c->aR s'.np c->False)(w: ∀c,E c->d c=none/\c<h'.size/\¬aR s'.kp c/\¬aR s'.np c)(kd: ∀a∈s'.kept,a.v.ok h' (λc=>X.D c\/E c))(nd: ∀n∈s'.notes,n.ok h' (λc=>X.D c\/E c)):
  ∃v,rM h' t v ((L.map SC.abs).set i s'.abs) (L.map SC.b)/\Fr X.M h h'/\(∀c,v.M c->X.M c\/h.size<=c)/\(∀c,v.D c->X.D c\/E c)/\∀c,X.D c->v.D c:=by
 let z:PU:=λc=>if h.size<=c/\aR s'.kp c then some (3+3*i)else if h.size<=c/\aR s'.np c then some (4+3*i)else d c
 have py: ∀c r,d c=some r->z c=some r:=λc r H=>by
  have:=T.MP c r H;show(if h.size<=c/\aR s'.kp c then some (3+3*i)else if h.size<=c/\aR s'.np c then some (4+3*i)else d c)=some r;rw[ae (λk=>ag),ae (λk=>ag)];exact H
 have new: ∀c r,z c=some r->d c=some r\/(h.size<=c/\(aR s'.kp c\/aR s'.np c)):=λc r H=>by
  have H:(if h.size<=c/\aR s'.kp c then some (3+3*i)else if h.size<=c/\aR s'.np c then some (4+3*i)else d c)=some r:=H;split at H
  .rename_i k;exact .inr ⟨k.1,.inl k.2⟩
  .split at H
   .rename_i k;exact .inr ⟨k.1,.inr k.2⟩
   .exact .inl H
 have S: ∀c,aR s'.kp c\/aR s'.np c->c<h'.size:=λc g=>g.elim (λg=>qp.dY g) (λg=>uw.dY g)
 have hd: ∀c,X.D c->¬Q c:=λc g l=>by obtain⟨r,H,_⟩:=o c l;exact T.ap c r H g
 obtain⟨p,c0,J,own,F⟩:=T.cT;have K:i<L.length:=(aB.1 y).1;have O: ¬Q t:=λl=>by obtain⟨r,H,h1,b⟩:=o t l;rw[T.MO]at H;cases H;omega
 have P: ∀x,aR p x->¬Q x:=λx l M=>by obtain⟨r,H,h1,b⟩:=o x M;rw[F x l]at H;cases H;omega
 have V:(L.set i s').map (λs=>Value.P s.b 0)=L.map (λs=>Value.P s.b 0):=by
  rw[List.map_set,B];exact uv (by rw[aK,y];rfl)
 have I:(L.set i s').map SC.b=L.map SC.b:=by
  rw[List.map_set,B];exact uv (by rw[aK,y];rfl)
 refine⟨⟨λc=> ∃r,z c=some r,λc=>X.D c\/E c⟩,⟨z,L.set i s',⟨⟨p,c0,?_,?_,λx l=>py x _ (F x l)⟩,py t 0 T.MO,?_,?_,?_,?_⟩,?_,I,λc=>eE⟩,?_,?_,λc h=>h,λc=> .inl⟩
 .rw[dy];exact f.get J O
 .rw[V,dy];exact own.frame f P
 .intro j W m;rw[dt]at m;by_cases e:i=j
  .subst e;rw[af rfl,af K]at m;obtain rfl:=aX m;refine⟨cT,?_,qp,λc g=> ?_,uw,λc g=> ?_,kd,nd⟩
   .rw[B];exact py _ _ (T.ses i s y).lb
   .show(if h.size<=c/\aR s'.kp c then some (3+3*i)else if h.size<=c/\aR s'.np c then some (4+3*i)else d c)=_;rcases kn c g with h1|h1
    .have:=T.MP c _ h1;rw[ae (λk=>ag),ae (λk=>ag)];exact h1
    .rw[af ⟨h1,g⟩]
   .show(if h.size<=c/\aR s'.kp c then some (3+3*i)else if h.size<=c/\aR s'.np c then some (4+3*i)else d c)=_;rw[ae (λk=>N c k.2 g)];rcases U c g with h1|h1
    .have:=T.MP c _ h1;rw[ae (λk=>ag)];exact h1
    .rw[af ⟨h1,g⟩]
  .rw[ae e]at m;refine((T.ses j W m).frame f (λc r H h1 b l=> ?_) hd).mono py (λc=> .inl);obtain⟨r',G,Y,Z⟩:=o c l;rw[H]at G;cases G;omega
 .intro c r H;rcases new c r H with h1|⟨_,h1⟩
  .exact cC (T.MP c r h1) f.1
  .exact S c h1
 .rintro c (h1|h1)
  .exact cC (T.EN c h1) f.1
  .exact(w c h1).2.1
 .rintro c r H (h1|h1)
  .rcases new c r H with b|⟨b,_⟩
   .exact T.ap c r b h1
   .have:=T.EN c h1;omega
  .rcases new c r H with b|⟨_,b⟩
   .rw[(w c h1).1]at b;cases b
   .exact b.elim (w c h1).2.2.1 (w c h1).2.2.2
 .rw[List.map_set]
 .exact f.mono (λc _ l=>by obtain⟨r,H,_⟩:=o c l;exact(C c).2 ⟨r,H⟩)
 .rintro c ⟨r,H⟩;rcases new c r H with b|⟨b,_⟩
  .exact .inl ((C c).2 ⟨r,b⟩)
  .exact .inr b
theorem Db.Tw{s s':SC}{Q E:Nat->Prop}(T:Db h t d X.D L)(j: ∀c,X.M c↔ ∃r,d c=some r)(o:L[i]? =some s)(k:s'.b=s.b)(f:Fr Q h h')(m: ∀c,Q c->∃r,d c=some r/\2+3*i<=r/\r<=4+3*i)(cT:At h' s')(qp:fJ h' s'.kp s'.kept.length s'.kc 2 (s'.kept.flatMap AV.enc))(kn: ∀c,aR s'.kp c->d c=some (3+3*i)\/h.size<=c)(uw:fJ h' s'.np s'.notes.length s'.nc 1 (s'.notes.flatMap nE))(N: ∀c,aR s'.np c->d c=some (4+3*i)\/h.size<=c)(K: ∀c,aR s'.kp c->aR s'.np c->False)(b: ∀c,E c->h.size<=c/\c<h'.size/\¬aR s'.kp c/\¬aR s'.np c)(kd: ∀a∈s'.kept,a.v.ok h' (λc=>X.D c\/E c))(nd: ∀n∈s'.notes,n.ok h' (λc=>X.D c\/E c)):
  ∃x,rM h' t x ((L.map SC.abs).set i s'.abs) (L.map SC.b)/\bm X h x h':=by
 obtain⟨x,e,F,M,g,o'⟩:=T.RI (Q:=Q) (E:=E) j o k f m cT qp kn uw N K (λc H=>⟨by
  cases l:d c with
  |none=>rfl
  |some r=>have:=T.MP c r l;have:=(b c H).1;omega,(b c H).2⟩) kd nd
 exact⟨x,e,F,M,λc H=>(g c H).imp (λh=>h) (λh=>(b c h).1),o'⟩
theorem Db.flag{s s':SC}(T:Db h t d X.D L)(v: ∀c,X.M c↔ ∃r,d c=some r)(m:L[i]? =some s)(y:s'.b=s.b)(hk:s'.kept=s.kept/\s'.kp=s.kp/\s'.kc=s.kc)(j:s'.notes=s.notes/\s'.np=s.np/\s'.nc=s.nc)(cT:At h' s')(B:h'.size=h.size)(z: ∀x,x≠s.b->h'[x]? =h[x]?): ∃l,rM h' t l ((L.map SC.abs).set i s'.abs) (L.map SC.b)/\bm X h l h':=by
 have H:=T.ses i s m;have f:Fr (λx=>x=s.b) h h':=Fr.of_eq B z;have N: ∀c,aR s.kp c->¬c=s.b:=λc g e=>by have k:=H.kl c g;rw[e,H.lb]at k;simp at k
 have C: ∀c,aR s.np c->¬c=s.b:=λc g e=>by have k:=H.nl c g;rw[e,H.lb]at k;simp at k
 have nD: ∀c,X.D c->¬c=s.b:=λc g e=>T.ap c _ (e▸H.lb) g
 refine T.Tw (Q:=λx=>x=s.b) (E:=λ_=>False) v m y f (λc e=>⟨_,e▸H.lb,ag,ag⟩) cT ?_ ?_ ?_ ?_ ?_ (λc g=>g.elim) ?_ ?_
 .rw[hk.1,hk.2.1,hk.2.2];exact H.qp.frame f N
 .rw[hk.2.1];exact λc g=> .inl (H.kl c g)
 .rw[j.1,j.2.1,j.2.2];exact H.uw.frame f C
 .rw[j.2.1];exact λc g=> .inl (H.nl c g)
 .rw[hk.2.1,j.2.1];exact λc k o=>by have a:=H.kl c k;have b:=H.nl c o;rw[a]at b;simp at b
 .rw[hk.1];exact λa w=>((H.kd a w).frame f nD).mono (λc=> .inl)
 .rw[j.1];exact λn j=>((H.nd n j).frame f nD).mono (λc=> .inl)
open Classical in
theorem Db.add{s:SC}{p:cy}{c0:Nat}{Q:Nat->Prop}(T:Db h t d X.D L)(y: ∀c,X.M c↔ ∃r,d c=some r)(f:Fr Q h h')(v: ∀c,Q c->d c=some 0\/d c=some 1)(B:h'[t]? =some (.cells #[.bool true,.slice p (L.length+1) c0] 90 (0,0)))(own:fJ h' p (L.length+1) c0 1 (L.map (λs=> .P s.b 0)++ [.P s.b 0]))(C: ∀x,aR p x->d x=some 1\/h.size<=x)(E: ¬aR p s.b)(cT:At h' s)(F:h.size<=s.b)(hk:s.kept= []/\s.kp=none/\s.kc=0)(m:s.notes= []/\s.np=none/\s.nc=0):
  ∃w,rM h' t w (L.map SC.abs++ [s.abs]) (L.map SC.b++ [s.b])/\bm X h w h':=by
 have G:=aD cT
 let n:PU:=λc=>if c=s.b then some (2+3*L.length)else if h.size<=c/\aR p c then some 1 else d c
 have py: ∀c r,d c=some r->n c=some r:=λc r H=>by
  have:=T.MP c r H;show(if c=s.b then some (2+3*L.length)else if h.size<=c/\aR p c then some 1 else d c)=some r;rw[ae (λk=>ag),ae (λk=>ag)];exact H
 have new: ∀c r,n c=some r->d c=some r\/(h.size<=c/\(c=s.b\/aR p c)):=λc r H=>by
  have H:(if c=s.b then some (2+3*L.length)else if h.size<=c/\aR p c then some 1 else d c)=some r:=H;split at H
  .rename_i k;exact .inr ⟨ag,.inl k⟩
  .split at H
   .rename_i k;exact .inr ⟨k.1,.inr k.2⟩
   .exact .inl H
 have hd: ∀c,X.D c->¬Q c:=λc z b=>(v c b).elim (λh1=>T.ap c _ h1 z) (λh1=>T.ap c _ h1 z)
 refine⟨⟨λc=> ∃r,n c=some r,X.D⟩,⟨n,L++ [s],⟨⟨p,c0,?_,?_,?_⟩,py t 0 T.MO,?_,?_,?_,?_⟩,?_,by rw[aZ];rfl,λc=>eE⟩,?_,?_,λc=> .inl,λc=>id⟩
 .rw[aA];exact B
 .rw[aA,aZ];exact own
 .intro x b;show(if x=s.b then some (2+3*L.length)else if h.size<=x/\aR p x then some 1 else d x)=some 1;rw[ae (λe:x=s.b=>E (e▸b))];rcases C x b with h1|h1
  .have:=T.MP x _ h1;rw[ae (λk=>ag)];exact h1
  .rw[af ⟨h1,b⟩]
 .intro j S l;by_cases e:j<L.length
  .rw[cS e]at l;refine((T.ses j S l).frame f (λc r H h1 g b=> ?_) hd).mono py (λc h=>h);rcases v c b with h3|h3
   .rw[H]at h3;cases h3;omega
   .rw[H]at h3;cases h3;omega
  .rw[cG ag]at l;have e2:j=L.length:=by
    have:=(aB.1 l).1;simp at this;omega
   subst e2;simp at l;subst l;refine⟨cT,?_,?_,?_,?_,?_,?_,?_⟩
   .show(if s.b=s.b then some (2+3*L.length)else _)=_;rw[af rfl]
   .rw[hk.1,hk.2.1,hk.2.2];exact .nil rfl rfl rfl rfl
   .rw[hk.2.1];rintro c ⟨a,e,_⟩;cases e
   .rw[m.1,m.2.1,m.2.2];exact .nil rfl rfl rfl rfl
   .rw[m.2.1];rintro c ⟨a,e,_⟩;cases e
   .rw[hk.1];intro a o;cases o
   .rw[m.1];intro a o;cases o
 .intro c r H;rcases new c r H with h1|⟨_,h1|h1⟩
  .exact cC (T.MP c r h1) f.1
  .omega
  .exact own.dY h1
 .intro c h1;exact cC (T.EN c h1) f.1
 .intro c r H h1;rcases new c r H with g|⟨g,_⟩
  .exact T.ap c r g h1
  .have:=T.EN c h1;omega
 .rw[aZ];rfl
 .exact f.mono (λc _ b=>(y c).2 ((v c b).elim (λh1=>⟨_,h1⟩) (λh1=>⟨_,h1⟩)))
 .rintro c ⟨r,H⟩;rcases new c r H with g|⟨g,_⟩
  .exact .inl ((y c).2 ⟨r,g⟩)
  .exact .inr g
theorem tA:oy Tryz.prog 74 161 2 32 (.agg #[.U 0,.Z]):=⟨dj,dj,rfl⟩
theorem uA:Tryz.prog.underlying 74=some (.slice 161):=dj
theorem gM(a:AV):a.enc.length=2:=rfl
theorem MQ(xs:List AV): ∀v∈xs.flatMap AV.enc,fR v=true:=by
 intro v b;obtain⟨a,_,H⟩:=List.mem_flatMap.1 b;simp at H;rcases H with rfl|rfl<;>rfl
theorem JZ{xs:List AV}{n m:Nat}(H:Row h p (xs.flatMap AV.enc))(j:n=xs.length)(k:xs.length<=1000000000)(hk: ∀P c' h',fJ h' P xs.length c' 2 (xs.flatMap AV.enc)->Fr No h h'->(∀x,aR P x->h.size<=x)->R (.slice P xs.length c') h'):
  Cl 111 #[.slice p n m] h R:=by
 subst j;refine ie.walk ?_;cases p with
 |none=>
  have:xs= []:=by
   rcases H with H|⟨a,e,_⟩
   .cases xs with
    |nil=>rfl
    |cons b bs=>cases H
   .cases e
  subst this;exact hk none 0 h (.nil rfl rfl rfl rfl) (Fr.refl _ _) (λx ⟨a,e,_⟩=>by cases e)
 |some a=>
  simp only[gA,au,aM];exact vi tA uA H (eU AV.enc 2 gM xs) (MQ xs) ag ag λP c' h' o f g=>⟨_,_,_,rfl,hk P c' h' o f g⟩
theorem BE{xs:List BV}{n m:Nat}(H:Row h p (xs.flatMap nE))(j:n=xs.length)(k:xs.length<=1000000000)(hk: ∀P c' h',fJ h' P xs.length c' 1 (xs.flatMap nE)->Fr No h h'->(∀x,aR P x->h.size<=x)->R (.slice P xs.length c') h'):
  Cl 198 #[.slice p n m] h R:=by
 subst j;refine kY.walk ?_;cases p with
 |none=>
  have:xs= []:=by
   rcases H with H|⟨a,e,_⟩
   .cases xs with
    |nil=>rfl
    |cons b bs=>cases H
   .cases e
  subst this;exact hk none 0 h (.nil rfl rfl rfl rfl) (Fr.refl _ _) (λx ⟨a,e,_⟩=>by cases e)
 |some a=>
  simp only[gA,au,aM];exact vi tN uN H (eU nE 1 nF xs) (MD xs) ag ag λP c' h' o f g=>⟨_,_,_,rfl,hk P c' h' o f g⟩
abbrev qq(h:ai)(b:Nat)(id:Nat):Prop:=h[b]? =some (.cells #[.int .u64 (id:Int)] 27 (0,0))
def xw(xs:List AV)(id:Nat):Int:=match xs.findIdx? (λa=>decide (a.id=id))with|some k=>(k:Int)|none=> -1
theorem EO{b id:Nat}(a:AV)(hid:qq h b id)(hk: gL h R (.bool (decide (a.id=id)))):Cl 110 #[.agg #[.U (a.id:Int),a.v.val],.P b 0] h R:=by
 refine pk.walk (cz.box λb1 H E f f1=>⟨_,ar f,_,ar (f1.get hid (λx=>x)),?_⟩);have e:((a.id:Int)==(id:Int))=decide (a.id=id):=by
  by_cases q:a.id=id
  .simp[q]
  .have: ¬(a.id:Int)=(id:Int):=ag
   simp[q,this]
 rw[e];exact hk H f1
theorem GO{xs:List AV}{n m b id:Nat}(z:Row h p (xs.flatMap AV.enc))(y:n=xs.length)(F:xs.length<=1000000000)(hid:qq h b id)(hk: gL h R (.I (xw xs id))):
  Cl 89 #[.slice p n m,.func (.func 110) #[] #[.P b 0]] h R:=by
 subst y;refine dZ.mU.walk ?_;refine⟨λi h'=>Fr No h h'/\∃k:Nat,i=(k:Int)/\k<=xs.length/\∀j (H:j<xs.length),j<k->xs[j].id≠id,λi _=>xs.length - i.toNat,⟨Fr.refl _ _,0,rfl,ag,λj _ H=>ag⟩,?_⟩;rintro _ g ⟨f1,k,rfl,E,f⟩;have r:=z.frame f1 (λ_ _ x=>x);have w:qq g b id:=f1.get hid (λx=>x);by_cases o:k<xs.length
 .have q1:(k:Int)<(xs.length:Int):=ag
  simp only[q1,bC,bj,aI];have B:xs[k]? =some xs[k]:=aj o;obtain⟨a,rfl⟩:=r.some (λe=>by have:=bU List.length e;rw[eU AV.enc 2 gM,bz]at this;omega);refine⟨⟨ag,by first|trivial|omega⟩,aw.2 (cz.FA (r.gJ gM B) ?_)⟩;refine EO xs[k] w λs f2=>⟨_,rfl,?_⟩
  by_cases e:xs[k].id=id
  .simp only[e,bC,bj];have:xw xs id=(k:Int):=by
    unfold xw;have:xs.findIdx? (λa=>decide (a.id=id))=some k:=by
     rw[cp];exact⟨o,cA e,λj H=>by simpa using f j ag H⟩
    rw[this]
   rw[this]at hk;exact hk s (f1.tt f2)
  .simp only[e,bp,au,aM];rw[bD ag ag];refine⟨⟨f1.tt f2,k+1,ag,ag,λj H C=> ?_⟩,?_⟩
   .by_cases q:j=k
    .subst q;exact e
    .exact f j H ag
   .show xs.length - Int.toNat ((k:Int)+1)<xs.length - Int.toNat (k:Int);omega
 .have q1: ¬(k:Int)<(xs.length:Int):=ag
  simp only[q1,bp,au,aM];have:xw xs id= -1:=by
   unfold xw;have:xs.findIdx? (λa=>decide (a.id=id))=none:=by
    rw[cY];intro a v;obtain⟨j,H⟩:=bE v;have l:=(aB.1 H).1;rw[aj l]at H;obtain rfl:=aX H;simpa using f j l ag
   rw[this]
  rw[this]at hk;exact hk g f1
theorem MR{b id:Nat}(a:AV)(hid:qq h b id)(hk: gL h R (.bool (decide (a.id=id)))):Cl 90 #[.agg #[.U (a.id:Int),a.v.val],.P b 0] h R:=by
 refine pn.walk (cz.box λb1 H E f f1=>⟨_,ar f,_,ar (f1.get hid (λx=>x)),?_⟩);have e:((a.id:Int)==(id:Int))=decide (a.id=id):=by
  by_cases q:a.id=id
  .simp[q]
  .have: ¬(a.id:Int)=(id:Int):=ag
   simp[q,this]
 rw[e];exact hk H f1
theorem GP{xs:List AV}{n m b id:Nat}(z:Row h p (xs.flatMap AV.enc))(y:n=xs.length)(F:xs.length<=1000000000)(hid:qq h b id)(hk: gL h R (.I (xw xs id))):
  Cl 89 #[.slice p n m,.func (.func 90) #[] #[.P b 0]] h R:=by
 subst y;refine dZ.kept.walk ?_;refine⟨λi h'=>Fr No h h'/\∃k:Nat,i=(k:Int)/\k<=xs.length/\∀j (H:j<xs.length),j<k->xs[j].id≠id,λi _=>xs.length - i.toNat,⟨Fr.refl _ _,0,rfl,ag,λj _ H=>ag⟩,?_⟩;rintro _ g ⟨f1,k,rfl,E,f⟩;have r:=z.frame f1 (λ_ _ x=>x);have w:qq g b id:=f1.get hid (λx=>x);by_cases o:k<xs.length
 .have q1:(k:Int)<(xs.length:Int):=ag
  simp only[q1,bC,bj,aI];have B:xs[k]? =some xs[k]:=aj o;obtain⟨a,rfl⟩:=r.some (λe=>by have:=bU List.length e;rw[eU AV.enc 2 gM,bz]at this;omega);refine⟨⟨ag,by first|trivial|omega⟩,aw.2 (cz.FA (r.gJ gM B) ?_)⟩;refine MR xs[k] w λs f2=>⟨_,rfl,?_⟩
  by_cases e:xs[k].id=id
  .simp only[e,bC,bj];have:xw xs id=(k:Int):=by
    unfold xw;have:xs.findIdx? (λa=>decide (a.id=id))=some k:=by
     rw[cp];exact⟨o,cA e,λj H=>by simpa using f j ag H⟩
    rw[this]
   rw[this]at hk;exact hk s (f1.tt f2)
  .simp only[e,bp,au,aM];rw[bD ag ag];refine⟨⟨f1.tt f2,k+1,ag,ag,λj H C=> ?_⟩,?_⟩
   .by_cases q:j=k
    .subst q;exact e
    .exact f j H ag
   .show xs.length - Int.toNat ((k:Int)+1)<xs.length - Int.toNat (k:Int);omega
 .have q1: ¬(k:Int)<(xs.length:Int):=ag
  simp only[q1,bp,au,aM];have:xw xs id= -1:=by
   unfold xw;have:xs.findIdx? (λa=>decide (a.id=id))=none:=by
    rw[cY];intro a v;obtain⟨j,H⟩:=bE v;have l:=(aB.1 H).1;rw[aj l]at H;obtain rfl:=aX H;simpa using f j l ag
   rw[this]
  rw[this]at hk;exact hk g f1
def ph(u:ai)(p:cy)(cap b id:Nat)(xs:List AV)(i j:Int)(h:ai):Prop:=
 ∃(a k:Nat)(zs:List AV),i=(a:Int)/\j=(k:Int)/\a<k/\k<=xs.length/\zs.length=xs.length/\zs.take a=(xs.take k).filter (λx=>decide (x.id≠id))/\zs.drop k=xs.drop k/\fJ h p xs.length cap 2 (zs.flatMap AV.enc)/\Fr (aR p) u h/\qq h b id
theorem GQ{xs:List AV}{cap b id n:Nat}(own:fJ h p xs.length cap 2 (xs.flatMap AV.enc))(hn:n=xs.length)(hl:xs.length<=1000000000)(hid:qq h b id)(J: ¬aR p b)(hk: ∀h',fJ h' p (xs.filter (λx=>decide (x.id≠id))).length cap 2 ((xs.filter (λx=>decide (x.id≠id))).flatMap AV.enc)->Fr (aR p) h h'->qq h' b id->R (.slice p (xs.filter (λx=>decide (x.id≠id))).length cap) h'):
  Cl 109 #[.slice p n cap,.func (.func 110) #[] #[.P b 0]] h R:=by
 subst hn;refine gU.mU.walk (GO own.iw rfl hl hid λg f1=>⟨_,rfl,?_⟩);have GR:=own.frame f1 (λ_ _ x=>x);have r:qq g b id:=f1.get hid (λx=>x);have F:Fr (aR p) h g:=f1.mono (λ_ _=>False.elim);unfold xw;cases m:xs.findIdx? (λa=>decide (a.id=id))with
 |none=>
  rw[af (by rfl)];have e':xs.filter (λx=>decide (x.id≠id))=xs:=by
   rw[cj];intro a l;have:=cY.1 m a l;simpa using this
  rw[e']at hk;exact hk g GR F r
 |some k=>
  dsimp only;rw[ae (by simp only[cR];omega)];obtain⟨S,w,Q⟩:=cp.1 m;rw[bD ag ag];have T:(xs.take (k+1)).filter (λx=>decide (x.id≠id))=xs.take k:=by
   rw[bQ,aj S,fy];have e1:(xs.take k).filter (λx=>decide (x.id≠id))=xs.take k:=by
    rw[cj];intro a l;obtain⟨j,H⟩:=bE l;rw[cP]at H;split at H
    .rename_i g';have s:j<xs.length:=ag
     rw[aj s]at H;obtain rfl:=aX H;simpa using Q j g'
    .cases H
   have e2: [xs[k]].filter (λx=>decide (x.id≠id))= []:=by
    simp at w;simp[w]
   rw[e1];show xs.take k++ [xs[k]].filter (λx=>decide (x.id≠id))=_;rw[e2,List.append_nil]
  refine⟨ph h p cap b id xs,λ_ j _=>xs.length - j.toNat,⟨k,k+1,xs,rfl,ag,ag,ag,rfl,T.symm,rfl,GR,F,r⟩,?_⟩;clear GR r F f1 T Q w S m;rintro _ _ h2 ⟨a,j,zs,rfl,rfl,p',q',W,f,y,o,z,N⟩;by_cases s:j<xs.length
  .have q1:(j:Int)<(xs.length:Int):=ag
   simp only[q1,bC,bj,aI];have V:xs[j]? =some xs[j]:=aj s;have j':zs[j]? =some xs[j]:=by
    have:=bU (·[0]?) y;simpa[V]using this
   have E:(xs.take (j+1)).filter (λx=>decide (x.id≠id))=(xs.take j).filter (λx=>decide (x.id≠id))++if xs[j].id=id then []else [xs[j]]:=by
    rw[bQ,V,fy];congr 1
    by_cases e:xs[j].id=id<;>simp[e]
   generalize xs[j]=x at*;obtain⟨ab,b',rfl⟩:=o.addr ag;refine aG.of λn' G=>⟨⟨ag,by first|trivial|omega⟩,aw.2 (cz.FA (o.gJ gM j') (cz.new λb6 h6 o' K f6=>cz.ld K ?_))⟩
   have O:qq h6 b id:=f6.get N (λx=>x);refine EO x O λC f7=>⟨_,rfl,?_⟩
   have f27:=f6.tt f7;have a':=o.frame f27 (λ_ _ x=>x);have P:qq C b id:=f7.get O (λx=>x);have B:=z.on f27;refine aG.of λJ1 d'=> ?_
   subst d';by_cases e:x.id=id
   .simp only[e,bC,cN,au,aM];subst G;rw[bD ag ag];rw[af e,List.append_nil]at E;refine⟨⟨a,j+1,zs,rfl,ag,ag,ag,W,by rw[E];exact f,?_,a',B,P⟩,?_⟩
    .have:=bU (List.drop 1) y;rw[List.drop_drop,List.drop_drop]at this;exact this
    .show xs.length - Int.toNat ((j:Int)+1)<xs.length - Int.toNat (j:Int);omega
   .simp only[e,bp,dK,bj];have f':=f7.get K (λx=>x);rw[ae e]at E;refine cz.ld f' ⟨⟨ag,by first|trivial|omega⟩,aw.2 ?_⟩;have I:a<zs.length:=ag
    have M:=eU AV.enc 2 gM zs;refine a'.store (by rw[M];omega) λh9 l' s9 o9=> ?_
    rw[add_add];refine l'.store (by rw[dy,M];omega) λc' Y m' k'=> ?_
    rw[Jb gM I rfl]at Y;subst G;rw[bD ag ag,bD ag ag];have f10:Fr (aR (Sa ab b')) C c':=(Fr.of_eq s9 o9).tt (Fr.of_eq m' k');refine⟨⟨a+1,j+1,zs.set a x,ag,ag,ag,ag,by rw[dy];exact W,?_,?_,Y,B.tt f10,f10.get P J⟩,?_⟩
    .rw[E,<-f,bQ,dt,af rfl,af I,List.take_set_of_le (bk a)];rfl
    .rw[List.drop_set_of_lt ag];have:=bU (List.drop 1) y;rw[List.drop_drop,List.drop_drop]at this;exact this
    .show xs.length - Int.toNat ((j:Int)+1)<xs.length - Int.toNat (j:Int);omega
  .have q1: ¬(j:Int)<(xs.length:Int):=ag
   simp only[q1,bp,au,aM];obtain rfl:j=xs.length:=ag
   rw[fb]at f;have i':(xs.filter (λx=>decide (x.id≠id))).length=a:=by rw[<-f,bB];omega
   refine⟨ag,?_⟩;simp only[aI];refine Ba tA (by intro v U;simp[Value.cells]at U;rcases U with rfl|rfl<;>rfl) o ag λh3 Z f3=>⟨rfl,⟨ag,bY own.le⟩,?_⟩
   rw[lO AV.enc 2 gM,f]at Z;rw[jN,Nat.sub_zero,Nat.sub_zero];rw[i']at hk;exact hk h3 Z (z.tt f3) (f3.get N J)
end fj
end
section
namespace fj
variable {A:List fj} {num:Int} {s s':fj} {i:Nat} {d:cD}
structure sY (i:Nat) (s:fj):Prop where
 num:s.num=i+1
 tk:1<=s.token/\s.token<=2147483648
 kl:s.kept.length<=6
 nl:s.notes.length<=6
 kd: ∀a∈s.kept,a.1<=1099511627776/\a.2.length<=1000
 nd: ∀n∈s.notes,1<=n.length/\n.length<=600
 ki:(s.kept.map (·.1)).Nodup
structure lB (A:List fj):Prop where
 le:A.length<=8
 at_: ∀i s,A[i]? =some s->sY i s
 tk:(A.map (·.token)).Nodup
def mw(A:List fj)(num:Int):Option fj:=if 1<=num then A[(num - 1).toNat]? else none
theorem BF(h:mw A num=some s): ∃i:Nat,num=(i:Int)+1/\A[i]? =some s:=by
 unfold mw at h;split at h
 .exact⟨(num - 1).toNat,ag,h⟩
 .cases h
theorem oJ :mw A ((i:Int)+1)=A[i]? :=by
 unfold mw;rw[fK,show((i:Int)+1 - 1).toNat=i by omega]
theorem kq(h:num<1\/num>(A.length:Int)):mw A num=none:=by
 unfold mw;split
 .rw[cK ag]
 .rfl
def kr(A:List fj)(num:Int)(s:fj):List fj:=A.set (num - 1).toNat s
def QA(A:List fj)(num:Int):Bool:=match mw A num with|some s=>s.up|none=>false
def EP(A:List fj)(token:Nat):Bool:=A.any λs=>decide (s.token=token)
def nJ(A:List fj)(token:Nat):Int:=if token<1\/token>2147483648 then 1 else if EP A token=true then 12 else if A.length≥8 then 5 else 0
def ER(A:List fj)(token:Nat):Int:=if nJ A token=0 then(A.length:Int)+1 else 0
def ux(A:List fj)(token:Nat):List fj:=if nJ A token=0 then A++ [⟨A.length+1,token,true,false, [], []⟩]else A
def QB(A:List fj)(token:Nat):Int:=match A.findIdx? (λs=>decide (s.token=token))with|none=>12|some i=>match A[i]? with|some s=>if s.up=true then 7 else 0|none=>12
def MS(A:List fj)(token:Nat):Int:=match A.findIdx? (λs=>decide (s.token=token))with|none=>0|some i=>match A[i]? with|some s=>if s.up=true then 0 else(s.num:Int)|none=>0
def J0(A:List fj)(token:Nat):List fj:=match A.findIdx? (λs=>decide (s.token=token))with|none=>A|some i=>match A[i]? with|some s=>if s.up=true then A else A.set i { s with up:=true } |none=>A
def MT(A:List fj)(num:Int):Int:=match mw A num with|none=>4|some s=>if s.up=true then 0 else 7
def BG(A:List fj)(num:Int):List fj:=match mw A num with|none=>A|some s=>if s.up=true then kr A num { s with up:=false } else A
def mf(A:List fj):List fj:=A.map λs=> { s with up:=false }
def iZ(k:List (Nat×cD))(id:Nat)(d:cD):List (Nat×cD):=
 if(k.filter (λa=>decide (a.1≠id))++ [(id,d)]).length>6 then(k.filter (λa=>decide (a.1≠id))++ [(id,d)]).drop 1 else k.filter (λa=>decide (a.1≠id))++ [(id,d)]
def MU(A:List fj)(num:Int)(id:Nat)(d:cD):Int:=match mw A num with|none=>4|some _=>if id>1099511627776\/d.length>1000 then 1 else 0
def zJ(A:List fj)(num:Int)(id:Nat)(d:cD):List fj:=match mw A num with|none=>A|some s=>if id>1099511627776\/d.length>1000 then A else kr A num { s with kept:=iZ s.kept id d }
def Ih(k:List (Nat×cD))(id:Nat):Option (cD):=(k.find? (λa=>decide (a.1=id))).map (·.2)
def BH(A:List fj)(num:Int)(id:Nat):Option (cD):=match mw A num with|none=>none|some s=>Ih s.kept id
def vS(A:List fj)(num:Int):Int:=match mw A num with|none=>4|some _=>0
def jx(A:List fj)(num:Int)(on:Bool):List fj:=match mw A num with|none=>A|some s=>kr A num { s with watch:=on }
def qS(d:cD):Bool:=decide (1<=d.length/\d.length<=600)
def BI(A:List fj)(num:Int)(d:cD):Int:=match mw A num with|none=>4|some s=>if qS d=true then(if s.watch=true then 0 else 7)else 1
def BJ(l:List (cD))(d:cD):List (cD):=if(l++ [d]).length>6 then(l++ [d]).drop 1 else l++ [d]
def zK(A:List fj)(num:Int)(d:cD):List fj:=match mw A num with|none=>A|some s=>if qS d=true/\s.watch=true then kr A num { s with notes:=BJ s.notes d } else A
def MV(A:List fj)(num:Int):Int:=match mw A num with|none=>4|some _=>0
def Ii(A:List fj)(num:Int):Int:=match mw A num with|none=>0|some s=>(s.notes.length:Int)
def BK(A:List fj)(num:Int):cD:=match mw A num with|none=> []|some s=>s.notes.headD []
def BL(A:List fj)(num:Int):List fj:=match mw A num with|none=>A|some s=>kr A num { s with notes:=s.notes.drop 1 }
theorem lB.set(ok:lB A)(H:A[i]? =some s)(b:s'.token=s.token)(h':sY i s'):lB (A.set i s'):=by
 have a:=(aB.1 H).1;refine⟨by rw[dy];exact ok.le,λj u h=> ?_,?_⟩
 .rw[dt]at h;by_cases e:i=j
  .subst e;rw[af rfl,af a]at h;obtain rfl:=aX h;exact h'
  .rw[ae e]at h;exact ok.at_ j u h
 .rw[List.map_set,b,uv (by rw[aK,H];rfl)];exact ok.tk
theorem lB.kr(ok:lB A)(H:mw A num=some s)(a:s'.token=s.token)(h': ∀i,sY i s->sY i s'):lB (kr A num s'):=by
 obtain⟨i,rfl,h⟩:=BF H;unfold fj.kr;rw[show((i:Int)+1 - 1).toNat=i by omega];exact ok.set h a (h' i (ok.at_ i s h))
theorem lB.open(ok:lB A)(token:Nat):lB (ux A token):=by
 unfold ux;split
 .rename_i h;unfold nJ at h;split at h
  .cases h
  rename_i l;split at h
  .cases h
  rename_i f;split at h
  .cases h
  rename_i m;refine⟨by rw[aA,dp];omega,λj u H=> ?_,?_⟩
  .by_cases e:j<A.length
   .rw[cS e]at H;exact ok.at_ j u H
   .rw[cG ag]at H;have e2:j=A.length:=by
     have:=(aB.1 H).1;simp at this;omega
    subst e2;simp at H;subst H;exact⟨rfl,by show 1<=token/\token<=2147483648;omega,bP,bP,bP,bP,bP⟩
  .rw[aZ,eK];refine⟨ok.tk,bP,λa g b c e=> ?_⟩;simp at c;subst c;subst e;apply f
   unfold EP;rw[List.any_eq_true];obtain⟨s,k,e⟩:=bh.1 g;exact⟨s,k,cA e⟩
 .exact ok
theorem lB.res(ok:lB A)(token:Nat):lB (J0 A token):=by
 unfold J0;split
 .exact ok
 .split
  .rename_i s h;split
   .exact ok
   .have o:=ok.at_ _ s h;exact ok.set h rfl ⟨o.num,o.tk,o.kl,o.nl,o.kd,o.nd,o.ki⟩
  .exact ok
theorem lB.down(ok:lB A)(num:Int):lB (BG A num):=by
 unfold BG;split
 .exact ok
 .rename_i s h;split
  .exact ok.kr h rfl λi o=>⟨o.num,o.tk,o.kl,o.nl,o.kd,o.nd,o.ki⟩
  .exact ok
theorem lB.OS(ok:lB A):lB (mf A):=by
 unfold mf;refine⟨by rw[aF];exact ok.le,λj u h=> ?_,by rw[dE];exact ok.tk⟩;rw[aK]at h;cases H:A[j]? with
 |none=>rw[H]at h;cases h
 |some s=>
  rw[H]at h;simp at h;subst h;have o:=ok.at_ j s H;exact⟨o.num,o.tk,o.kl,o.nl,o.kd,o.nd,o.ki⟩
theorem MW{k:List (Nat×cD)}{id:Nat}(hk:k.length<=6)(j: ∀a∈k,a.1<=1099511627776/\a.2.length<=1000)(l:(k.map (·.1)).Nodup)(f:id<=1099511627776)(g:d.length<=1000):
  (iZ k id d).length<=6/\(∀a∈iZ k id d,a.1<=1099511627776/\a.2.length<=1000)/\((iZ k id d).map (·.1)).Nodup:=by
 have n:(k.filter (λa=>decide (a.1≠id))++ [(id,d)]).length<=7:=by
  have:=cr (λa=>decide (a.1≠id)) k;rw[aA,dp];omega
 have h: ∀a∈k.filter (λa=>decide (a.1≠id))++ [(id,d)],a.1<=1099511627776/\a.2.length<=1000:=by
  intro a ha;rcases bM.1 ha with ha|ha
  .exact j a (ba.1 ha).1
  .simp at ha;subst ha;exact⟨f,g⟩
 have c:((k.filter (λa=>decide (a.1≠id))++ [(id,d)]).map (·.1)).Nodup:=by
  rw[aZ,eK];refine⟨(cJ.map _).nodup l,bP,λa ha b H e=> ?_⟩;simp at H;subst H;subst e;obtain⟨x,m,e⟩:=bh.1 ha;have:=(ba.1 m).2;simp at this;exact this e
 unfold iZ;split
 .refine⟨by rw[bF];omega,λa ha=>h a (fF ha),?_⟩;rw[List.map_drop];exact(List.drop_sublist _ _).nodup c
 .exact⟨ag,h,c⟩
theorem lB.mU(ok:lB A)(num:Int)(id:Nat)(d:cD):lB (zJ A num id d):=by
 unfold zJ;split
 .exact ok
 .rename_i s h;split
  .exact ok
  .rename_i H;refine ok.kr h rfl λi o=> ?_
   obtain⟨k,K,a⟩:=MW (id:=id) (d:=d) o.kl o.kd o.ki ag ag;exact⟨o.num,o.tk,k,o.nl,K,o.nd,a⟩
theorem lB.watch(ok:lB A)(num:Int)(on:Bool):lB (jx A num on):=by
 unfold jx;split
 .exact ok
 .rename_i s h;exact ok.kr h rfl λi o=>⟨o.num,o.tk,o.kl,o.nl,o.kd,o.nd,o.ki⟩
theorem MX{l:List (cD)}(a:l.length<=6)(hd: ∀n∈l,1<=n.length/\n.length<=600)(H:1<=d.length/\d.length<=600):(BJ l d).length<=6/\∀n∈BJ l d,1<=n.length/\n.length<=600:=by
 have h: ∀n∈l++ [d],1<=n.length/\n.length<=600:=by
  intro n hn;rcases bM.1 hn with hn|hn
  .exact hd n hn
  .simp at hn;subst hn;exact H
 unfold BJ;split
 .exact⟨by rw[bF,aA,dp];omega,λn hn=>h n (fF hn)⟩
 .exact⟨ag,h⟩
theorem lB.note(ok:lB A)(num:Int)(d:cD):lB (zK A num d):=by
 unfold zK;split
 .exact ok
 .rename_i s H;split
  .rename_i h;have hd:1<=d.length/\d.length<=600:=by have:=h.1;unfold qS at this;simpa using this
   refine ok.kr H rfl λi o=> ?_
   obtain⟨k,K⟩:=MX o.nl o.nd hd;exact⟨o.num,o.tk,o.kl,k,o.kd,K,o.ki⟩
  .exact ok
theorem lB.read(ok:lB A)(num:Int):lB (BL A num):=by
 unfold BL;split
 .exact ok
 .rename_i s H;refine ok.kr H rfl λi o=>⟨o.num,o.tk,o.kl,?_,o.kd,λn h=>o.nd n (fF h),o.ki⟩
  have:=o.nl;rw[bF];omega
theorem lB.nil:lB []:=⟨bP,bP,bP⟩

end fj
end
section
open Go.fT
namespace fj
open kK
variable {h h':ai} {t:Nat} {X:Ft} {R:fp} {p q:cy} {c i:Nat} {KY:PU} {D:Nat→Prop} {L:List SC} {A:List fj}
variable {num:Int} {k:Nat}
theorem tP:oy Tryz.prog 88 91 1 8 (.pointer none):=⟨dj,dj,rfl⟩
theorem uP:Tryz.prog.underlying 88=some (.slice 91):=dj
theorem iT(hk: ∀h' t X,Has h' t X []->Fr No h h'->(∀x,X.M x\/X.D x->h.size<=x)->R (.P t 0) h'):Cl 35 #[] h R:=by
 refine Da.walk (cF ?_);refine hk _ _ ⟨λx=>x=h.size,λ_=>False⟩ ⟨[],λx=>if x=h.size then some 0 else none, [],⟨⟨none,0,bV,.nil rfl rfl rfl rfl,λx ⟨a,e,_⟩=>by cases e⟩,bP,λi s b=>by simp at b,?_,λ_ h=>h.elim,λ_ _ _ h=>h⟩,rfl,rfl,?_⟩ (Fr.push _ _) (λx d=>d.elim (λe=>by have e:x=h.size:=e;omega) False.elim)
 .intro x r H;split at H
  .rename_i e;rw[dJ];omega
  .cases H
 .intro x;constructor
  .intro e;have e:x=h.size:=e;exact⟨0,by simp[e]⟩
  .rintro⟨r,H⟩;dsimp only at H;split at H
   .assumption
   .cases H
theorem gH(T:Db h t KY D L)(j: ∀i s,num=((i:Nat):Int)+1->L[i]? =some s->R (.tuple #[.P s.b 0,.I 0]) h)(K:(num<1\/num>(L.length:Int))->R (.tuple #[.pointer none,.I 4]) h)(n:L.length<=1000000):
  Cl 78 #[.P t 0,.I num] h R:=by
 obtain⟨p,c,d,own,o⟩:=T.cT;refine rE.walk (aG.of λJ H=>⟨true,ar d,?_⟩);subst H;simp only[cN,au,aM];refine aG.of λJ H=> ?_
 by_cases a:num<1
 .simp only[a,bC,bj];subst H;simp only[bj];exact K (.inl a)
 .simp only[a,bp,au,aM];refine⟨_,_,_,ar d,?_⟩;by_cases b:num>(L.length:Int)
  .simp only[b,bC];subst H;simp only[bj];exact K (.inr b)
  .simp only[b,bp];subst H;simp only[au,aM];obtain⟨i,rfl⟩: ∃i:Nat,num=(i:Int)+1:=⟨(num - 1).toNat,ag⟩;have g:i<L.length:=ag
   have f:L[i]? =some L[i]:=aj g;obtain⟨l,m,rfl⟩:=own.addr ag;have e:IntKind.wrap .i64 ((i:Int)+1 - 1)=(i:Int):=by rw[bD ag ag];omega
   rw[e];refine⟨_,_,_,ar d,ag,aw.2 ⟨_,?_,j i _ rfl f⟩⟩;rw[aI,ct];exact own.cell (by rw[aK,f];rfl)
theorem uy{k:Int}(token:Nat)(o:k=(token:Int))(T:Db h t KY D L)(z:L.length<=1000000)(K: ∀i s,L[i]? =some s->s.token=token->L.findIdx? (λs=>decide (s.token=token))=some i->R (.P s.b 0) h)(r:L.findIdx? (λs=>decide (s.token=token))=none->R (.pointer none) h):Cl 40 #[.P t 0,.U k] h R:=by
 subst o;obtain⟨p,c,n,own,B⟩:=T.cT;refine uu.walk ⟨_,_,_,ar n,?_⟩;refine⟨λi h'=>h'=h/\∃k:Nat,i=(k:Int)/\k<=L.length/\∀j (H:j<L.length),j<k->L[j].token≠token,λi _=>L.length - i.toNat,⟨rfl,0,rfl,ag,λj _ H=>ag⟩,?_⟩;rintro _ w ⟨rfl,k,rfl,y,b⟩;by_cases g:k<L.length
 .have q1:(k:Int)<(L.length:Int):=ag
  simp only[q1,bC,bj,aI];have d:L[k]? =some L[k]:=aj g;obtain⟨u,v,rfl⟩:=own.addr ag;have m:=(T.ses k _ d).cT;refine⟨⟨ag,by first|trivial|omega⟩,aw.2 ⟨some ⟨L[k].b,0,none⟩,?_,aw.2 ⟨_,ar m,?_⟩⟩⟩
  .rw[ct];exact own.cell (by rw[aK,d];rfl)
  by_cases e:L[k].token=token
  .rw[af (by rw[e];simp)];refine K k _ d e ?_;rw[cp];exact⟨g,cA e,λj H=>by simpa using b j ag H⟩
  .rw[ae (by simp only[cR];omega)];rw[bD ag ag];refine⟨⟨trivial,k+1,ag,ag,λj H x=> ?_⟩,?_⟩
   .by_cases q:j=k
    .subst q;exact e
    .exact b j H ag
   .show L.length - Int.toNat ((k:Int)+1)<L.length - Int.toNat (k:Int);omega
 .have q1: ¬(k:Int)<(L.length:Int):=ag
  simp only[q1,bp,au,aM];refine r ?_;rw[cY];intro a l;obtain⟨j,H⟩:=bE l;have f:=(aB.1 H).1;rw[aj f]at H;obtain rfl:=aX H;simpa using b j f ag
theorem j0{s:SC}(H:L[i]? =some s):(L.map SC.abs)[i]? =some s.abs:=by rw[aK,H];rfl
theorem MY(token:Nat):(L.map SC.abs).findIdx? (λs=>decide (s.token=token))=L.findIdx? (λs=>decide (s.token=token)):=by
 rw[List.findIdx?_map];rfl
theorem EL(H:Has h t X A)(ok:lB A)(hk:R (.bool (QA A num)) h):Cl 28 #[.P t 0,.I num] h R:=by
 obtain⟨_,KY,L,T,rfl,_,f⟩:=H;have b:=ok.le;rw[aF]at b;unfold QA at hk;refine ur.walk (gH T (λi s e a=>⟨_,_,rfl,?_⟩) (λd=>⟨_,_,rfl,?_⟩) ag)
 .rw[af (by rfl)];subst e;rw[oJ,j0 a]at hk;exact aw.2 ⟨_,cH (T.ses i s a).cT rfl,hk⟩
 .rw[ae bP];rw[kq (by rw[aF];exact d)]at hk;exact hk
theorem xU {k : Int} (token : Nat) (Vw : k = (token : Int)) (H : Has h t X A) (ok : lB A) (hk : ∀ h' X', Has h' t X' (ux A token) → bm X h X' h' → R (.tuple #[.int .i64 (ER A token), .int .i64 (nJ A token)]) h') :
    Cl 12 #[.pointer (some ⟨t, 0, none⟩), .int .u64 k] h R := by
  subst Vw
  have H0 := H
  obtain ⟨_, KY, L, TB, rfl, _, hS⟩ := H
  have hl := ok.le
  rw [List.length_map] at hl
  obtain ⟨p, c, hb, own, hp⟩ := TB.cT
  refine rF.walk (aG.of λJ hJ => ⟨true, cH hb rfl, ?_⟩)
  subst hJ
  simp only [Bool.not_true, Bool.false_eq_true, if_false]
  refine aG.of λJ hJ => ?_
  unfold ER ux at hk
  have jt : (token < 1 ∨ token > 2147483648) → J true h := by
    intro hh
    subst hJ
    simp only [if_true]
    have e : nJ (L.map SC.abs) token = 1 := by unfold nJ; rw [if_pos hh]
    rw [e] at hk
    exact hk h X H0 (bm.refl _ _)
  have jf : ¬ (token < 1 ∨ token > 2147483648) → J false h := by
    intro hh
    subst hJ
    simp only [Bool.false_eq_true, if_false]
    refine uy token rfl TB (by omega) (λi s hs ht hf => ⟨_, rfl, ?_⟩) (λhf => ⟨_, rfl, ?_⟩)
    · simp only [Option.isNone_some, Bool.not_false, if_true]
      have e : nJ (L.map SC.abs) token = 12 := by
        unfold nJ
        rw [if_neg hh, if_pos]
        unfold EP
        rw [List.any_eq_true]
        exact ⟨s.abs, List.mem_map_of_mem (List.mem_of_getElem? hs), by simp [SC.abs, ht]⟩
      rw [e] at hk
      exact hk h X H0 (bm.refl _ _)
    · simp only [Option.isNone_none, Bool.not_true, Bool.false_eq_true, if_false]
      have UA : ¬ EP (L.map SC.abs) token = true := by
        unfold EP
        rw [List.any_eq_true]
        rintro ⟨x, hx, e⟩
        obtain ⟨s, hs, rfl⟩ := List.mem_map.1 hx
        have := List.findIdx?_eq_none_iff.1 hf s hs
        rw [show s.abs.token = s.token from rfl] at e
        rw [e] at this; cases this
      refine ⟨_, _, _, cH hb rfl, ?_⟩
      by_cases h8 : (L.length : Int) ≥ 8
      · simp only [h8, decide_true, if_true]
        have e : nJ (L.map SC.abs) token = 5 := by
          unfold nJ
          rw [if_neg hh, if_neg UA, if_pos (by rw [List.length_map]; omega)]
        rw [e] at hk
        exact hk h X H0 (bm.refl _ _)
      · simp only [h8, decide_false, Bool.false_eq_true, if_false]
        have e : nJ (L.map SC.abs) token = 0 := by
          unfold nJ
          rw [if_neg hh, if_neg UA, if_neg (by rw [List.length_map]; omega)]
        rw [e] at hk
        simp only [if_true] at hk
        refine ⟨_, _, _, cH hb rfl, ?_⟩
        rw [bD (n := (L.length : Int) + 1) (by omega) (by omega)]
        refine iy.box λb h4 eb HT f4 => ?_
        have Tx := own.frame f4 (λ_ _ => id)
        refine ⟨_, _, _, cH (f4.get hb id) rfl, ?_⟩
        refine jd tP uP Tx rfl (λv hv => by simp at hv; subst hv; rfl) (by omega) (by omega) ?_
        intro p' c' h6 o6 f6 g6
        refine ⟨_, _, _, rfl, ?_⟩
        have Wu := aD hb
        have UB : ¬ aR p t := λhx => by have := hp t hx; rw [TB.MO] at this; cases this
        have Vx := f6.get (f4.get hb id) UB
        have UC : ¬ aR p b := λhx => by have := own.dY hx; omega
        have Vy := f6.get HT UC
        refine bw Vx (by simp) λh7 k1 k2 k3 => ?_
        have f7 : Fr (λx => x = t) h6 h7 := Fr.of_eq k2 k3
        have Vz : ¬ b = t := λe => by omega
        have UD := f7.get Vy Vz
        refine ⟨_, cH UD rfl, ?_⟩
        have F : Fr (λx => x = t ∨ aR p x) h h7 := (f4.mono (λ_ _ => False.elim)).tt ((f6.mono (λ_ _ hx => .inr hx)).tt (f7.mono (λ_ _ hx => .inl hx)))
        have Ty : ¬ aR p' t := λhx => (g6 t hx).elim UB (λh2 => by have := aD (f4.get hb id); omega)
        have a1 : ∀ x, x = t ∨ aR p x → KY x = some 0 ∨ KY x = some 1 := by
          rintro x (rfl | hx)
          · exact .inl TB.MO
          · exact .inr (hp x hx)
        have a2 : ∀ x, aR p' x → KY x = some 1 ∨ h.size ≤ x := by
          intro x hx
          rcases g6 x hx with h2 | h2
          · exact .inl (hp x h2)
          · have := f4.1; exact .inr (by omega)
        have a3 : ¬ aR p' b := by
          intro hx
          rcases g6 b hx with h2 | h2
          · exact UC h2
          · have := aD HT; omega
        obtain ⟨X', HH, st⟩ := TB.add (s := ⟨b, L.length + 1, token, true, false, [], none, 0, [], none, 0⟩) (p := p') (c0 := c') hS F a1 k1 (o6.frame f7 (λx hx e => Ty (e ▸ hx))) a2 a3 UD (by show h.size ≤ b; omega) ⟨rfl, rfl, rfl⟩ ⟨rfl, rfl, rfl⟩
        have := hk h7 X' (by rw [List.length_map]; exact ⟨_, HH⟩) st
        rw [List.length_map] at this
        exact this
  clear hJ
  by_cases h1 : token < 1
  · have : (token : Int) < 1 := by omega
    simp only [this, decide_true, if_true]
    exact jt (.inl h1)
  · have : ¬ (token : Int) < 1 := by omega
    simp only [this, decide_false, Bool.false_eq_true, if_false]
    by_cases h2 : token > 2147483648
    · have : (token : Int) > 2147483648 := by omega
      simp only [this, decide_true]
      exact jt (.inr h2)
    · have : ¬ (token : Int) > 2147483648 := by omega
      simp only [this, decide_false]
      exact jf (by omega)
theorem Ka{k:Int}(token:Nat)(o:k=(token:Int))(H:Has h t X A)(ok:lB A)(hk: ∀h' x,Has h' t x (J0 A token)->bm X h x h'->R (.tuple #[.I (MS A token),.I (QB A token)]) h'):
  Cl 126 #[.P t 0,.U k] h R:=by
 subst o;have d:=H;obtain⟨_,KY,L,T,rfl,_,m⟩:=H;have r:=ok.le;rw[aF]at r;obtain⟨p,c,n,own,w⟩:=T.cT;refine pj.walk (aG.of λJ l=>⟨true,ar n,?_⟩);subst l;simp only[cN,au,aM];unfold MS QB J0 at hk;rw[MY]at hk;refine uy token rfl T ag (λi s b y a=>⟨_,rfl,?_⟩) (λa=>⟨_,rfl,?_⟩)
 .simp only[gA,au,aM];rw[a]at hk;dsimp only at hk;rw[j0 b]at hk;dsimp only at hk;have e:=(T.ses i s b).cT;refine aw.2 ⟨_,ar e,?_⟩;cases f:s.up with
  |true=>
   simp only[bj];have:s.abs.up=true:=f;simp only[this,bj]at hk;exact hk h X d (bm.refl _ _)
  |false=>
   simp only[au,aM];have:s.abs.up=false:=f;simp only[this,au,aM]at hk;refine aw.2 (bw e bP λj K u v=>aw.2 ?_);refine⟨_,ar K,?_⟩;obtain⟨x,g,st⟩:=T.flag (s':= { s with up:=true }) m b rfl ⟨rfl,rfl,rfl⟩ ⟨rfl,rfl,rfl⟩ K u v;exact hk j x ⟨_,g⟩ st
 .simp only[Option.isNone_none,bj];rw[a]at hk;exact hk h X d (bm.refl _ _)
theorem C4(H:Has h t X A)(ok:lB A)(hk: ∀h' x,Has h' t x (BG A num)->bm X h x h'->R (.I (MT A num)) h'):Cl 73 #[.P t 0,.I num] h R:=by
 have b:=H;obtain⟨_,KY,L,T,rfl,_,l⟩:=H;have m:=ok.le;rw[aF]at m;unfold BG MT at hk;refine rG.walk (gH T (λi s e a=>⟨_,_,rfl,?_⟩) (λn=>⟨_,_,rfl,?_⟩) ag)
 .rw[ae bP];subst e;rw[oJ,j0 a]at hk;dsimp only at hk;have d:=(T.ses i s a).cT;refine aw.2 ⟨_,ar d,?_⟩;cases f:s.up with
  |true=>
   have:s.abs.up=true:=f;simp only[this,bj]at hk;simp only[cN,au,aM];refine aw.2 (bw d bP λj K o r=> ?_);obtain⟨x,g,st⟩:=T.flag (s':= { s with up:=false }) l a rfl ⟨rfl,rfl,rfl⟩ ⟨rfl,rfl,rfl⟩ K o r;refine hk j x ?_ st;unfold kr;rw[show((i:Int)+1 - 1).toNat=i by omega];exact⟨_,g⟩
  |false=>
   have:s.abs.up=false:=f;simp only[this,au,aM]at hk;simp only[dK,bj];exact hk h X b (bm.refl _ _)
 .rw[af (by rfl)];rw[kq (by rw[aF];exact n)]at hk;exact hk h X b (bm.refl _ _)
theorem zL{on:Bool}(H:Has h t X A)(ok:lB A)(hk: ∀h' x,Has h' t x (jx A num on)->bm X h x h'->R (.I (vS A num)) h'):Cl 166 #[.P t 0,.I num,.bool on] h R:=by
 have d:=H;obtain⟨_,KY,L,T,rfl,_,j⟩:=H;have m:=ok.le;rw[aF]at m;unfold jx vS at hk;refine qo.walk (gH T (λi s e b=>⟨_,_,rfl,?_⟩) (λn=>⟨_,_,rfl,?_⟩) ag)
 .refine aG.of λJ a=> ?_
  subst a;rw[af (by rfl)];subst e;rw[oJ,j0 b]at hk;dsimp only at hk;have l:=(T.ses i s b).cT;refine aw.2 (bw l bP λg K o r=> ?_);obtain⟨x,f,st⟩:=T.flag (s':= { s with watch:=on }) j b rfl ⟨rfl,rfl,rfl⟩ ⟨rfl,rfl,rfl⟩ K o r;refine hk g x ?_ st;unfold kr;rw[show((i:Int)+1 - 1).toNat=i by omega];exact⟨_,f⟩
 .refine aG.of λJ a=> ?_
  subst a;rw[ae bP];rw[kq (by rw[aF];exact n)]at hk;exact hk h X d (bm.refl _ _)
def jJ(A:List fj)(k:Nat):List fj:=(A.take k).map (λs=> { s with up:=false })++A.drop k
theorem ES{s:fj}(H:A[k]? =some s):(jJ A k).set k { s with up:=false } =jJ A (k+1):=by
 have hk:=(aB.1 H).1;unfold jJ;have a:((A.take k).map (λs:fj=> { s with up:=false })).length=k:=by rw[aF,bB];omega
 rw[List.set_append_right _ _ ag,a,Nat.sub_self,bQ,H,aZ];rw[show A.drop k=s::A.drop (k+1) by rw[cI hk];congr 1;rw[aj hk]at H;exact aX H];simp
theorem Kb :(jJ A k)[k]? =A[k]? :=by
 unfold jJ;by_cases hk:k<=A.length
 .have H:((A.take k).map (λs:fj=> { s with up:=false })).length=k:=by rw[aF,bB];omega
  rw[cG ag,H,Nat.sub_self,eO];rfl
 .rw[cK (by rw[aA,aF,bB,bF];omega),cK ag]
theorem GS :(jJ A k).length=A.length:=by unfold jJ;rw[aA,aF,bB,bF];omega
theorem GU(H:Has h t X A)(ok:lB A)(hk: ∀h' x,Has h' t x (mf A)->bm X h x h'->R (.tuple #[]) h'):Cl 129 #[.P t 0] h R:=by
 have U:=H;have hl:=ok.le;obtain⟨_,KY,L,B,E,_,Y⟩:=H;obtain⟨p,c,G,own,hp⟩:=B.cT;have m':L.length=A.length:=by rw[<-E,aF]
 refine oI.walk ⟨_,_,_,ar G,?_⟩;refine⟨λi h'=> ∃(k:Nat)(x:Ft),i=(k:Int)/\k<=A.length/\Has h' t x (jJ A k)/\bm X h x h'/\(∃s N,Db h' t N x.D s/\s.map SC.abs=jJ A k/\(∀c,x.M c↔ ∃r,N c=some r)/\h'[t]? =h[t]? /\s.map SC.b=L.map SC.b/\∀a,p=some a->h'[a.block]? =h[a.block]?),λi _=>A.length - i.toNat,⟨0,X,rfl,ag,by simpa[jJ]using U,bm.refl _ _,L,KY,B,by simpa[jJ]using E,Y,rfl,rfl,λ_ _=>rfl⟩,?_⟩;rintro _ d ⟨k,Q,rfl,n',z,st1,l,r',T,v,Z,M,c',f'⟩;by_cases q':k<A.length
 .have q1:(k:Int)<(L.length:Int):=ag
  simp only[q1,bC,bj,aI];have e':k<l.length:=by have:=bU List.length v;rw[aF,GS]at this;omega
  have f:l[k]? =some l[k]:=aj e';obtain⟨p1,c1,n,GR,g'⟩:=T.cT;have d':=n;rw[M,G]at n;simp at n;obtain⟨rfl,p',rfl⟩:=n;obtain⟨b,g,rfl⟩:=GR.addr ag;have b':=(T.ses k _ f).cT;refine⟨⟨ag,by first|trivial|omega⟩,aw.2 ⟨some ⟨l[k].b,0,none⟩,?_,aw.2 ?_⟩⟩
  .rw[ct];exact GR.cell (by rw[aK,f];rfl)
  refine bw b' bP λm k1 k2 K=> ?_
  have y:=(T.ses k _ f).lb;obtain⟨S,o,l'⟩:=T.flag (s':= { l[k]with up:=false }) Z f rfl ⟨rfl,rfl,rfl⟩ ⟨rfl,rfl,rfl⟩ k1 k2 K;rw[bD ag ag];have F:(jJ A k)[k]? =some l[k].abs:=by rw[<-v];exact j0 f
  have e2:((l.map SC.abs).set k { l[k]with up:=false }.abs)=jJ A (k+1):=by
   rw[v];rw[Kb]at F;exact ES F
  rw[e2]at o;have P:t≠l[k].b:=λe=>by rw[<-e,T.MO]at y;simp at y;omega
  have O:b≠l[k].b:=λe=>by
   have:=g' b ⟨_,rfl,rfl⟩;rw[e,y]at this;simp at this;omega
  obtain⟨j',u,C,W,_,a'⟩:=id o;refine⟨⟨k+1,S,ag,ag,⟨_,o⟩,st1.trans l',u,j',C,W,a',by rw[K t P,M],?_,?_⟩,?_⟩
  ·
   obtain⟨p2,c2,w,k',_⟩:=C.cT;have V:m[t]? =d[t]? :=K t P;rw[V,d']at w;simp at w;obtain⟨rfl,o',rfl⟩:=w;have i':m[b]? =d[b]? :=K b O;apply eV
   intro j;rw[<-c'];by_cases I:j<l.length
   .have a1:bg d (((AA b g):Addr).add j)=some (.pointer (some ⟨l[j].b,0,none⟩)):=GR.cell (by rw[aK,aj I];rfl);have J:j<u.length:=ag
    have a2:bg m (((AA b g):Addr).add j)=some (.pointer (some ⟨u[j].b,0,none⟩)):=k'.cell (by rw[aK,aj J];rfl);rw[gz]at a1 a2;have:bg m (AA b (g+j))=bg d (AA b (g+j)):=by unfold bg;rw[i']
    rw[this,a1]at a2;simp at a2;rw[aK,aK,aj I,aj J];simp[a2]
   .rw[cK (by rw[aF];omega),cK (by rw[aF];omega)]
  .rintro a e;cases e;rw[K b O,f' _ rfl]
  .show A.length - Int.toNat ((k:Int)+1)<A.length - Int.toNat (k:Int);omega
 .have q1: ¬(k:Int)<(L.length:Int):=ag
  simp only[q1,bp,au,aM];have e:jJ A k=mf A:=by
   unfold jJ mf;rw[bJ ag,dC ag,List.append_nil]
  rw[e]at z;exact hk d Q z st1

end fj
end
section
open Go.fT Go.jU
namespace gV
open kK
variable {h h':ai} {b:Nat} {X:Ft} {R:fp} {p q:cy} {c d i:Nat} {L:List E} {s:BS}
variable {l:cy} {w a:Nat} {xs:List IV} {S:Nat->Prop} {owner k:Int} {x:It}
def zM(h:ai)(b:Nat)(X:Ft)(s:BS):Prop:= ∃L,Bx h b X s L/\okB s L
theorem zM.frame{Q:Nat->Prop}(H:zM h b X s)(f:Fr Q h h')(e: ∀y,X.M y\/X.D y->¬Q y):zM h' b X s:=by
 obtain⟨L,H,ok⟩:=H;exact⟨L,H.frame f e,ok⟩
theorem zM.on(H:zM h b X s)(f:Fr No h h'):zM h' b X s:=H.frame f cb
theorem zM.lt(H:zM h b X s)(y:Nat)(e:X.M y\/X.D y):y<h.size:=by
 obtain⟨L,H,ok⟩:=H;exact H.lt y e
theorem Mm.ET(H:Mm h b X s L l w xs a S)(ok:okB s L):L.length<1000/\xs.length<=16:=by
 have e:=ok.pm.length_eq;rw[aF]at e;have:=ok.le;have:=H.len;omega
def iH(s:BS)(owner:Int)(d:cD)(cf:Nat):Int:=if vM owner d.length (cf:Int)=true then(if s.items.length≥16 then 15 else 0)else 1
def uz(s:BS)(owner:Int)(d:cD)(cf:Nat):Int:=if iH s owner d cf=0 then(s.next:Int)else 0
def EU(s:BS)(owner:Int)(d:cD)(cf:Nat):BS:=if iH s owner d cf=0 then { s with items:=s.items++ [⟨s.next,owner,d,cf⟩],next:=s.next+1 } else s
theorem zN{bs:cD}{n m:Nat}(cf:Nat)(q':k=(cf:Int))(H:zM h b X s)(hr:Row h p (bc bs))(B:n=bs.length)(hl:bs.length<=1000000)(A':s.next<=1000000000)(hk: ∀h' W,zM h' b W (EU s owner bs cf)->bm X h W h'->R (.tuple #[.I (uz s owner bs cf),.I (iH s owner bs cf)]) h'):
  Cl 240 #[.P b 0,.I owner,.slice p n m,.U k] h R:=by
 subst q';subst B;obtain⟨L,⟨l,w,xs,a,S,H⟩,ok⟩:=H;obtain⟨hL,B'⟩:=H.ET ok;have z':=H.len;refine zB.walk (fI H ⟨_,rfl,?_⟩);simp only[cN,au,aM];refine⟨_,ar H.cT,qO hr rfl ag λr P c2 o2 f2 g2=>⟨_,_,_,_,_,_,rfl,?_⟩⟩;refine aH.new λb1 h7 y' T f7=>aH.ld T (e8 λf f8=>⟨_,rfl,?_⟩)
 have G:Fr No h f:=f2.tt (f7.tt f8);have t:=H.on G;have z2:=f2.1;have z7:=f7.1;have z8:=f8.1;have l1:=aD T;unfold EU uz at hk;cases g:vM owner bs.length (cf:Int)with
 |false=>
  have e:iH s owner bs cf=1:=by unfold iH;rw[g];rfl
  rw[e]at hk;simp only[dK,bj];exact hk f X ⟨L,⟨l,w,xs,a,S,t⟩,ok⟩ (bm.gr G)
 |true=>
  simp only[cN,au,aM];refine⟨_,_,_,ar t.cT,?_⟩;by_cases b':s.items.length≥16
  .have q:(xs.length:Int)≥16:=ag
   have e:iH s owner bs cf=15:=by unfold iH;rw[g,af rfl,af b']
   rw[e]at hk;simp only[q,bC,bj];exact hk f X ⟨L,⟨l,w,xs,a,S,t⟩,ok⟩ (bm.gr G)
  .have q: ¬(xs.length:Int)≥16:=ag
   have e:iH s owner bs cf=0:=by unfold iH;rw[g,af rfl,ae b']
   rw[e]at hk;simp only[bj]at hk;simp only[q,bp,au,aM];have a':aH.at f b1 (s.next:Int) owner P bs.length c2 (cf:Int):=f8.get T id;refine⟨_,_,_,ar t.cT,aH.ld a' ?_⟩;refine cF ⟨cH (t.on (Fr.push (S:=λ_=>False) f _)).cT rfl,?_⟩;have f9:Fr No f (f.push (.cells #[.I (s.next:Int),.I owner,.slice P bs.length c2,.U (cf:Int)] 119)):=Fr.push _ _;have r9:Row (f.push (.cells #[.I (s.next:Int),.I owner,.slice P bs.length c2,.U (cf:Int)] 119)) (Sa f.size 0) [.I (s.next:Int),.I owner,.slice P bs.length c2,.U (cf:Int)]:=jl;generalize f.push (.cells #[.I (s.next:Int),.I owner,.slice P bs.length c2,.U (cf:Int)] 119)=J at f9 r9⊢;have M:=t.on f9;have p':aH.at J b1 (s.next:Int) owner P bs.length c2 (cf:Int):=f9.get a' id;refine dT tI uI M.own r9 rfl (λv hv=>by simp at hv;rcases hv with rfl|rfl|rfl|rfl<;>rfl) ag ag λE k' u d' _ f10 n'=>⟨_,_,_,rfl,?_⟩
   have z9:=f9.1;have C':=f10.1;have lb:=aD H.cT;have u':=f10.get M.cT H.bl;refine bw u' bP λI a1 a2 a3=> ?_
   have f11:Fr (λy=>y=b) u I:=Fr.of_eq a2 a3;refine⟨_,ar a1,bw a1 bP λj d1 d2 d3=> ?_⟩;have f12:Fr (λy=>y=b) I j:=Fr.of_eq d2 d3;have c': ∀y,h.size<=y->¬aR l y:=λy hy hx=>by have:=H.own.dY hx;omega
   have o':aH.at u b1 (s.next:Int) owner P bs.length c2 (cf:Int):=f10.get p' (c' b1 ag);have Z:aH.at j b1 (s.next:Int) owner P bs.length c2 (cf:Int):=(d3 b1 ag).trans ((a3 b1 ag).trans o');have e':bW.Al j a S L:=((M.al.frame f10 (λy hy hx=>H.ls y hx hy)).frame f11 (λy hy e=>H.bs (e▸hy))).frame f12 (λy hy e=>H.bs (e▸hy));refine⟨_,ar d1,_,ar Z,?_⟩;rw[GL]at g;have r':bW.may (s.next:Int) (cf:Int)=true:=bW.lH.2 ⟨bY ok.uo,ag,g.2.2.2.2⟩;refine bW.GJ e' ag _ _ ag (λ_ A N f' Q f13=>⟨_,rfl,?_⟩) (λhf=>by rw[r']at hf;cases hf);have U: ∀y,h.size<=y->¬S y:=λy hy o=>by have:=H.al.lt o;omega
   refine⟨_,ar (f13.get Z (U b1 ag)),?_⟩;have F9:Fr No h J:=G.tt f9;have D':u.size<=j.size:=ag
   have g':Fr (aR l) h u:=Fr.no F9 f10;have i':Fr (λy=>aR l y\/y=b) h j:=((g'.mono (λ_ _ hx=> .inl hx)).tt (f11.mono (λ_ _ hx=> .inr hx))).tt (f12.mono (λ_ _ hx=> .inr hx));have F:Fr X.M h A:=((i'.mono (λy _ hx=>(H.m y).2 (hx.elim (λh=> .inr (.inl h)) .inl))).tt (f13.mono (λy _ hx=>(H.m y).2 (.inr (.inr hx)))));have K: ∀y,aR P y->h.size<=y/\y<r.size:=λy hy=>⟨g2 y hy,o2.dY hy⟩
   have C: ∀y,aR E y->aR l y\/r.size<=y:=λy hy=>(n' y hy).imp id (λh1=>ag)
   have x': ∀y,aR E y->y<j.size:=λy hy=>by have:=d'.dY hy;omega
   have w':fJ A P bs.length c2 1 (bc bs):=by
    have j':Fr X.M r A:=by
     refine⟨hY F.1 f13.1,λy hy B=> ?_⟩;have e1:A[y]? =j[y]? :=f13.2 y ag (λhx=>B ((H.m y).2 (.inr (.inr hx))));have e2:j[y]? =I[y]? :=f12.2 y ag (λe=>B ((H.m y).2 (.inl e)));have e3:I[y]? =u[y]? :=f11.2 y ag (λe=>B ((H.m y).2 (.inl e)));have e4:u[y]? =J[y]? :=f10.2 y ag (λe=>B ((H.m y).2 (.inr (.inl e))));have e5:J[y]? =r[y]? :=(f7.tt (f8.tt f9)).2 y ag id;rw[e1,e2,e3,e4,e5]
    exact o2.frame j' (λy hy D=>hY (H.lt y (.inl D)) (K y hy))
   have m': ∀y,X.D y\/aR P y->y<A.size:=λy hy=>hy.elim (λh1=>cC (H.EN y h1) F.1) (λh1=>hY (K y h1) f13.1)
   have l':xs.flatMap ga++ [.I (s.next:Int),.I owner,.slice P bs.length c2,.U (cf:Int)]=(xs++ [(⟨s.next,owner,⟨P,c2,bs⟩,cf⟩:IV)]).flatMap ga:=by rw[da];simp
   have ln:(xs++ [(⟨s.next,owner,⟨P,c2,bs⟩,cf⟩:IV)]).length=xs.length+1:=by rw[aA];rfl
   have V: ∀y,aR E y->y≠b:=λy hy e=>(C y hy).elim (λh1=>H.bl (e▸h1)) (λh1=>ag)
   have O: ∀y,N y->X.M y\/j.size<=y:=λy hy=>(Q y hy).imp (λh1=>(H.m y).2 (.inr (.inr h1))) id
   refine hk A ⟨λy=>y=b\/aR E y\/N y,λy=>X.D y\/aR P y⟩ ⟨_,⟨E,k',xs++ [⟨s.next,owner,⟨P,c2,bs⟩,cf⟩],a,N,⟨?_,?_,f',?_,?_,λ_=>eE,λhx=>V b hx rfl,?_,?_,?_,m'⟩⟩,?_⟩ ⟨F,?_,?_,λ_=> .inl⟩
   .have v':=f13.get d1 H.bs;rw[v'];dsimp only;rw[ln,bD ag ag];rfl
   .rw[ln,<-l'];exact((d'.frame f11 V).frame f12 V).frame f13 (λy hy o=>(C y hy).elim (λh1=>H.ls y h1 o) (λh1=>U y ag o))
   .rw[aZ,H.abs];rfl
   .intro v hv;rcases bM.1 hv with hv|hv
    .exact((H.C8 v hv).frame F (λy hd D=>H.tH y D hd)).mono (λy=> .inl)
    .obtain rfl:=bN.1 hv;exact BV.kU w' (λy=> .inr)
   .intro o;exact(Q b o).elim H.bs (λh1=>ag)
   .intro y hy o;rcases Q y o with h1|h1
    .exact(C y hy).elim (λr=>H.ls y r h1) (λr=>U y ag h1)
    .have:=x' y hy;omega
   .rintro y hy (hd|hd)
    .rcases hy with rfl|hy|hy
     .exact H.tH _ ((H.m _).2 (.inl rfl)) hd
     .exact(C y hy).elim (λh1=>H.tH _ ((H.m _).2 (.inr (.inl h1))) hd) (λh1=>bY (H.EN y hd))
     .exact(O y hy).elim (λh1=>H.tH _ h1 hd) (λh1=>bY (H.EN y hd))
    .have t':=K y hd;rcases hy with rfl|hy|hy
     .omega
     .exact(C y hy).elim (λh1=>c' y t'.1 h1) (λh1=>ag)
     .exact(O y hy).elim (λh1=>bY (H.lt y (.inl h1))) (λh1=>ag)
   .have s':(s.next:Int)∉keys L:=by
     intro D;obtain⟨e,he,Y⟩:=bh.1 D;obtain⟨x,hx,rfl⟩:=bh.1 (ok.pm.mem_iff.1 he);have:=(ok.it x hx).2.1;have Y:(x.num:Int)=(s.next:Int):=Y;omega
    refine⟨?_,?_,?_,?_,?_⟩
    .show(s.items++ [_]).length<=16;rw[aA,dp];omega
    .unfold bW.zx;rw[jF s'];refine(lF _ _).trans ?_;show List.Perm (((s.next:Int),(cf:Int))::L) ((s.items++ [(⟨s.next,owner,bs,cf⟩:It)]).map It.kv);rw[aZ];exact(List.Perm.cons _ ok.pm).trans (dM _ _).symm
    .intro x hx;rcases bM.1 hx with hx|hx
     .have:=ok.it x hx;exact⟨this.1,by show x.num<s.next+1;omega,this.2.2⟩
     .obtain rfl:=bN.1 hx;exact⟨by show 1<=s.next;have:=ok.uo;omega,by show s.next<s.next+1;omega,g.2.2.1,g.2.2.2.1,g.1,g.2.1,by have:=g.2.2.2.2;show cf<=_;omega⟩
    .show((s.items++ [_]).map It.num).Pairwise (· < ·);rw[aZ,List.pairwise_append];refine⟨ok.inc,bP,λy hy z hz=> ?_⟩;simp at hz;subst hz;obtain⟨x,hx,rfl⟩:=bh.1 hy;exact(ok.it x hx).2.1
    .show s.next+1=1+(s.items++ [_]).length+s.taken+s.rC+s.over;rw[aA,dp];have:=ok.uo;omega
   .rintro y (rfl|hy|hy)
    .exact .inl ((H.m _).2 (.inl rfl))
    .exact(C y hy).imp (λh1=>(H.m _).2 (.inr (.inl h1))) (λh1=>ag)
    .exact(O y hy).imp id (λh1=>ag)
   .rintro y (hy|hy)
    .exact .inl hy
    .exact .inr (K y hy).1
def mK(s:BS)(num owner:Int):Int:=match xr s.items num with|none=>4|some i=>(match s.items[i]? with|some x=>if x.owner=owner then 0 else 13|none=>4)
def mg(s:BS)(num owner:Int):BS:=if mK s num owner=0 then { s with items:=ph s.items num,rC:=s.rC+1 } else s
theorem Mm.field{s':BS}(H:Mm h b X s L l w xs a S)(n:s'.items=s.items)(m:h'[b]? =some (.cells #[.slice l xs.length w,.I (s'.next:Int),.I (s'.taken:Int),.I (s'.rC:Int),.I (s'.over:Int),.P a 0] 145 (0,0)))(f:Fr (λy=>y=b) h h'):Mm h' b X s' L l w xs a S/\bm X h X h':=by
 have j: ∀y,X.D y->y≠b:=λy hd e=>H.tH b ((H.m b).2 (.inl rfl)) (e▸hd)
 refine⟨⟨m,H.own.frame f (λy g e=>H.bl (e▸g)),H.al.frame f (λy g e=>H.bs (e▸g)),H.abs.trans n.symm,λx o=>(H.C8 x o).frame f (λy hd e=>j y hd e),H.m,H.bl,H.bs,H.ls,H.tH,λy g=>cC (H.EN y g) f.1⟩,bm.tB (f.mono (λy _ e=>(H.m y).2 (.inl e)))⟩
theorem Dc(H:Mm h b X s L l w xs a S)(e:s.items[i]? =some x): ∃v,xs[i]? =some v/\v.abs=x:=by
 rw[<-H.abs,aK]at e;cases f:xs[i]? with
 |none=>rw[f]at e;cases e
 |some v=>rw[f]at e;exact⟨v,rfl,aX e⟩
theorem uB{items:List It}(e:(items.map It.num).Pairwise (· < ·))(H:items[i]? =some x):(ph items (x.num:Int)).length+1=items.length:=by
 have f:=(aB.1 H).1;rw[<-nI e H];unfold um;rw[aA,bB,bF];omega
theorem okB.del{t o:Nat}(ok:okB s L)(H:s.items[i]? =some x)(e:t+c+o=s.taken+s.rC+s.over+1):okB ⟨ph s.items (x.num:Int),s.next,t,c,o⟩ (fv L (x.num:Int)):=by
 refine ok.sub cJ (zD ok.pm) ?_;have:=uB ok.inc H;have:=ok.uo;omega
theorem vT{num:Int}(H:zM h b X s)(c':s.next<=1000000000)(hk: ∀h' A,zM h' b A (mg s num owner)->bm X h A h'->R (.I (mK s num owner)) h'):
  Cl 152 #[.P b 0,.I num,.I owner] h R:=by
 obtain⟨L,⟨l,w,xs,a,S,H⟩,ok⟩:=H;obtain⟨N,d'⟩:=H.ET ok;have b':=H.len;have a':=ok.le;refine uk.walk (fI H ⟨_,rfl,?_⟩);simp only[cN,au,aM];refine gH H ag λB f2=>⟨_,rfl,?_⟩
 have f:=H.on f2;unfold mg at hk;cases g:xr s.items num with
 |none=>
  have e:mK s num owner=4:=by unfold mK;rw[g]
  rw[e]at hk;have ev:qj s.items num= -1:=by unfold qj;rw[g]
  rw[ev,fK];exact hk B X ⟨L,⟨l,w,xs,a,S,f⟩,ok⟩ (bm.gr f2)
 |some i=>
  obtain⟨x,j,u⟩:=zE g;have ev:qj s.items num=(i:Int):=by unfold qj;rw[g]
  have hi:=(aB.1 j).1;obtain⟨v,C,D⟩:=Dc H j;have q: ¬(i:Int)<0:=ag
  rw[ev];simp only[q,bp,au,aM,aI];obtain⟨W,Y,rfl⟩:=f.own.addr ag;have O:=(f.own.gJ gZ C).2.1;refine⟨_,_,_,ar f.cT,ag,aw.2 ⟨v.owner,O,?_⟩⟩;have E:v.owner=x.owner:=by rw[<-D];rfl
  by_cases m:x.owner=owner
  .have e:mK s num owner=0:=by unfold mK;rw[g];dsimp only;rw[j];dsimp only;rw[af m]
   rw[e]at hk;simp only[bj]at hk;rw[ae (by rw[E,m];simp)];refine yK f ag N C λM I F T _=>⟨_,_,_,_,_,_,rfl,?_⟩
   obtain⟨Q,P,U,a3,G,n⟩:=F;refine⟨_,ar n.cT,bw n.cT bP λr a1 a2 J=> ?_⟩;have f4:Fr (λy=>y=b) M r:=Fr.of_eq a2 J;have Z:=ok.uo;have V:(v.num:Int)=num:=by rw[<-u,<-D];rfl
   have K:um s.items i=ph s.items num:=by rw[<-u];exact nI ok.inc j
   obtain⟨z,s4⟩:=n.field (s':=⟨ph s.items num,s.next,s.taken,s.rC+1,s.over⟩) (h':=r) K.symm (by
    rw[a1];dsimp only;rw[bD ag ag];rfl) f4
   rw[V]at z;refine hk r I ⟨fv L num,⟨Q,P,U,a3,G,z⟩,?_⟩ ((bm.gr f2).trans (T.trans s4));have:=ok.del (t:=s.taken) (c:=s.rC+1) (o:=s.over) j ag;rwa[u]at this
  .have e:mK s num owner=13:=by unfold mK;rw[g];dsimp only;rw[j];dsimp only;rw[ae m]
   rw[e]at hk;rw[af (by rw[E];simpa using m)];exact hk B X ⟨L,⟨_,w,xs,a,S,f⟩,ok⟩ (bm.gr f2)
theorem uq(H:zM h b X s)(g':s.next<=1000000000)(k1:s.items= []->∀h',zM h' b X s->Fr No h h'->R (.tuple #[.agg #[.I 0,.I 0,.Z,.U 0],.I 4]) h')(k2: ∀x r,s.items=x::r->∀h' z (v:IV),v.abs=x->zM h' b z { s with items:=r,taken:=s.taken+1 } ->bm X h z h'->v.v.ok h' z.D->R (.tuple #[v.agg,.I 0]) h'):
  Cl 181 #[.P b 0] h R:=by
 obtain⟨L,⟨l,w,xs,a,S,H⟩,ok⟩:=H;obtain⟨U,i'⟩:=H.ET ok;have J:=H.len;have f':=ok.le;have e':=ok.uo;refine xp.walk (aH.box λb1 F d' u f1=> ?_);have f:=H.on f1;refine fI f ⟨_,rfl,?_⟩;simp only[cN,au,aM];refine⟨_,_,_,ar f.cT,?_⟩;cases j:s.items with
 |nil=>
  have Z:xs.length=0:=by rw[J,j];rfl
  rw[af (by rw[Z];rfl)];refine aH.set u λI d1 d2 d3=>aH.ld d1 ?_
  have f6:Fr (λy=>y=b1) F I:=Fr.of_eq d2 d3;have l1:=aD u;have nX: ∀y,X.M y\/X.D y->y≠b1:=λy m e=>by have:=H.lt y m;omega
  exact k1 j I ⟨L,⟨l,w,xs,a,S,f.frame f6 nX⟩,ok⟩ (f1.fresh f6 (λy e=>ag))
 |cons x r=>
  have j':0<xs.length:=by rw[J,j];simp
  rw[ae (by simp only[cR];omega)];have C:s.items[0]? =some x:=by rw[j];rfl
  obtain⟨v,Y,M⟩:=Dc f C;refine⟨_,ar f.cT,bw f.cT bP λG a1 a2 a3=> ?_⟩;have f11:Fr (λy=>y=b) F G:=Fr.of_eq a2 a3;obtain⟨P,a'⟩:=f.field (s':= { s with taken:=s.taken+1 }) (h':=G) rfl (by
   rw[a1];dsimp only;rw[bD ag ag];rfl) f11
  refine yK (i:=0) P (by show s.items.length<=100;omega) U Y λA g B D c'=>⟨_,_,_,_,_,_,rfl,?_⟩
  have l1:=aD u;have lb:=aD H.cT;have i12:aH.at A b1 0 0 none 0 0 0:=D.fr.get ((a3 b1 ag).trans u) (λV=>bY (H.lt b1 (.inl V)));refine aH.set i12 λn d1 d2 d3=>aH.ld d1 ?_
  have f16:Fr (λy=>y=b1) A n:=Fr.of_eq d2 d3;have N: ∀y,g.M y\/g.D y->y≠b1:=D.apart (Q:=λy=>y=b1) (λy m e=>bY (H.lt y m)) (λy e=>by rw[e,a2];exact l1);have vn:(v.num:Int)=(x.num:Int):=by rw[<-M];rfl
  have E:um s.items 0=r:=by unfold um;rw[j];rfl
  have T:ph s.items (x.num:Int)=r:=by rw[<-nI ok.inc C];exact E
  rw[vn]at B;have K:=ok.del (t:=s.taken+1) (c:=s.rC) (o:=s.over) C ag;rw[T]at K;have O:Bx n b g { s with items:=r,taken:=s.taken+1 } (fv L (x.num:Int)):=by
   have:({ ({ s with taken:=s.taken+1 } :BS)with items:=um ({ s with taken:=s.taken+1 } :BS).items 0 } :BS)= { s with items:=r,taken:=s.taken+1 } :=by
    show(⟨um s.items 0,_,_,_,_⟩:BS)=_;rw[E]
   rw[this]at B;exact B.frame f16 N
  have st:bm X h g A:=(bm.gr f1).trans (a'.trans D);have b':bm X h g n:=by
   refine⟨⟨cW st.fr.1 f16.1,λy m W=> ?_⟩,st.gI,st.iF,st.lE⟩;rw[f16.2 y (cC m st.fr.1) (λe=>ag)];exact st.fr.2 y m W
  exact k2 x r j n g v M ⟨_,O,K⟩ b' (c'.frame f16 (λy hd e=>N y (.inr hd) e))
theorem uC(now:Nat)(B':k=(now:Int))(H:zM h b X s)(X':s.next<=1000000000)
  (hk: ∀h' n p' c' (ys:List IV) D,zM h' b n { s with items:=s.items.filter (λx=>decide ((now:Int)<(x.cf:Int))),over:=s.over+ys.length } ->bm X h n h'->fJ h' p' ys.length c' 4 (ys.flatMap ga)->(∀y∈ys,y.v.ok h' n.D)->(∀y,aR p' y->h.size<=y/\¬(n.M y\/n.D y))->
   (ys.map IV.abs).map It.kv=D->iQ D->D.Perm ((s.items.filter (λx=>decide ((x.cf:Int)<=(now:Int)))).map It.kv)->(∀y∈ys,y.abs∈s.items)->R (.slice p' ys.length c') h'):
  Cl 54 #[.P b 0,.U k] h R:=by
 subst B';obtain⟨L,⟨l,w,xs,a,S,H⟩,ok⟩:=H;obtain⟨hL,Y'⟩:=H.ET ok;have C':=ok.le;have R':=ok.uo;have so:=H.al.sorted;have nd:=H.al.nodup;refine xq.walk (fI H ⟨_,rfl,aG.of λQ' hJ=> ?_⟩);simp only[bj];refine⟨_,ar H.cT,bW.C6 H.al ag _ λh3 p3 c3 A3 o3 g3 f3=>⟨_,_,_,rfl,?_⟩⟩;generalize hD:bW.due L (now:Int)=D at o3⊢;have K:L=D++bW.rest L (now:Int):=by rw[<-hD];exact(List.takeWhile_append_dropWhile).symm
 have M3:Mm h3 b X s (bW.rest L (now:Int)) l w xs a S:=by
  refine⟨f3.get H.cT H.bs,H.own.frame f3 (λy f V=>H.ls y f V),A3,H.abs,λx m=>(H.C8 x m).frame f3 (λy hd V=>H.tH y ((H.m y).2 (.inr (.inr V))) hd),H.m,H.bl,H.bs,H.ls,H.tH,λy f=>cC (H.EN y f) f3.1⟩
 have s3:bm X h X h3:=bm.tB (f3.mono (λy _ V=>(H.m y).2 (.inr (.inr V))));have Dl:D.length<=16:=by
  have h1:=bU List.length K;rw[aA]at h1;have:=ok.pm.length_eq;rw[aF]at this;omega
 have L':(keys D).Nodup:=by
  rw[K]at nd;unfold keys at nd⊢;rw[aZ,eK]at nd;exact nd.1
 have dr: ∀e∈D,e.1∉keys (bW.rest L (now:Int)):=by
  intro e he C;rw[K]at nd;unfold keys at nd C;rw[aZ,eK]at nd;exact nd.2.2 e.1 (bx he) e.1 C rfl
 have M':(bW.rest L (now:Int)).length<1000:=by
  have h1:=bU List.length K;rw[aA]at h1;omega
 refine⟨λop ol oc t g=> ∃(k:Nat)(n:Ft)(ys:List IV),t=(k:Int)/\k<=D.length/\ol=ys.length/\ys.length=k/\Bx g b n { s with items:=mT s.items (keys (D.take k)),over:=s.over+k } (bW.rest L (now:Int))/\bm X h n g/\Fr (λy=>h.size<=y\/X.M y) h3 g/\fJ g op ol oc 4 (ys.flatMap ga)/\(∀y∈ys,y.v.ok g n.D)/\
   (∀y,aR op y->h.size<=y/\¬(n.M y\/n.D y)/\¬aR p3 y)/\(∀y,aR p3 y->¬(n.M y\/n.D y))/\Row g p3 (bW.kc D)/\(ys.map IV.abs).map It.kv=D.take k/\(∀y∈ys,y.abs∈s.items),λ_ _ _ t _=>D.length - t.toNat,
   ⟨0,X, [],rfl,ag,rfl,rfl,?_,s3,Fr.refl _ _,.nil rfl rfl rfl rfl,(λy f=>by cases f),(λy ⟨a,e,_⟩=>by cases e),(λy f m=>hY (g3 y f) (H.lt y m)),o3.iw,rfl,λy f=>by cases f⟩,?_⟩
 .have:({ s with items:=mT s.items (keys (D.take 0)),over:=s.over+0 } :BS)=s:=by
   show(⟨mT s.items [],_,_,_,_⟩:BS)=s;rw[MI];rfl
  rw[this];exact⟨l,w,xs,a,S,M3⟩
 clear M3 A3;rintro op ol oc _ g ⟨k,n,ys,rfl,U',rfl,u',B,st,fg,o,hd,F,n',Y,d',r'⟩;by_cases D':k<D.length
 .have q:(k:Int)<((D.length:Nat):Int):=ag
  simp only[q,bC,bj];have J:D[k]? =some D[k]:=aj D';generalize D[k]=e at J;have q':=bn J;have bg:(bW.kc D)[k]? =some (.I e.1):=by
   unfold bW.kc keys;rw[aK,aK,J];rfl
  obtain⟨pa,rfl⟩:=Y.some (λE=>by rw[E]at bg;cases bg);have cell:=Y.cell bg;refine⟨⟨by first|trivial|omega,by first|trivial|omega⟩,aw.2 ⟨e.1,by rw[aI,ct];exact cell,?_⟩⟩;obtain⟨Wv,Z',Ww,I,S',M⟩:=B;have k':({ s with items:=mT s.items (keys (D.take k)),over:=s.over+k } :BS).items=mT s.items (keys (D.take k)):=rfl;have rl:(mT s.items (keys (D.take k))).length<=16:=cW (cr _ _) C';refine gH M (by rw[k'];omega) λh5 f5=>⟨_,rfl,?_⟩
  rw[k'];have M5:=M.on f5;have A':e∈L:=by rw[K];exact dS _ q'
  obtain⟨x,m,t'⟩:=bh.1 (ok.pm.mem_iff.1 A');have a':(x.num:Int)=e.1:=by rw[<-t'];rfl
  have E':e.1∉keys (D.take k):=by
   intro C;obtain⟨e',z',ek⟩:=bh.1 C;obtain⟨j,hj⟩:=bE z';rw[cP]at hj;split at hj
   .rename_i T';have h1:(keys D)[j]? =some e.1:=by unfold keys;rw[aK,hj,<-ek];rfl
    have h2:(keys D)[k]? =some e.1:=by unfold keys;rw[aK,J];rfl
    have:=(eg (by unfold keys;rw[aF];omega) L').1 (h1.trans h2.symm);omega
   .cases hj
  have H':x∈mT s.items (keys (D.take k)):=ba.2 ⟨m,av (by rw[a'];exact E')⟩;cases b':xr (mT s.items (keys (D.take k))) e.1 with
  |none=>exact absurd a' (MH b' x H')
  |some i=>
   obtain⟨x',i',W'⟩:=zE b';have G':x'∈s.items:=(ba.1 (bn i')).1;obtain rfl:x'=x:=uniq ok.inc G' m ag;have ev:qj (mT s.items (keys (D.take k))) e.1=(i:Int):=by unfold qj;rw[b']
   rw[ev];obtain⟨v,hv,g'⟩:=Dc M5 i';refine yK M5 (by rw[k'];omega) M' hv λh6 A B6 s6 v6=>⟨_,_,_,_,_,_,rfl,?_⟩
   have vn:(v.num:Int)=e.1:=by rw[<-a',<-g'];rfl
   rw[vn,jF (dr e q')]at B6;have I':((mT s.items (keys (D.take k))).map It.num).Pairwise (· < ·):=ok.inc.sublist (cJ.map _);have F':keys (D.take (k+1))=keys (D.take k)++ [e.1]:=by unfold keys;rw[bQ,J,aZ];rfl
   have y':um (mT s.items (keys (D.take k))) i=mT s.items (keys (D.take (k+1))):=by
    rw[nI I' i',a',MJ,F']
   have o5:=o.frame f5 cb;have l': ∀y,aR op y->¬(A.M y\/A.D y):=λy f=>λm=>s6.apart (Q:=aR op) (λz hz r=>(F z r).2.1 hz) (λz r=>o5.dY r) y m f
   have o6:=o5.frame s6.fr (λy f C=>(F y f).2.1 (.inl C));refine jd tI uI o6 rfl (λW hw=>by simp at hw;rcases hw with rfl|rfl|rfl|rfl<;>rfl) ag ag λp8 c8 h8 o8 f8 g8=>⟨_,_,_,rfl,?_⟩
   have B8:Bx h8 b A _ _:=B6.frame f8 (λy f r=>l' y r f);obtain⟨K',J',O',a8,S8,O⟩:=B8;refine⟨_,ar O.cT,bw O.cT bP λT a1 a2 a3=> ?_⟩;have f9:Fr (λy=>y=b) h8 T:=Fr.of_eq a2 a3;obtain⟨M9,s9⟩:=O.field (s':=⟨mT s.items (keys (D.take (k+1))),s.next,s.taken,s.rC,s.over+(k+1)⟩) (h':=T) y'.symm (by
    rw[a1];dsimp only;rw[bD ag ag];rfl) f9
   have Z:A.M b:=(O.m b).2 (.inl rfl);have v': ∀y,aR p8 y->h.size<=y/\¬(A.M y\/A.D y)/\¬aR (some pa) y:=by
    intro y f;rcases g8 y f with h1|h1
    .exact⟨(F y h1).1,l' y h1,(F y h1).2.2⟩
    .have z6:=s6.fr.1;have z5:=f5.1;have zg:=st.fr.1;refine⟨ag,λm=>bY (B6.lt y m),λm=> ?_⟩;have:=jr Y (by intro E;rw[E]at bg;cases bg) m;omega
   have N:bm n g A h6:=(bm.gr f5).trans s6;have o': ∀y,aR (some pa) y->¬(A.M y\/A.D y):=λy f m=>N.apart (Q:=aR (some pa)) (λz hz r=>n' z r hz) (λz r=>jr Y (by intro E;rw[E]at bg;cases bg) r) y m f
   have G:bm X h A h6:=st.trans N;have m': ∀y,y<h.size->¬X.M y->T[y]? =h6[y]? :=by
    intro y f C;have zz:=G.fr.1;have Wx:=f8.1;rw[f9.2 y ag (λE=>(G.gI b Z).elim (λh1=>C (E▸h1)) (λh1=>ag)),f8.2 y ag (λr=>bY ((F y r).1))]
   have N':bm X h A T:=by
    refine⟨⟨hY G.fr.1 f8.1,λy f U=> ?_⟩,G.gI,G.iF,G.lE⟩;rw[m' y f U];exact G.fr.2 y f U
   have P': ∀y,aR p8 y->y≠b:=λy f E=>(v' y f).2.1 (.inl (E▸Z))
   have w':ys.flatMap ga++([.I (v.num:Int),.I v.owner,.slice v.v.p v.v.b.length v.v.c,.U (v.cf:Int)]:List Value)=(ys++ [v]).flatMap ga:=by rw[da];simp
   have ln:(ys++ [v]).length=ys.length+1:=by rw[aA];rfl
   rw[bD ag ag];refine⟨⟨k+1,A,ys++ [v],ag,ag,ln.symm,by rw[ln,u'],⟨K',J',O',a8,S8,M9⟩,N',?_,?_,?_,v',o',?_,?_,?_⟩,?_⟩
   .refine⟨qW fg.1 N.fr.1 f8.1,λy f U=> ?_⟩;have j':y<h.size:=Nat.lt_of_not_le (λm=>U (.inl m));have f': ¬X.M y:=λm=>U (.inr m)
    rw[m' y j' f',G.fr.2 y j' f',s3.fr.2 y j' f']
   .rw[<-w'];exact o8.frame f9 P'
   .intro W hw;have key: ∀u:IV,u.v.ok h6 A.D->u.v.ok T A.D:=λu hu=>(hu.frame f8 (λy f r=>l' y r (.inr f))).frame f9 (λy f E=>O.tH b Z (E▸f))
    rcases bM.1 hw with hw|hw
    .exact key W (((hd W hw).frame N.fr (λy f C=>M.tH y C f)).mono (λy f=>N.lE y f))
    .obtain rfl:=bN.1 hw;exact key W v6
   .refine((Y.frame N.fr (λI P C=>n' _ ⟨I,P,rfl⟩ (.inl C))).frame f8 (λI P r=>(F _ r).2.2 ⟨I,P,rfl⟩)).frame f9 (λI P E=>o' _ ⟨I,P,rfl⟩ (.inl (by have E:I.block=b:=E;rw[E];exact Z)))
   .rw[aZ,aZ,d',bQ,J];simp[g',t']
   .intro W hw;rcases bM.1 hw with hw|hw
    .exact r' W hw
    .obtain rfl:=bN.1 hw;rw[g'];exact m
   .show D.length - Int.toNat ((k:Int)+1)<D.length - Int.toNat (k:Int);omega
 .have q: ¬(k:Int)<((D.length:Nat):Int):=ag
  simp only[q,bp,au,aM];obtain rfl:k=D.length:=ag
  subst hJ;rw[fb]at B d';have e1:mT s.items (keys D)=s.items.filter (λx=>decide ((now:Int)<(x.cf:Int))):=by rw[<-hD];exact MK ok so nd
  rw[e1]at B;have V':D.length+(s.items.filter (λx=>decide ((now:Int)<(x.cf:Int)))).length=s.items.length:=by
   have h1:=bU List.length K;rw[aA,(BD (now:=(now:Int)) ok so).length_eq,aF,ok.pm.length_eq,aF]at h1;omega
  refine hk g n op oc ys D ⟨_,by rw[u'];exact B,?_⟩ st o hd (λy f=>⟨(F y f).1,(F y f).2.1⟩) d' ?_ ?_ r'
  .exact ok.sub cJ (BD ok so) ag
  .rw[<-hD,(fS so).1];exact fE _ so
  .rw[<-hD];exact ML ok so

end gV
end
section
variable {h:ai} {R:fp}
variable {t:Nat} {r e:Bool} {f g k l E a owner:Int} {i j c d:ByteArray}
theorem MZ.walk(n:aQ h (.map #[] 0) λb H=>aQ H (.cells #[.map (some b)] 172) λB m=>R (.P B 0) m):Cl 36 #[] h R:=aO (lq ll) Tryz.func36 n
theorem xx.walk(H: ∃t9,Cc h t 0 (.map t9)/\R (.bool (!t9.isNone)) h):Cl 130 #[.P t 0] h R:=aO (lq ll) Tryz.func130 H
theorem AH.walk{n:Int}(H:if(decide (n≥0))then R (.bool (decide (n<=2))) h else R (.bool false) h):Cl 149 #[.I n] h R:=aO (lq ll) Tryz.func149 H
theorem GV.walk(o:aQ h (.cells #[.bool r,.U f,.U g,.string i,.string j,.I k,.I l] 136) λb n=>ay.LD n (AA b 0) λT p q s u=>Cl 86 #[.agg #[.bool T,.U p,.U q,.string s,.string u]] n λv H=> ∃t5,v=.bool t5/\if t5 then ay.LD H (AA b 0) λw x y z A=> ∃(eq:Bool),Aj Tryz.prog 29 (.agg #[.bool w,.U x,.U y,.string z,.string A]) (.agg #[.bool false,.U 0,.U 0,.string fU,.string fU]) eq/\if(!eq)then Hi H b 5 λt14=>Cl 149 #[.I t14] H λV m=> ∃t15,V=.bool t15/\if t15 then∃t19,Cc m b 6 (.I t19)/\if(decide (t19≥1))then∃t24,Cc m b 6 (.I t24)/\R (.bool (decide (t24<=1099511627776))) m else R (.bool false) m else R (.bool false) m else R (.bool false) H else R (.bool false) H):Cl 147 #[.agg #[.bool r,.U f,.U g,.string i,.string j,.I k,.I l]] h R:=aO (lq ll) Tryz.func147 o
theorem zO.walk(J:aQ h (.cells #[.bool r,.U f,.U g,.string i,.string j,.I k,.I l] 136) λb G=>Cl 130 #[.P t 0] G λv m=> ∃t8,v=.bool t8/\if(!t8)then R (.I 6) m else∃t14,Cc m t 0 (.map t14)/\ay.LD m (AA b 0) λT p q s u=> ∃w x y z A B C D,hI Tryz.prog 170 (.map t14) (.agg #[.bool T,.U p,.U q,.string s,.string u]) true m (.tuple #[.agg #[.bool w,.U x,.U y,.string z,.string A,.I B,.I C],.bool D])/\aQ m (.cells #[.bool false,.U 0,.U 0,.string fU,.string fU,.I 0,.I 0] 136) λF n=>jP (.map t14) m n/\dI (AA b 0) [.bool T,.U p,.U q,.string s,.string u] 0 n/\Cc n t 0 (.map t14)/\bR.ST n (AA F 0) w x y z A B C λo=>bR.LD o (AA b 0) λK L M N O P Q=>Cl 147 #[.agg #[.bool K,.U L,.U M,.string N,.string O,.I P,.I Q]] o λf' H=> ∃t22,f'=.bool t22/\if(!t22)then R (.I 1) H else if D then R (.I 11) H else∃t30,Cc H t 0 (.map t30)/\∃t31:Int,NY Tryz.prog #[170] 3 (.map t30) H (.I t31)/\if(decide (t31≥8))then R (.I 15) H else∃t36,Cc H t 0 (.map t36)/\ay.LD H (AA b 0) λS U V W X=>bR.LD H (AA b 0) λY Z a' b' c' d' e'=>aW Tryz.prog (Instr.mapUpdate 170 (.map t36) (.agg #[.bool S,.U U,.U V,.string W,.string X]) (.agg #[.bool Y,.U Z,.U a',.string b',.string c',.I d',.I e'])) H λ_ I=>R (.I 0) I):Cl 97 #[.P t 0,.agg #[.bool r,.U f,.U g,.string i,.string j,.I k,.I l]] h R:=aO (lq (sq (lq (cq ll lf)) (sq (pN 13) (sq (bq (lq (cq ll (lq (cq ll (lq (cq ll lf))))))) (sq (pN 8) ll))))) Tryz.func97 J
theorem zP.walk(N:aQ h (.cells #[.bool e,.U E,.U a,.string c,.string d] 29) λb L=>aQ L (.cells #[.bool false,.U 0,.U 0,.string fU,.string fU,.I 0,.I 0] 136) λB M=>Cl 130 #[.P t 0] M λv H=> ∃t11,v=.bool t11/\if(!t11)then bR.ST H (AA B 0) false 0 0 fU fU 0 0 λp=>bR.LD p (AA B 0) λO U Y c' g' k' o'=>R (.tuple #[.agg #[.bool O,.U U,.U Y,.string c',.string g',.I k',.I o'],.I 6]) p else∃t18,Cc H t 0 (.map t18)/\ay.LD H (AA b 0) λT w x y z=> ∃A C D F G I J K,hI Tryz.prog 170 (.map t18) (.agg #[.bool T,.U w,.U x,.string y,.string z]) true H (.tuple #[.agg #[.bool A,.U C,.U D,.string F,.string G,.I I,.I J],.bool K])/\aQ H (.cells #[.bool false,.U 0,.U 0,.string fU,.string fU,.I 0,.I 0] 136) λo n=>jP (.map t18) H n/\dI (AA b 0) [.bool T,.U w,.U x,.string y,.string z] 0 n/\Cc n t 0 (.map t18)/\bR.ST n (AA o 0) A C D F G I J λm=>if(!K)then bR.ST m (AA B 0) false 0 0 fU fU 0 0 λq=>bR.LD q (AA B 0) λP V Z d' h' l' p'=>R (.tuple #[.agg #[.bool P,.U V,.U Z,.string d',.string h',.I l',.I p'],.I 4]) q else∃t29,Cc m o 6 (.I t29)/\if(t29 !=owner)then bR.ST m (AA B 0) false 0 0 fU fU 0 0 λs=>bR.LD s (AA B 0) λQ W a' e' i' m' q'=>R (.tuple #[.agg #[.bool Q,.U W,.U a',.string e',.string i',.I m',.I q'],.I 13]) s else bR.LD m (AA o 0) λs' t' u' v' w' x' y'=>bR.ST m (AA B 0) s' t' u' v' w' x' y' λu=>bR.LD u (AA B 0) λS X b' f' j' n' r'=>R (.tuple #[.agg #[.bool S,.U X,.U b',.string f',.string j',.I n',.I r'],.I 0]) u):Cl 148 #[.P t 0,.agg #[.bool e,.U E,.U a,.string c,.string d],.I owner] h R:=aO (lq (sq (lq (cq ll lf)) (sq (pN 12) (sq (bq (lq (cq ll (lq (cq ll lf))))) ll)))) Tryz.func148 N
theorem uD.walk(C:aQ h (.cells #[.bool e,.U E,.U a,.string c,.string d] 29) λb m=>ay.LD m (AA b 0) λD F G I K=>Cl 148 #[.P t 0,.agg #[.bool D,.U F,.U G,.string I,.string K],.I owner] m λv x=> ∃n o p q s u w T,v=.tuple #[.agg #[.bool n,.U o,.U p,.string q,.string s,.I u,.I w],.I T]/\aQ x (.cells #[.bool false,.U 0,.U 0,.string fU,.string fU,.I 0,.I 0] 136) λB y=>bR.ST y (AA B 0) n o p q s u w λH=>aG (λ(z:ai)=>R (.I T) z) (λJ=>if(T==0)then∃t21,Cc H t 0 (.map t21)/\ay.LD H (AA b 0) λL M N O P=>aW Tryz.prog (Builtin.delete_ #[170,29] 0 #[.map t21,.agg #[.bool L,.U M,.U N,.string O,.string P]]) H λV A=>V=.tuple #[]/\J A else J H)):Cl 98 #[.P t 0,.agg #[.bool e,.U E,.U a,.string c,.string d],.I owner] h R:=aO (lq (lq (sq (lq (.join [] (cq (pN 6) lf))) ll))) Tryz.func98 C
theorem uE.walk{p:Int}(L:aQ h (.cells #[.bool e,.U E,.U a,.string c,.string d] 29) λb C=>aG (λ(t17:Bool) (m:ai)=>if t17 then R (.I 1) m else ay.LD m (AA b 0) λM N O P Q=>Cl 148 #[.P t 0,.agg #[.bool M,.U N,.U O,.string P,.string Q],.I owner] m λv F=> ∃s u w x y z A T,v=.tuple #[.agg #[.bool s,.U u,.U w,.string x,.string y,.I z,.I A],.I T]/\aQ F (.cells #[.bool false,.U 0,.U 0,.string fU,.string fU,.I 0,.I 0] 136) λB G=>bR.ST G (AA B 0) s u w x y z A λo=>aG (λ(I:ai)=>R (.I T) I) (λn=>if(T==0)then aS o (AA B 5) (.I p) λH=> ∃t32,Cc H t 0 (.map t32)/\ay.LD H (AA b 0) λS U V W X=>bR.LD H (AA B 0) λY Z a' b' c' d' e'=>aW Tryz.prog (Instr.mapUpdate 170 (.map t32) (.agg #[.bool S,.U U,.U V,.string W,.string X]) (.agg #[.bool Y,.U Z,.U a',.string b',.string c',.I d',.I e'])) H λ_ K=>n K else n o)) (λJ=>Cl 130 #[.P t 0] C λf' q=> ∃t12,f'=.bool t12/\if t12 then Cl 149 #[.I p] q λg' D=> ∃t15,g'=.bool t15/\J (!t15) D else J false q)):Cl 100 #[.P t 0,.agg #[.bool e,.U E,.U a,.string c,.string d],.I owner,.I p] h R:=aO (lq (sq (sq (.join [(17,.one (.bool))] lf) (cq ll lf)) (lq (sq (lq (.join [] (cq (lq (pN 7)) lf))) ll)))) Tryz.func100 L
theorem xy.walk(L:aQ h (.cells #[.bool e,.U E,.U a,.string c,.string d] 29) λb J=>aQ J (.cells #[.bool false,.U 0,.U 0,.string fU,.string fU,.I 0,.I 0] 136) λB K=>Cl 130 #[.P t 0] K λv H=> ∃t9,v=.bool t9/\if(!t9)then bR.ST H (AA B 0) false 0 0 fU fU 0 0 λo=>bR.LD o (AA B 0) λM O Q U W Y a'=>R (.tuple #[.agg #[.bool M,.U O,.U Q,.string U,.string W,.I Y,.I a'],.bool false]) o else∃t16,Cc H t 0 (.map t16)/\ay.LD H (AA b 0) λT s u w x=> ∃y z A C D F G I,hI Tryz.prog 170 (.map t16) (.agg #[.bool T,.U s,.U u,.string w,.string x]) true H (.tuple #[.agg #[.bool y,.U z,.U A,.string C,.string D,.I F,.I G],.bool I])/\aQ H (.cells #[.bool false,.U 0,.U 0,.string fU,.string fU,.I 0,.I 0] 136) λn m=>jP (.map t16) H m/\dI (AA b 0) [.bool T,.U s,.U u,.string w,.string x] 0 m/\Cc m t 0 (.map t16)/\bR.ST m (AA n 0) y z A C D F G λp=>bR.LD p (AA n 0) λc' d' e' f' g' h' i'=>bR.ST p (AA B 0) c' d' e' f' g' h' i' λq=>bR.LD q (AA B 0) λN P S V X Z b'=>R (.tuple #[.agg #[.bool N,.U P,.U S,.string V,.string X,.I Z,.I b'],.bool I]) q):Cl 155 #[.P t 0,.agg #[.bool e,.U E,.U a,.string c,.string d]] h R:=aO (lq (sq (lq (cq ll lf)) (sq (pN 12) ll))) Tryz.func155 L

end
section
namespace gj
open iW
variable {h h':ai} {R:fp} {b:Nat} {X:Ft}
structure Rg where
 e:Ev
 j9:Int
 own:Int
abbrev Rg.zero:Rg:=⟨.zero,0,0⟩
abbrev Rg.val(r:Rg):Value:=.agg #[.bool r.e.ky,.int .u64 r.e.node,.int .u64 r.e.gk,.string r.e.host,.string r.e.jB,.int .i64 r.j9,.int .i64 r.own]
abbrev Rg.at(h:ai)(b:Nat)(r:Rg):Prop:=bR.at h b r.e.ky r.e.node r.e.gk r.e.host r.e.jB r.j9 r.own
abbrev Rg.pair(r:Rg):Ev×Value:=(r.e,r.val)
abbrev qt(x y:Rg):Prop:=nk x.e y.e=true
theorem nK:nf Tryz.prog 170 kz Rg.zero.val:=nf.of 29 136 dj key dj
structure KZ (h:ai) (b:Nat) (X:Ft) (L:List Rg) (m:Nat):Prop where
 cT:h[b]? =some (.cells #[.map (some m)] 172 (0,0))
 map:ja h m kz (L.map Rg.pair)
 fm: ∀c,X.M c↔c=b\/c=m
 d: ∀c,¬X.D c
 ne:b≠m
 so:L.Pairwise qt
def Tb(h:ai)(b:Nat)(X:Ft)(L:List Rg):Prop:= ∃m,KZ h b X L m
variable {L : List Rg} {m : Nat}
theorem KZ.frame{Q:Nat->Prop}(H:KZ h b X L m)(f:Fr Q h h')(a: ∀y,X.M y\/X.D y->¬Q y):KZ h' b X L m:=
 ⟨f.get H.cT (a b (.inl ((H.fm b).2 (.inl rfl)))),H.map.frame f (a m (.inl ((H.fm m).2 (.inr rfl)))),H.fm,H.d,H.ne,H.so⟩
theorem KZ.on(H:KZ h b X L m)(f:Fr No h h'):KZ h' b X L m:=H.frame f cb
theorem Tb.frame{Q:Nat->Prop}(H:Tb h b X L)(f:Fr Q h h')(a: ∀y,X.M y\/X.D y->¬Q y):Tb h' b X L:=by
 obtain⟨m,H⟩:=H;exact⟨m,H.frame f a⟩
theorem Tb.on(H:Tb h b X L)(f:Fr No h h'):Tb h' b X L:=H.frame f cb
theorem Tb.lt(H:Tb h b X L)(y:Nat)(hy:X.M y\/X.D y):y<h.size:=by
 obtain⟨m,H⟩:=H;rcases hy with hy|hy
 .rcases(H.fm y).1 hy with rfl|rfl
  .exact aD H.cT
  .exact H.map.lt
 .exact absurd hy (H.d y)
def ij(L:List Rg)(x:Ev):Option Rg:=L.find? (λr=>decide (r.e=x))
theorem GW{x:Ev}{r:Rg}(h:ij L x=some r):r∈L/\r.e=x:=⟨List.mem_of_find?_eq_some h,cA (List.find?_some h)⟩
theorem GX{x:Ev}:ij L x=none↔ ∀r∈L,r.e≠x:=by unfold ij;simp
theorem Kc(L:List Rg)(x:Ev):qY (L.map Rg.pair) x=(ij L x).map Rg.val:=by
 unfold qY ij;rw[List.find?_map];cases h:L.find? ((λe:Ev×Value=>decide (e.1=x)) ∘ Rg.pair)with
 |none=>have:L.find? (λr=>decide (r.e=x))=none:=h;rw[this];rfl
 |some r=>have:L.find? (λr=>decide (r.e=x))=some r:=h;rw[this];rfl
def AI(r:Rg):List Rg->List Rg
 | []=> [r]
 |x::l=>if nk x.e r.e=true then x::AI r l else r::x::l
theorem qT(r:Rg): ∀L:List Rg,(AI r L).Perm (r::L)
 | []=> .refl _
 |x::l=>by
  unfold AI;split
  .exact((qT r l).cons x).trans (List.Perm.swap r x l)
  .exact .refl _
theorem EW{r x:Rg}:x∈AI r L↔x=r\/x∈L:=by rw[(qT r L).mem_iff,bH]
theorem M0(r:Rg)(L:List Rg):(AI r L).length=L.length+1:=by rw[(qT r L).length_eq];rfl
theorem Ij{r:Rg}: ∀{L:List Rg},L.Pairwise qt->(∀x∈L,x.e≠r.e)->(AI r L).Pairwise qt
 | [],_,_=>List.pairwise_singleton _ _
 |x::l,h,c=>by
  obtain⟨a,e⟩:=dF.1 h;unfold AI;split
  .rename_i H;refine dF.2 ⟨λy hy=> ?_,Ij e (λy hy=>c y (bZ _ hy))⟩;rcases EW.1 hy with rfl|hy
   .exact H
   .exact a y hy
  .rename_i H;have d:nk r.e x.e=true:=(Gd (c x bP)).resolve_left H;refine dF.2 ⟨λy hy=> ?_,h⟩;rcases bH.1 hy with rfl|hy
   .exact d
   .exact Gc d (a y hy)
def Kd(L:List Rg)(x:Ev):List Rg:=L.filter (λr=> !decide (r.e=x))
def GY(L:List Rg)(x:Ev)(p:Int):List Rg:=L.map (λr=>if r.e=x then { r with j9:=p } else r)
def ia(r:Rg):Bool:=cV r.e && (!decide (r.e=Ev.zero) && (decide (r.j9≥0) && decide (r.j9<=2) && (decide (r.own≥1) && decide (r.own<=1099511627776))))
def iH(L:List Rg)(r:Rg):Int:=if ia r=false then 1 else if(ij L r.e).isSome=true then 11 else if L.length≥8 then 15 else 0
def AJ(L:List Rg)(r:Rg):List Rg:=if iH L r=0 then AI r L else L
def jh(L:List Rg)(x:Ev)(owner:Int):Int:=match ij L x with|none=>4|some r=>if r.own=owner then 0 else 13
def zQ(L:List Rg)(x:Ev)(owner:Int):List Rg:=if jh L x owner=0 then Kd L x else L
def Ke(L:List Rg)(x:Ev)(owner p:Int):Int:=if 0<=p/\p<=2 then jh L x owner else 1
def EY(L:List Rg)(x:Ev)(owner p:Int):List Rg:=if Ke L x owner p=0 then GY L x p else L
theorem zR(L:List Rg)(r:Rg):(ia r=false/\iH L r=1)\/(ia r=true/\(ij L r.e).isSome=true/\iH L r=11)\/(ia r=true/\ij L r.e=none/\L.length≥8/\iH L r=15)\/(ia r=true/\ij L r.e=none/\L.length<8/\iH L r=0):=by
 unfold iH;cases a:ia r with
 |false=>exact .inl ⟨rfl,bP⟩
 |true=>
  cases c:ij L r.e with
  |some x=>exact .inr (.inl ⟨rfl,rfl,bP⟩)
  |none=>
   by_cases H:L.length≥8
   .exact .inr (.inr (.inl ⟨rfl,rfl,H,by simp[H]⟩))
   .exact .inr (.inr (.inr ⟨rfl,rfl,ag,by simp[H]⟩))
theorem fI(H:KZ h b X L m)(hk:R (.bool true) h):Cl 130 #[.P b 0] h R:=xx.walk ⟨_,ar H.cT,hk⟩
theorem iT(hk: ∀h' b X,Tb h' b X []->Lp h X h'->R (.P b 0) h'):Cl 36 #[] h R:=by
 refine MZ.walk (cF (cF ?_));have f1:Fr No h (h.push (.map #[] 0)):=Fr.push _ _;have M:=ja.push (α:=Ev) h kz;have z:(h.push (.map #[] 0)).size=h.size+1:=dJ _;generalize h.push (.map #[] 0)=H at f1 M z⊢;have f2:Fr No H (H.push (.cells #[.map (some h.size)] 172)):=Fr.push _ _;refine hk _ H.size ⟨λc=>c=H.size\/c=h.size,λ_=>False⟩ ⟨h.size,bV,M.frame f2 id,λc=>eE,λ_=>id,ag,.nil⟩ ⟨f1.tt f2,λc hc=> ?_⟩;rcases hc with hc|hc
 .rcases hc with rfl|rfl<;>omega
 .exact hc.elim
theorem wT{n:Int}(hk:R (.bool (decide (n≥0) && decide (n<=2))) h):Cl 149 #[.I n] h R:=by
 refine AH.walk ?_;by_cases q:n≥0
 .simp only[q,bC,bj,dL]at hk⊢;exact hk
 .simp only[q,bp,au,aM,eY]at hk⊢;exact hk
theorem e8(r:Rg)(hk: gL h R (.bool (ia r))):Cl 147 #[r.val] h R:=by
 refine GV.walk (bR.box λb f e c f1=> ?_);have l: ∀{g:ai}{K:Bool->Int->Int->ByteArray->ByteArray->Prop},r.at g b->K r.e.ky r.e.node r.e.gk r.e.host r.e.jB->ay.LD g (AA b 0) K:=λH hk=>⟨_,ar H,_,ar H,_,ar H,_,ar H,_,ar H,hk⟩
 refine l c (iW.e8 r.e λd f2=>⟨_,rfl,?_⟩);have a:=f2.get c id;have K:=hk d (f1.tt f2);unfold ia at K;by_cases q:cV r.e=true
 .rw[af q];rw[q,dL]at K;refine l a ⟨_,xd (y:=.zero) (x:=r.e) rfl rfl,?_⟩;by_cases q1:r.e=.zero
  .rw[av q1,dc];rw[av q1]at K;exact K
  .rw[az q1,fK];rw[az q1,dK,dL]at K;refine⟨_,ar a,wT ⟨_,rfl,?_⟩⟩;by_cases q2:(decide (r.j9≥0) && decide (r.j9<=2))=true
   .rw[af q2];rw[q2,dL]at K;refine⟨_,ar a,?_⟩;by_cases q3:r.own≥1
    .rw[af (av q3)];rw[av q3,dL]at K;exact⟨_,ar a,K⟩
    .rw[ae (cA q3)];rw[az q3,eY]at K;exact K
   .rw[ae q2];have q2:(decide (r.j9≥0) && decide (r.j9<=2))=false:=by simpa using q2
    rw[q2,eY]at K;exact K
 .rw[ae q];have q:cV r.e=false:=by simpa using q
  rw[q,eY]at K;exact K
theorem RJ{g:ai}{b:Nat}{r:Rg}{K:Bool->Int->Int->ByteArray->ByteArray->Prop}(H:r.at g b)(hk:K r.e.ky r.e.node r.e.gk r.e.host r.e.jB):ay.LD g (AA b 0) K:=
 ⟨_,ar H,_,ar H,_,ar H,_,ar H,_,ar H,hk⟩
theorem look(H:KZ h b X L m)(x:Ev):hI Tryz.prog 170 (.map (some m)) (kz x) true h (.tuple #[((ij L x).getD .zero).val,.bool (ij L x).isSome]):=by
 have:=Jc nK H.map x;rw[Kc]at this;cases a:ij L x with
 |none=>rw[a]at this;exact this
 |some r=>rw[a]at this;exact this
theorem Fr.put{H a d:ai}{c:Nat}(f:Fr No H a)(k:d.size=a.size)(i: ∀x,x≠c->d[x]? =a[x]?)(j:H.size<=c):Fr No H d:=
 f.fresh (S:=λy=>y=c) ⟨ag,λy _ g=>i y g⟩ (λy e=>ag)
theorem gH(H:Tb h b X L)(x:Ev)(hk: gL h R (.tuple #[((ij L x).getD .zero).val,.bool (ij L x).isSome])):
  Cl 155 #[.P b 0,kz x] h R:=by
 obtain⟨m,H⟩:=H;refine xy.walk (ay.box λb1 l e1 c f1=>bR.box λB n e2 d f2=> ?_);have f12:=f1.tt f2;have c:=f2.get c id;have a:=H.on f12;refine fI a ⟨_,rfl,?_⟩;rw[dc];refine⟨_,ar a.cT,ay.ld c ⟨_,_,_,_,_,_,_,_,look a x,bR.box λe p E j f3=> ?_⟩⟩;refine⟨f3.2 m a.map.lt id,ay.held (f3.get c id),ar (f3.get a.cT id),bR.set j λf a4 s4 o=>bR.ld a4 ?_⟩;have i:(Rg.zero).at f B:=by
  have:=f3.get d id;have k:B≠e:=by have:=aD d;omega
  unfold Rg.at bR.at;rw[o B k];exact this
 have z:=f12.1;have Z:=f3.1;refine bR.set i λg a5 s O=>bR.ld a5 (hk g ?_)
 exact Fr.put (Fr.put (f12.tt f3) s4 o ag) s O (bY f1.1)
theorem vR(H:Tb h b X L)(x:Ev)(owner:Int)(hk: gL h R (.tuple #[(if jh L x owner=0 then(ij L x).getD .zero else .zero).val,.I (jh L x owner)])):
  Cl 148 #[.P b 0,kz x,.I owner] h R:=by
 obtain⟨m,H⟩:=H;refine zP.walk (ay.box λb1 t e1 f f1=>bR.box λB u e2 k f2=> ?_);have f12:=f1.tt f2;have f:=f2.get f id;have c:=H.on f12;refine fI c ⟨_,rfl,?_⟩;rw[dc];refine⟨_,ar c.cT,ay.ld f ⟨_,_,_,_,_,_,_,_,look c x,bR.box λl v q n f3=> ?_⟩⟩;refine⟨f3.2 m c.map.lt id,ay.held (f3.get f id),ar (f3.get c.cT id),bR.set n λi a4 s4 O=> ?_⟩;have j:(Rg.zero).at i B:=by
  have:=f3.get k id;have p:B≠l:=by have:=aD k;omega
  unfold Rg.at bR.at;rw[O B p];exact this
 have z:=f1.1;have Z:=f2.1;have F:=Fr.put (f12.tt f3) s4 O ag;have fin: ∀(r:Rg)(e:Int),(if jh L x owner=0 then(ij L x).getD .zero else .zero)=r->jh L x owner=e->∀a,r.at a B->a.size=i.size->(∀y,y≠B->a[y]? =i[y]?)->R (.tuple #[r.val,.I e]) a:=by
  intro r e e1 e2 a _ s o;rw[<-e1,<-e2];exact hk a (Fr.put F s o ag)
 cases d:ij L x with
 |none=>
  have E:jh L x owner=4:=by unfold jh;rw[d]
  rw[af (by rfl)];exact bR.set j λa a5 s o=>bR.ld a5 (fin .zero 4 (by rw[E,dc]) E a a5 s o)
 |some r=>
  rw[d]at a4;rw[ae bP];refine⟨_,ar a4,?_⟩;by_cases g:r.own=owner
  .have E:jh L x owner=0:=by unfold jh;rw[d];exact af g
   rw[ae (cA g)];exact bR.ld a4 (bR.set j λa a5 s o=>bR.ld a5 (fin r 0 (by rw[E,af rfl,d];rfl) E a a5 s o))
  .have E:jh L x owner=13:=by unfold jh;rw[d];exact ae g
   rw[af (cA g)];exact bR.set j λa a5 s o=>bR.ld a5 (fin .zero 13 (by rw[E,dc]) E a a5 s o)
theorem KZ.put{l:List Rg}{a:ai}(H:KZ h b X L m)(M:ja a m kz (l.map Rg.pair))(i:a.size=h.size)(d: ∀c,c≠m->a[c]? =h[c]?)(so:l.Pairwise qt):KZ a b X l m/\bm X h X a:=by
 have f:Fr X.M h a:=⟨ag,λc _ g=>d c (λe=>g ((H.fm c).2 (.inr e)))⟩;refine⟨⟨?_,M,H.fm,H.d,H.ne,so⟩,bm.tB f⟩;rw[d b H.ne];exact H.cT
theorem EZ(L:List Rg)(x:Ev):vj (L.map Rg.pair) x=(Kd L x).map Rg.pair:=by
 unfold vj Kd;rw[du];rfl
theorem OT{x:Ev}(so:L.Pairwise qt):(Kd L x).Pairwise qt:=so.sublist cJ
theorem OU{x:Ev}{p:Int}(so:L.Pairwise qt):(GY L x p).Pairwise qt:=by
 unfold GY;rw[eL];refine so.imp fun {u v} H=> ?_
 have e: ∀r:Rg,(if r.e=x then { r with j9:=p } else r:Rg).e=r.e:=λr=>by split<;>rfl
 show nk _ _=true;rw[e,e];exact H
theorem E0{x:Ev}{p:Int}{r:Rg}: ∀{L:List Rg},L.Pairwise qt->r∈L->r.e=x->(GY L x p).Perm ({ r with j9:=p } ::Kd L x)
 | [],_,h,_=>by cases h
 |y::l,so,h,e=>by
  obtain⟨a,f⟩:=dF.1 so;unfold GY Kd;rw[bX,ch];rcases bH.1 h with rfl|h
  .rw[af e,ae (by simp[e])];refine List.Perm.cons _ ?_;have c: ∀z∈l,z.e≠x:=λz H e2=>by
    have:=a z H;rw[qt,e,e2,wN]at this;cases this
   have e1:l.map (λr=>if r.e=x then({ r with j9:=p } :Rg)else r)=l:=by
    conv=>rhs;rw[<-List.map_id l]
    exact eh (λz H=>ae (c z H))
   have e2:l.filter (λr=> !decide (r.e=x))=l:=by
    rw[cj];intro z H;simp[c z H]
   rw[e1,e2]
  .have d:y.e≠x:=λe2=>by
    have:=a r h;rw[qt,e,e2,wN]at this;cases this
   rw[ae d,af (by simp[d])];exact((E0 f h e).cons y).trans (List.Perm.swap _ _ _)
theorem zN(H:Tb h b X L)(r:Rg)(I:L.length<=8)(hk: ∀h',Tb h' b X (AJ L r)->bm X h X h'->R (.I (iH L r)) h'):
  Cl 97 #[.P b 0,r.val] h R:=by
 obtain⟨m,H⟩:=H;refine zO.walk (bR.box λb1 D e1 f f1=> ?_);have d:=H.on f1;refine fI d ⟨_,rfl,?_⟩;rw[dc];refine⟨_,ar d.cT,RJ (r:=r) f ⟨_,_,_,_,_,_,_,_,look d r.e,bR.box λB G C u f3=> ?_⟩⟩;have l:=f3.get f id;refine⟨f3.2 m d.map.lt id,gT l (λj v a=> ?_),ar (f3.get d.cT id),bR.set u λt a4 s4 O=> ?_⟩
 .rw[bL]
  match j,a with
  |0,a=>simpa using a
  |1,a=>simpa using a
  |2,a=>simpa using a
  |3,a=>simpa using a
  |4,a=>simpa using a
 have Z:=f1.1;have q:=Fr.put (f1.tt f3) s4 O ag;have n:r.at t b1:=by
  have x:b1≠B:=by have:=aD f;omega
  unfold Rg.at bR.at;rw[O b1 x];exact l
 refine bR.ld n (e8 r λg f5=>⟨_,rfl,?_⟩);have F:=q.tt f5;have c:=H.on F;have o:=f5.get n id;have mU:AJ L r=L->R (.I (iH L r)) g:=λe=>hk g (by rw[e];exact⟨m,c⟩) (bm.gr F)
 rcases zR L r with⟨q1,q2⟩|⟨q1,q3,q2⟩|⟨q1,q3,q4,q2⟩|⟨q1,q3,q4,q2⟩
 .rw[q1,fK];rw[q2]at mU;exact mU (by unfold AJ;rw[q2];rfl)
 .rw[q1,dc,af q3];rw[q2]at mU;exact mU (by unfold AJ;rw[q2];rfl)
 .rw[q1,dc,ae (by rw[q3];simp)];refine⟨_,ar c.cT,_,FP nK c.map,?_⟩;rw[aF,fK];rw[q2]at mU;exact mU (by unfold AJ;rw[q2];rfl)
 .rw[q1,dc,ae (by rw[q3];simp)];refine⟨_,ar c.cT,_,FP nK c.map,?_⟩;rw[aF,ae (by simp;omega)];refine⟨_,ar c.cT,RJ (r:=r) o (bR.ld o (yy nK c.map (k:=r.e) λi M S A=> ?_))⟩;have E:AJ L r=AI r L:=af q2;have p:=GX.1 q3;have M:ja i m kz ((AI r L).map Rg.pair):=by
   refine M.perm ?_;unfold DQ;rw[qL (λe w=>by obtain⟨y,z,rfl⟩:=bh.1 w;exact p y z)];exact((qT r L).map Rg.pair).symm
  obtain⟨s,st⟩:=c.put M S A (Ij c.so p);rw[E,q2]at hk;exact hk i ⟨m,s⟩ (bm.no F st)
theorem nL(H:Tb h b X L)(x:Ev)(owner:Int)(hk: ∀h',Tb h' b X (zQ L x owner)->bm X h X h'->R (.I (jh L x owner)) h'):
  Cl 98 #[.P b 0,kz x,.I owner] h R:=by
 refine uD.walk (ay.box λb1 j e1 d f1=>ay.ld d (vR (H.on f1) x owner λl f2=>⟨_,_,_,_,_,_,_,_,rfl,bR.new λB f E n f3=>aG.of λJ c=> ?_⟩));have F:=f1.tt (f2.tt f3);have i:=(f2.tt f3).get d id;obtain⟨m,H⟩:=H;have a:=H.on F;by_cases q:jh L x owner=0
 .rw[af (cA q)];refine⟨_,ar a.cT,ay.ld i (DS nK a.map (k:=x) λg M s4 o=>⟨rfl,?_⟩)⟩;subst c;rw[EZ]at M;obtain⟨e,st⟩:=a.put M s4 o (OT a.so);exact hk g (by unfold zQ;rw[af q];exact⟨m,e⟩) (bm.no F st)
 .rw[ae (cA q)];subst c;exact hk f (by unfold zQ;rw[ae q];exact⟨m,a⟩) (bm.gr F)
theorem Kf(H:Tb h b X L)(x:Ev)(owner p:Int)(hk: ∀h',Tb h' b X (EY L x owner p)->bm X h X h'->R (.I (Ke L x owner p)) h'):
  Cl 100 #[.P b 0,kz x,.I owner,.I p] h R:=by
 refine uE.walk (ay.box λb1 a e1 f f1=>aG.of λJ c=> ?_);have u:=H;obtain⟨m,H⟩:=H;have i:=H.on f1;refine fI i ⟨_,rfl,?_⟩;rw[af rfl];refine wT ⟨_,rfl,?_⟩;subst c;by_cases Q:0<=p/\p<=2
 .have E:(decide (p≥0) && decide (p<=2))=true:=by simp[Q.1,Q.2]
  have e:Ke L x owner p=jh L x owner:=af Q;rw[E];dsimp only;rw[dc];refine ay.ld f (vR (u.on f1) x owner λj f2=>⟨_,_,_,_,_,_,_,_,rfl,bR.new λB y K o f3=>aG.of λJ c=> ?_⟩);have F:=f1.tt (f2.tt f3);have z:=(f2.tt f3).get f id;have v:=H.on F;rw[e]at hk;by_cases q:jh L x owner=0
  .rw[af (cA q)];obtain⟨r,s⟩: ∃r,ij L x=some r:=by
    cases C:ij L x with
    |none=>unfold jh at q;rw[C]at q;cases q
    |some r=>exact⟨r,rfl⟩
   rw[af q,s]at o;obtain⟨G,t⟩:=GW s;refine bw o bP λl a4 s4 O=> ?_
   have Z:=f1.1;have N:=f2.1;have g:=Fr.put F s4 O ag;have d:=H.on g;have A:Ev.at l b1 x:=by
    have D:b1≠B:=by have:=aD f;omega
    unfold Ev.at ay.at;rw[O b1 D];exact z
   have a4:({ r with j9:=p } :Rg).at l B:=a4;refine⟨_,ar d.cT,ay.ld A (bR.ld a4 (yy nK d.map (k:=x) λn M S I=> ?_))⟩;have M:ja n m kz ((GY L x p).map Rg.pair):=by
    refine M.perm ?_;unfold DQ;rw[EZ];have:=((E0 (p:=p) H.so G t).map Rg.pair).symm;rw[bX]at this;have e2:(x,({ r with j9:=p } :Rg).val)=({ r with j9:=p } :Rg).pair:=by rw[<-t]
    rw[show((x,Value.agg #[.bool r.e.ky,.U r.e.node,.U r.e.gk,.string r.e.host,.string r.e.jB,.I p,.I r.own]):Ev×Value)=({ r with j9:=p } :Rg).pair from e2];exact this
   obtain⟨w,st⟩:=d.put M S I (OU H.so);subst c;exact hk n (by unfold EY;rw[e,af q];exact⟨m,w⟩) (bm.no g st)
  .rw[ae (cA q)];subst c;exact hk y (by unfold EY;rw[e,ae q];exact⟨m,v⟩) (bm.gr F)
 .have E:(decide (p≥0) && decide (p<=2))=false:=by
   rw[Bool.and_eq_false_iff];by_cases a:p≥0
   .exact .inr (az (λj=>Q ⟨a,j⟩))
   .exact .inl (az a)
  have e:Ke L x owner p=1:=ae Q;rw[E];dsimp only;rw[fK];rw[e]at hk;exact hk a (by unfold EY;rw[e,dc];exact⟨m,i⟩) (bm.gr f1)
end gj
end
section
variable {h:ai} {R:fp}
variable {t s S D l:Nat} {n E c V k num:Int} {g m:cy} {e:Bool} {d f:ByteArray}
theorem GZ.walk(o:aQ h (.map #[] 0) λb H=>Cl 87 #[] H λv a=>Vp v λt2=>Cl 87 #[] a λp i=>Vp p λt3=>aQ i (.cells #[.map (some b),.I 1,.I 0,.I 0,.I 0,.pointer t2,.pointer t3] 110) λB j=>R (.P B 0) j):Cl 37 #[] h R:=aO (lq ll) Tryz.func37 o
theorem uF.walk(H: ∃t9,Cc h t 0 (.map t9)/\R (.bool (!t9.isNone)) h):Cl 47 #[.P t 0] h R:=aO (lq ll) Tryz.func47 H
theorem qu.walk(K:Cl 47 #[.P t 0] h λv H=>Vb v λt6=>aG (λ(x:cy) (w u:Nat) (A:ai)=>Cl 134 #[.slice x w u] A λQ B=>Q=.tuple #[]/\R (.slice x w u) B) (λJ=>if t6 then∃t10,Cc H t 0 (.map t10)/\aW Tryz.prog (Instr.range 107 (.map t10)) H λU C=> ∃(it:Nat),U=.P it 0/\∃(I:cy->Nat->Nat->ai->Prop)(M:cy->Nat->Nat->ai->Nat),I none 0 0 C/\∀(a:cy)(O o:Nat)(i:ai),I a O o i->aW Tryz.prog (Instr.next (.P it 0) false 0) i λz q=>(z=.tuple #[.bool false]/\J a O o q)\/(∃(L N:Value),z=.tuple #[.bool true,L,N]/\aW Tryz.prog (Instr.entry (.P it 0)) q λW F=> ∃(y P:Value),W=.tuple #[y,P]/\∃t15,y=.I t15/\aQ F (.cells #[.I t15] 3) λb G=>aW Tryz.prog (Builtin.append_ #[105,105] 105 #[.slice a O o,.slice (Sa b 0) 1 1]) G λX r=> ∃p j T,X=.slice p j T/\(I p j T r/\M p j T r<M a O o i))else J none 0 0 H)):Cl 68 #[.P t 0] h R:=aO (lq (lq (sq (lq (.join [(3,.one (.slice))] (cq (lq (bq (.loop [(3,.one (.slice))] (lq (sq (cq lf lf) (bq (sq (.typed [(15,.one (.int .i64))]) lf))))))) lf))) (lq ll)))) Tryz.func68 K
theorem uG.walk{c0:Nat}{c1:Nat}(H:Hp h c0 0 λt5=>aL t5 λa=> ∃t8,bg h a=some (.map t8)/\∃t10,hI Tryz.prog 107 (.map t8) (.I n) false h (.pointer t10)/\aL t10 λA=>ay.LD h (A.add 1) λT b i j o=>ay.LD h (AA c1 0) λp q r u v=> ∃(eq:Bool),Aj Tryz.prog 29 (.agg #[.bool T,.U b,.U i,.string j,.string o]) (.agg #[.bool p,.U q,.U r,.string u,.string v]) eq/\R (.bool (!eq)) h):Cl 113 #[.I n,.P c0 0,.P c1 0] h R:=aO (lq (sq (pN 12) lf)) Tryz.func113 H
theorem lJ.of.walk{b:Nat}{o:Nat}(B:Cl 168 #[.slice g s S,.func (.func 113) #[] #[.P b 0,.P o 0]] h λv q=> ∃t10,v=.I t10/\if(t10==(-1))then R (.slice g s S) q else∃(I:Int->Int->ai->Prop)(M:Int->Int->ai->Nat),I t10 (wrap .i64 (t10+1)) q/\∀(i:Int)(j:Int)(H:ai),I i j H->if(decide (j<(s:Int)))then aG (λ(w:Int) (r:ai)=>(I w (wrap .i64 (j+1)) r/\M w (wrap .i64 (j+1)) r<M i j H)) (λJ=>Bd j s/\aL g λa=>jk H (a.add (toNat j*1)) λt25=>Cl 113 #[.I t25,.P b 0,.P o 0] H λF u=>Vb F λt28=>aG (λ(C:Int) (x:ai)=>J C x) (λp=>if(!t28)then Bd i s/\aL g λA=>aS u (A.add (toNat i*1)) (.I t25) λy=>p (wrap .i64 (i+1)) y else p i u))else((0:Int)<=i/\i<=(s:Int))/\aW Tryz.prog (Builtin.clear_ #[105] 0 #[.slice (cO g S (toNat i) 1) (s - (toNat i)) (S - (toNat i))]) H λG z=>G=.tuple #[]/\((0:Int)<=i/\i<=(S:Int))/\R (.slice (cO g S 0 1) ((toNat i) - 0) (S - 0)) z):Cl 112 #[.slice g s S,.func (.func 113) #[] #[.P b 0,.P o 0]] h R:=aO (lq (lq (sq (lq (cq ll lf)) (sq (lq (bq (.loop [(5,.one (.int .i64)),(6,.one (.int .i64))] (sq (lq (cq lf lf)) (sq (.join [(5,.one (.int .i64))] (bq (lq (lq (.join [(5,.one (.int .i64))] (cq ll lf)))))) lf))))) (lq ll))))) Tryz.func112 B
theorem hC.of.walk{F:Nat}{i:Nat}(j: ∃(I:Int->ai->Prop)(M:Int->ai->Nat),I 0 h/\∀(t8:Int)(H:ai),I t8 H->if(decide (t8<(s:Int)))then Bd t8 s/\aL g λa=>jk H (a.add (toNat t8*1)) λt15=>Cl 113 #[.I t15,.P F 0,.P i 0] H λv b=> ∃t16,v=.bool t16/\if t16 then R (.I t8) b else(I (wrap .i64 (t8+1)) b/\M (wrap .i64 (t8+1)) b<M t8 H)else R (.I (-1)) H):Cl 168 #[.slice g s S,.func (.func 113) #[] #[.P F 0,.P i 0]] h R:=aO (lq (sq (lq (bq (.loop [(8,.one (.int .i64))] (lq (sq (cq lf lf) (sq (bq (lq (lq (cq ll lf)))) lf)))))) ll)) Tryz.func168 j
theorem xz.walk(q:aQ h (.cells #[.P t 0] 36) λb j=>aQ j (.cells #[.bool e,.U E,.U c,.string d,.string f] 29) λB H=>Hp H b 0 λt5=>Cl 68 #[.pointer t5] H λv o=>Vl v λw u r=>Cl 112 #[.slice w u r,.func (.func 113) #[] #[.P b 0,.P B 0]] o λx p=> ∃i a T,x=.slice i a T/\R (.slice i a T) p):Cl 49 #[.P t 0,.agg #[.bool e,.U E,.U c,.string d,.string f]] h R:=aO (lq ll) Tryz.func49 q
theorem sE.walk(r:aQ h (.cells #[.bool e,.U E,.U c,.string d,.string f] 29) λb i=>ay.LD i (AA b 0) λx y z B C=>Cl 49 #[.P t 0,.agg #[.bool x,.U y,.U z,.string B,.string C]] i λv p=>Vl v λw T F=> ∃(I:Int->Int->ai->Prop)(M:Int->Int->ai->Nat),I 0 0 p/\∀(n:Int)(t12:Int)(H:ai),I n t12 H->if(decide (t12<(T:Int)))then aG (λ(N:Int) (o:ai)=>(I N (wrap .i64 (t12+1)) o/\M N (wrap .i64 (t12+1)) o<M n t12 H)) (λJ=>Bd t12 T/\aL w λa=>jk H (a.add (toNat t12*1)) λt15=> ∃t19,Cc H t 0 (.map t19)/\∃t21,hI Tryz.prog 107 (.map t19) (.I t15) false H (.pointer t21)/\aL t21 λA=>jk H (A.add 8) λt24=>aG (λ(u:Int) (q:ai)=>J u q) (λj=>if(t24==0)then j (wrap .i64 (n+1)) H else j n H))else R (.I n) H):Cl 103 #[.P t 0,.agg #[.bool e,.U E,.U c,.string d,.string f]] h R:=aO (lq (lq (sq (lq (bq (.loop [(5,.one (.int .i64)),(12,.one (.int .i64))] (lq (sq (cq lf lf) (sq (.join [(5,.one (.int .i64))] (bq (lq (lq (.join [(5,.one (.int .i64))] (cq lf lf)))))) lf)))))) ll))) Tryz.func103 r
theorem rN.walk(p:aQ h (.cells #[.I 0,.I 0,.I 0,.I 0,.I 0,.I 0] 50) λb o=>Cl 47 #[.P t 0] o λv a=> ∃t5,v=.bool t5/\if(!t5)then gD.ST a (AA b 0) 0 0 0 0 0 0 λi=>gD.LD i (AA b 0) λr u x z B F=>R (.agg #[.I r,.I u,.I x,.I z,.I B,.I F]) i else Hp a t 6 λt11=>Cl 56 #[.pointer t11] a λI H=>Vi I λt12=>Hi H t 1 λt16=> ∃t21,Cc H t 0 (.map t21)/\∃t22:Int,NY Tryz.prog #[107] 3 (.map t21) H (.I t22)/\Hi H t 2 λt29=>Hi H t 3 λt33=>Hi H t 4 λt37=>gD.ST H (AA b 0) (wrap .i64 (t16 - 1)) (wrap .i64 (t22 - t12)) t12 t29 t33 t37 λj=>gD.LD j (AA b 0) λq w y A C G=>R (.agg #[.I q,.I w,.I y,.I A,.I C,.I G]) j):Cl 17 #[.P t 0] h R:=aO (lq (sq (lq (cq ll lf)) (lq (sq (pN 27) lf)))) Tryz.func17 p
theorem AK.walk(i:aQ h (.cells #[.bool e,.U E,.U c,.string d,.string f] 29) λb a=>ay.LD a (AA b 0) λr u w x y=>Cl 86 #[.agg #[.bool r,.U u,.U w,.string x,.string y]] a λv H=> ∃t8,v=.bool t8/\if t8 then ay.LD H (AA b 0) λT j o p q=> ∃(eq:Bool),Aj Tryz.prog 29 (.agg #[.bool T,.U j,.U o,.string p,.string q]) (.agg #[.bool false,.U 0,.U 0,.string fU,.string fU]) eq/\if(!eq)then if(decide ((D:Int)≥1))then if(decide ((D:Int)<=600))then R (.bool (decide (V<=1099511627776))) H else R (.bool false) H else R (.bool false) H else R (.bool false) H else R (.bool false) H):Cl 48 #[.agg #[.bool e,.U E,.U c,.string d,.string f],.slice m D l,.U V] h R:=aO (lq ll) Tryz.func48 i
theorem vU.walk(C:aQ h (.cells #[.bool e,.U E,.U c,.string d,.string f] 29) λb z=>Cl 47 #[.P t 0] z λv a=> ∃t13,v=.bool t13/\if(!t13)then R (.tuple #[.I 0,.I 6]) a else ay.LD a (AA b 0) λF G I J K=>Cl 48 #[.agg #[.bool F,.U G,.U I,.string J,.string K],.slice m D l,.U V] a λZ i=> ∃t19,Z=.bool t19/\if(!t19)then R (.tuple #[.I 0,.I 1]) i else ay.LD i (AA b 0) λL M N O P=>Cl 49 #[.P t 0,.agg #[.bool L,.U M,.U N,.string O,.string P]] i λa' H=> ∃U y Q,a'=.slice U y Q/\if(decide (((y:Nat):Int)≥16))then R (.tuple #[.I 0,.I 15]) H else Hi H t 1 λt30=> ∃t34,Cc H t 1 (.I t34)/\aS H (AA t 1) (.I (wrap .i64 (t34+1))) λj=> ∃t41,Cc j t 0 (.map t41)/\ay.LD j (AA b 0) λT q r u w=>Cl 50 #[.slice m D l] j λb' o=>Vl b' λY X W=>dI (AA b 0) [.bool T,.U q,.U r,.string u,.string w] 0 o/\Cc o t 0 (.map t41)/\aQ o (.cells #[.I t30,.bool T,.U q,.U r,.string u,.string w,.slice Y X W,.U V,.I 0,.U 0] 114) λB p=>dI (AA b 0) [.bool T,.U q,.U r,.string u,.string w] 0 p/\Cc p t 0 (.map t41)/\aW Tryz.prog (Instr.mapUpdate 107 (.map t41) (.I t30) (.P B 0)) p λ_ x=>Hp x t 5 λt53=>Cl 51 #[.pointer t53,.I t30,.U V] x λc' A=> ∃t56,c'=.I t56/\R (.tuple #[.I t30,.I 0]) A):Cl 15 #[.P t 0,.agg #[.bool e,.U E,.U c,.string d,.string f],.slice m D l,.U V] h R:=aO (lq (sq (bq (lq (cq ll (lq (cq ll (lq (cq ll lf))))))) (lq (lq (sq (.iC (.op 0 (.op 1 (.op 2 (.op 3 (.op 4 (.op 5 (.op 6 (.op 7 (.op 9 (.op 8 (.op 10 (.op 11 (.op 12 .done)))))))))))))) (lq ll)))))) Tryz.func15 C
theorem vV.walk(H:if(decide (n≥1))then R (.bool (decide (n<=1099511627776))) h else R (.bool false) h):Cl 192 #[.I n] h R:=aO (lq ll) Tryz.func192 H
theorem sF.walk{i:Int}(hv:aQ h (.cells #[.bool e,.U E,.U c,.string d,.string f] 29) λb U=>aQ U (.cells #[.I 0,.bool false,.U 0,.U 0,.string fU,.string fU,.Z,.U 0,.I 0,.U 0] 114) λB Y=>Cl 47 #[.P t 0] Y λv z=> ∃t16,v=.bool t16/\if(!t16)then aN.ST z (AA B 0) 0 false 0 0 fU fU none 0 0 0 0 0 λA=>aN.LD A (AA B 0) λb' f' j' n' r' v' H' D' z' L' P' T'=>R (.tuple #[.agg #[.I b',.bool f',.U j',.U n',.string r',.string v',.slice H' D' z',.U L',.I P',.U T'],.I 6]) A else aG (λ(t19:Bool) (o:ai)=>if t19 then aN.ST o (AA B 0) 0 false 0 0 fU fU none 0 0 0 0 0 λC=>aN.LD C (AA B 0) λc' g' k' o' s' w' I' E' A' M' Q' U'=>R (.tuple #[.agg #[.I c',.bool g',.U k',.U o',.string s',.string w',.slice I' E' A',.U M',.I Q',.U U'],.I 1]) C else ay.LD o (AA b 0) λX' Y' Z' RL RM=>Cl 49 #[.P t 0,.agg #[.bool X',.U Y',.U Z',.string RL,.string RM]] o λRu Z=>Vl Ru λRN T UE=> ∃(I:Int->ai->Prop)(M:Int->ai->Nat),I 0 Z/\∀(t32:Int)(H:ai),I t32 H->if(decide (t32<(T:Int)))then Bd t32 T/\aL RN λa=>jk H (a.add (toNat t32*1)) λt35=> ∃t39,Cc H t 0 (.map t39)/\∃t41,hI Tryz.prog 107 (.map t39) (.I t35) false H (.pointer t41)/\aL t41 λL=> ∃t45,bg H (L.add 8)=some (.I t45)/\if(t45==0)then aL t41 λN=>aS H (N.add 8) (.I k) λa'=>aL t41 λO=>aS a' (O.add 9) (.U i) λp=>Hp p t 6 λt58=>Cl 51 #[.pointer t58,.I t35,.U i] p λRv q=>Vi Rv λt61=>aL t41 λP=>aN.LD q P λRO RP RQ RR RT RU OV OW OX RV RW RX=>aQ q (.cells #[.I 0,.bool false,.U 0,.U 0,.string fU,.string fU,.Z,.U 0,.I 0,.U 0] 114) λj W=>aN.ST W (AA j 0) RO RP RQ RR RT RU OV OW OX RV RW RX λr=>aL t41 λQ=>oP r (Q.add 6) λRY RZ R0=>Cl 50 #[.slice RY RZ R0] r λOo X=> ∃K G F,Oo=.slice K G F/\aS X (AA j 6) (.slice K G F) λu=>aN.LD u (AA j 0) λM1 M4 Ik R1 R2 R3 OY OZ O0 R4 R5 R6=>aN.ST u (AA B 0) M1 M4 Ik R1 R2 R3 OY OZ O0 R4 R5 R6 λw=>aN.LD w (AA B 0) λd' h' l' p' t' x' J' F' B' N' R' V'=>R (.tuple #[.agg #[.I d',.bool h',.U l',.U p',.string t',.string x',.slice J' F' B',.U N',.I R',.U V'],.I 0]) w else(I (wrap .i64 (t32+1)) H/\M (wrap .i64 (t32+1)) H<M t32 H)else aN.ST H (AA B 0) 0 false 0 0 fU fU none 0 0 0 0 0 λx=>aN.LD x (AA B 0) λe' i' m' q' u' y' K' G' C' O' S' W'=>R (.tuple #[.agg #[.I e',.bool i',.U m',.U q',.string u',.string y',.slice K' G' C',.U O',.I S',.U W'],.I 4]) x) (λJ=>Cl 192 #[.I k] z λLR y=> ∃t21,LR=.bool t21/\if(!t21)then J true y else J (decide (i>1099511627776)) y)):Cl 156 #[.P t 0,.agg #[.bool e,.U E,.U c,.string d,.string f],.I k,.U i] h R:=aO (lq (sq (bq (lq (cq ll (sq (.join [(19,.one (.bool))] lf) (cq ll lf))))) (sq (lq (bq (.loop [(32,.one (.int .i64))] (lq (sq (cq lf lf) (sq (bq (lq (lq (lq (cq (lq (lq (lq (lq ll)))) lf))))) lf)))))) ll))) Tryz.func156 hv
theorem uH.walk(i:Cl 47 #[.P t 0] h λv H=> ∃t10,v=.bool t10/\if(!t10)then R (.tuple #[.pointer none,.I 6]) H else∃t16,Cc H t 0 (.map t16)/\∃t18,hI Tryz.prog 107 (.map t16) (.I num) false H (.pointer t18)/\if t18.isNone then R (.tuple #[.pointer none,.I 4]) H else aG (λ(t20:Bool) (b:ai)=>if t20 then R (.tuple #[.pointer none,.I 14]) b else∃t47,Cc b t 0 (.map t47)/\∃t49,hI Tryz.prog 107 (.map t47) (.I num) false b (.pointer t49)/\R (.tuple #[.pointer t49,.I 0]) b) (λJ=> ∃t24,Cc H t 0 (.map t24)/\∃t26,hI Tryz.prog 107 (.map t24) (.I num) false H (.pointer t26)/\aL t26 λa=> ∃t29,bg H (a.add 8)=some (.I t29)/\if(t29==0)then J true H else∃t35,Cc H t 0 (.map t35)/\∃t37,hI Tryz.prog 107 (.map t35) (.I num) false H (.pointer t37)/\aL t37 λA=> ∃t40,bg H (A.add 8)=some (.I t40)/\J (t40 !=k) H)):Cl 165 #[.P t 0,.I num,.I k] h R:=aO (lq (sq (bq (lq (cq ll (lq (cq ll (sq (.join [(20,.one (.bool))] lf) (cq ll lf))))))) ll)) Tryz.func165 i
theorem uJ.walk(j:Hp h t 6 λt7=>Cl 115 #[.pointer t7,.I n] h λv H=>Vi v λt9=> ∃t13,Cc H t 0 (.map t13)/\∃t15,hI Tryz.prog 107 (.map t13) (.I n) false H (.pointer t15)/\∃t19,Cc H t 0 (.map t19)/\∃t21,hI Tryz.prog 107 (.map t19) (.I n) false H (.pointer t21)/\aL t15 λa=>aS H (a.add 8) (.I 0) λb=>aL t21 λA=>aS b (A.add 9) (.U 0) λi=>R (.tuple #[]) i):Cl 120 #[.P t 0,.I n] h R:=aO (lq (pN 18)) Tryz.func120 j
theorem rO.walk(i:Hp h t 6 λt7=>Cl 115 #[.pointer t7,.I n] h λv H=>Vi v λt9=>Hp H t 5 λt13=>Cl 115 #[.pointer t13,.I n] H λj a=>Vi j λt15=> ∃t19,Cc a t 0 (.map t19)/\aW Tryz.prog (Builtin.delete_ #[107,3] 0 #[.map t19,.I n]) a λo b=>o=.tuple #[]/\R (.tuple #[]) b):Cl 119 #[.P t 0,.I n] h R:=aO (lq ll) Tryz.func119 i
theorem vW.walk(j:Cl 165 #[.P t 0,.I num,.I k] h λv H=> ∃o T,v=.tuple #[.pointer o,.I T]/\aG (λ(b:ai)=>R (.I T) b) (λJ=>if(T==0)then Cl 119 #[.P t 0,.I num] H λp a=>p=.tuple #[]/\∃t24,Cc a t 2 (.I t24)/\aS a (AA t 2) (.I (wrap .i64 (t24+1))) λi=>J i else J H)):Cl 161 #[.P t 0,.I num,.I k] h R:=aO (lq (lq (sq (lq (.join [] (cq ll lf))) ll))) Tryz.func161 j
theorem qx.walk(i:Cl 165 #[.P t 0,.I num,.I k] h λv H=> ∃j T,v=.tuple #[.pointer j,.I T]/\aG (λ(a:ai)=>R (.I T) a) (λJ=>if(T==0)then Cl 120 #[.P t 0,.I num] H λo b=>o=.tuple #[]/\J b else J H)):Cl 107 #[.P t 0,.I num,.I k] h R:=aO (lq (lq (sq (lq (.join [] (cq lf lf))) ll))) Tryz.func107 i
theorem uL.walk{now:Int}(z:Cl 47 #[.P t 0] h λv j=> ∃t11,v=.bool t11/\if(!t11)then R (.Z) j else Hp j t 5 λt16=>Cl 118 #[.pointer t16,.U now] j λF x=>Vl F λu T B=> ∃(I:Int->ai->Prop)(M:Int->ai->Nat),I 0 x/\∀(t21:Int)(H:ai),I t21 H->if(decide (t21<(T:Int)))then Bd t21 T/\aL u λa=>jk H (a.add (toNat t21*1)) λt24=>Cl 119 #[.P t 0,.I t24] H λG o=>G=.tuple #[]/\∃t31,Cc o t 3 (.I t31)/\aS o (AA t 3) (.I (wrap .i64 (t31+1))) λp=>(I (wrap .i64 (t21+1)) p/\M (wrap .i64 (t21+1)) p<M t21 H)else Hp H t 6 λt39=>Cl 118 #[.pointer t39,.U now] H λJ y=>Vl J λC w L=> ∃(i:Int->ai->Prop)(r:Int->ai->Nat),i 0 y/\∀(t43:Int)(b:ai),i t43 b->if(decide (t43<(w:Int)))then Bd t43 w/\aL C λA=>jk b (A.add (toNat t43*1)) λt46=>Cl 120 #[.P t 0,.I t46] b λK q=>K=.tuple #[]/\(i (wrap .i64 (t43+1)) q/\r (wrap .i64 (t43+1)) q<r t43 b)else R (.slice u T B) b):Cl 53 #[.P t 0,.U now] h R:=aO (lq (sq (lq (cq ll lf)) (lq (sq (lq (bq (.loop [(21,.one (.int .i64))] (lq (sq (cq lf lf) (sq (bq (lq ll)) lf)))))) (sq (lq (bq (.loop [(43,.one (.int .i64))] (lq (sq (cq lf lf) (sq (bq ll) lf)))))) ll))))) Tryz.func53 z
theorem uM.walk(r:aQ h (.cells #[.bool e,.U E,.U c,.string d,.string f] 29) λb i=>ay.LD i (AA b 0) λw x y z A=>Cl 49 #[.P t 0,.agg #[.bool w,.U x,.U y,.string z,.string A]] i λv q=>Vl v λp T u=> ∃(I:Int->ai->Prop)(M:Int->ai->Nat),I 0 q/\∀(t13:Int)(H:ai),I t13 H->if(decide (t13<(T:Int)))then Bd t13 T/\aL p λa=>jk H (a.add (toNat t13*1)) λt16=>Cl 119 #[.P t 0,.I t16] H λB j=>B=.tuple #[]/\∃t23,Cc j t 4 (.I t23)/\aS j (AA t 4) (.I (wrap .i64 (t23+1))) λo=>(I (wrap .i64 (t13+1)) o/\M (wrap .i64 (t13+1)) o<M t13 H)else R (.slice p T u) H):Cl 99 #[.P t 0,.agg #[.bool e,.U E,.U c,.string d,.string f]] h R:=aO (lq (lq (sq (lq (bq (.loop [(13,.one (.int .i64))] (lq (sq (cq lf lf) (sq (bq (lq ll)) lf)))))) ll))) Tryz.func99 r
theorem vX.walk(K:Cl 68 #[.P t 0] h λv C=>Vl v λs' z v'=> ∃(I:cy->Nat->Nat->Int->ai->Prop)(M:cy->Nat->Nat->Int->ai->Nat),I none 0 0 0 C/\∀(i:cy)(O o:Nat)(t10:Int)(H:ai),I i O o t10 H->if(decide (t10<(z:Int)))then Bd t10 z/\aL s' λa=>jk H (a.add (toNat t10*1)) λt13=> ∃t17,Cc H t 0 (.map t17)/\∃t19,hI Tryz.prog 107 (.map t17) (.I t13) false H (.pointer t19)/\aL t19 λA=>aN.LD H A λL N P Q U W Z Y X a' b' c'=>aQ H (.cells #[.I 0,.bool false,.U 0,.U 0,.string fU,.string fU,.Z,.U 0,.I 0,.U 0] 114) λb F=>aN.ST F (AA b 0) L N P Q U W Z Y X a' b' c' λq=>Hl q b 6 λf' e' d'=>Cl 50 #[.slice f' e' d'] q λt' G=> ∃y x w,t'=.slice y x w/\aS G (AA b 6) (.slice y x w) λr=>aN.LD r (AA b 0) λg' h' i' j' k' l' o' n' m' p' q' r'=>aQ r (.cells #[.I g',.bool h',.U i',.U j',.string k',.string l',.slice o' n' m',.U p',.I q',.U r'] 114) λB J=>aW Tryz.prog (Builtin.append_ #[242,242] 242 #[.slice i O o,.slice (Sa B 0) 1 1]) J λu' u=> ∃p j T,u'=.slice p j T/\(I p j T (wrap .i64 (t10+1)) u/\M p j T (wrap .i64 (t10+1)) u<M i O o t10 H)else R (.slice i O o) H):Cl 160 #[.P t 0] h R:=aO (lq (lq (sq (lq (bq (.loop [(3,.one (.slice)),(10,.one (.int .i64))] (lq (sq (cq lf lf) (sq (bq (lq (lq ll))) lf)))))) ll))) Tryz.func160 K

end
section
open Go.jU
namespace fM
open iW bW
variable {h h':ai} {t:Nat} {X:Ft}
structure Cp where
 num:Nat
 e:Ev
 d:cD
 cf:Nat
 ses:Int
 dl:Nat
structure CV where
 num:Nat
 b:Nat
 e:Ev
 v:BV
 cf:Nat
 ses:Int
 dl:Nat
def CV.abs(x:CV):Cp:=⟨x.num,x.e,x.v.b,x.cf,x.ses,x.dl⟩
abbrev CV.at(h:ai)(b:Nat)(x:CV):Prop:=aN.at h b (x.num:Int) x.e.ky x.e.node x.e.gk x.e.host x.e.jB x.v.p x.v.b.length x.v.c (x.cf:Int) x.ses (x.dl:Int)
structure CF where
 L:List Cp
 next:Nat
 fQ:Nat
 over:Nat
 gone:Nat
 E1:List E
 E2:List E
abbrev ga(n:Int):Value:=.int .i64 n
theorem TA:Bb Tryz.prog 3 ga:=⟨λa b h=>dj,λe a h=>dj,by
 have H:Tryz.prog.underlying 3=some (.int .i64):=dj
 exact⟨_,H,λa b=> .inr rfl⟩,λa=>by simp[Instr.sameBits]⟩
theorem nK:nf Tryz.prog 107 ga (.pointer none):=nf.of 3 111 dj TA dj
abbrev CV.pair(x:CV):Int×Value:=((x.num:Int),.pointer (some ⟨x.b,0,none⟩))
structure Cm (h:ai) (t:Nat) (X:Ft) (s:CF) (m:Nat) (xs:List CV) (a1:Nat) (o:Nat->Prop) (a2:Nat) (p:Nat->Prop) (g:Nat->Option Nat):Prop where
 cT:h[t]? =some (.cells #[.map (some m),.int .i64 (s.next:Int),.int .i64 (s.fQ:Int),.int .i64 (s.over:Int),.int .i64 (s.gone:Int),.pointer (some ⟨a1,0,none⟩),.pointer (some ⟨a2,0,none⟩)] 110 (0,0))
 map:ja h m ga (xs.map CV.pair)
 E6: ∀x∈xs,x.at h x.b
 abs:xs.map CV.abs=s.L
 C8: ∀x∈xs,x.v.ok h X.D
 G0:Al h a1 o s.E1
 FB:Al h a2 p s.E2
 l0:g t=some 0
 l1:g m=some 1
 l2: ∀c,o c->g c=some 2
 l3: ∀c,p c->g c=some 3
 l4: ∀x∈xs,g x.b=some (4+x.num)
 mm: ∀c,X.M c↔g c≠none
 dd: ∀c,X.D c->g c=none/\c<h.size
 Dz: ∀c,g c≠none->c<h.size
 so:(xs.map CV.num).Pairwise (· < ·)
def Ct(h:ai)(t:Nat)(X:Ft)(s:CF):Prop:= ∃m xs a1 o a2 p g,Cm h t X s m xs a1 o a2 p g
variable {s s' : CF} {m a1 a2 : Nat} {xs : List CV} {o p r q : Nat → Prop} {g : Nat → Option Nat}
structure Kept (h':ai) (t:Nat) (X:Ft) (s:CF) (m:Nat) (xs:List CV) (a1:Nat) (o:Nat->Prop) (a2:Nat) (p:Nat->Prop) (k:Nat):Prop where
 cT:k≠0->h'[t]? =some (.cells #[.map (some m),.int .i64 (s.next:Int),.int .i64 (s.fQ:Int),.int .i64 (s.over:Int),.int .i64 (s.gone:Int),.pointer (some ⟨a1,0,none⟩),.pointer (some ⟨a2,0,none⟩)] 110 (0,0))
 map:k≠1->ja h' m ga (xs.map CV.pair)
 G0:k≠2->Al h' a1 o s.E1
 FB:k≠3->Al h' a2 p s.E2
 E6: ∀x∈xs,k≠4+x.num->x.at h' x.b
 C8: ∀x∈xs,x.v.ok h' X.D
theorem Cm.mU{Q:Nat->Prop}{k:Nat}(H:Cm h t X s m xs a1 o a2 p g)(f:Fr Q h h')(i: ∀c,Q c->c<h.size->g c=some k):Kept h' t X s m xs a1 o a2 p k:=by
 have no: ∀{c j:Nat},c<h.size->g c=some j->k≠j->¬Q c:=λa l hk d=>hk (by have:=i _ d a;rw[l]at this;exact(aX this).symm)
 refine⟨λhk=>f.get H.cT (no (aD H.cT) H.l0 hk),λhk=>H.map.frame f (no H.map.lt H.l1 hk),λhk=> ?_,λhk=> ?_,λx b hk=>f.get (H.E6 x b) (no (aD (H.E6 x b)) (H.l4 x b) hk),λx b=> ?_⟩
 .exact H.G0.frame f (λc a=>no (H.G0.lt a) (H.l2 c a) hk)
 .exact H.FB.frame f (λc a=>no (H.FB.lt a) (H.l3 c a) hk)
 .refine(H.C8 x b).frame f (λc a d=> ?_);have:=H.dd c a;have e:=i c d this.2;rw[this.1]at e;cases e
theorem Cm.frame{Q:Nat->Prop}(H:Cm h t X s m xs a1 o a2 p g)(f:Fr Q h h')(d: ∀y,X.M y\/X.D y->¬Q y):Cm h' t X s m xs a1 o a2 p g:=by
 have no: ∀{c j:Nat},g c=some j->¬Q c:=λe=>d _ (.inl ((H.mm _).2 (by rw[e];simp)))
 exact⟨f.get H.cT (no H.l0),H.map.frame f (no H.l1),λx b=>f.get (H.E6 x b) (no (H.l4 x b)),H.abs,λx b=>(H.C8 x b).frame f (λc a=>d c (.inr a)),
  H.G0.frame f (λc a=>no (H.l2 c a)),H.FB.frame f (λc a=>no (H.l3 c a)),H.l0,H.l1,H.l2,H.l3,H.l4,H.mm,λc a=>⟨(H.dd c a).1,cC (H.dd c a).2 f.1⟩,λc a=>cC (H.Dz c a) f.1,H.so⟩
theorem Cm.on(H:Cm h t X s m xs a1 o a2 p g)(f:Fr No h h'):Cm h' t X s m xs a1 o a2 p g:=H.frame f cb
theorem Ct.frame{Q:Nat->Prop}(H:Ct h t X s)(f:Fr Q h h')(a: ∀y,X.M y\/X.D y->¬Q y):Ct h' t X s:=by
 obtain⟨m,xs,a1,o,a2,p,g,H⟩:=H;exact⟨m,xs,a1,o,a2,p,g,H.frame f a⟩
theorem Ct.on(H:Ct h t X s)(f:Fr No h h'):Ct h' t X s:=H.frame f cb
theorem Ct.lt(H:Ct h t X s)(y:Nat)(hy:X.M y\/X.D y):y<h.size:=by
 obtain⟨m,xs,a1,o,a2,p,g,H⟩:=H;rcases hy with hy|hy
 .exact H.Dz y ((H.mm y).1 hy)
 .exact(H.dd y hy).2
theorem Cm.step{Q:Nat->Prop}{k:Nat}(H:Cm h t X s m xs a1 o a2 p g)(f:Fr Q h h')(d: ∀c,Q c->c<h.size->g c=some k):bm X h X h':=
 bm.tB (f.mono λc b a=>(H.mm c).2 (by rw[d c a b];simp))
theorem Cm.field(H:Cm h t X s m xs a1 o a2 p g)(k:s'.L=s.L)(i:s'.E1=s.E1)(j:s'.E2=s.E2)(l:h'[t]? =some (.cells #[.map (some m),.I (s'.next:Int),.I (s'.fQ:Int),.I (s'.over:Int),.I (s'.gone:Int),.P a1 0,.P a2 0] 110 (0,0)))(d:h'.size=h.size)(u: ∀x,x≠t->h'[x]? =h[x]?):Cm h' t X s' m xs a1 o a2 p g/\bm X h X h':=by
 have f:Fr (λc=>c=t) h h':=⟨ag,λc _ n=>u c n⟩;have b: ∀c,c=t->c<h.size->g c=some 0:=λc e _=>by rw[e];exact H.l0
 have K:=H.mU f b;refine⟨⟨l,K.map ag,λx v=>K.E6 x v ag,H.abs.trans k.symm,K.C8,by rw[i];exact K.G0 ag,by rw[j];exact K.FB ag,H.l0,H.l1,H.l2,H.l3,H.l4,H.mm,λc a=>by rw[d];exact H.dd c a,λc a=>by rw[d];exact H.Dz c a,H.so⟩,H.step f b⟩
def M6(g:Nat->Option Nat)(S:Nat->Prop)[DecidablePred S](k:Nat):Nat->Option Nat:=λc=>if S c then some k else g c
theorem Cm.G1{u:List E}(H:Cm h t X s m xs a1 o a2 p g)(A:Al h' a2 q u)(n: ∀c,q c->p c\/h.size<=c)(f:Fr p h h')(y:s'.L=s.L)(v:s'.E1=s.E1)(w:s'.E2=u)(i:s'.next=s.next/\s'.fQ=s.fQ/\s'.over=s.over/\s'.gone=s.gone):
  ∃k l,Cm h' t k s' m xs a1 o a2 q l/\bm X h k h'/\∀c,k.M c->X.M c\/q c:=by
 classical
 have C: ∀c,p c->c<h.size->g c=some 3:=λc a _=>H.l3 c a
 have K:=H.mU f C;have z:=f.1
 let l:=M6 g q 3
 have iZ: ∀{c j:Nat},g c=some j->j≠3->l c=some j:=fun {c j} d B=>by
  show(if q c then some 3 else g c)=some j;rw[ae]
  .exact d
  .intro a;rcases n c a with h3|h3
   .rw[H.l3 c h3]at d;exact B (aX d).symm
   .have:=H.Dz c (by rw[d];simp);omega
 have L: ∀c,l c≠none->g c≠none\/q c:=λc a=>by
  by_cases b:q c
  .exact .inr b
  .refine .inl ?_;have e:l c=g c:=ae b;rwa[e]at a
 have N: ∀c,g c≠none->l c≠none:=λc a=>by
  by_cases b:q c
  .have e:l c=some 3:=af b;rw[e];simp
  .have e:l c=g c:=ae b;rwa[e]
 have st:bm X h ⟨λc=>l c≠none,X.D⟩ h':=by
  refine⟨f.mono (λc a b=>(H.mm c).2 (by rw[H.l3 c b];simp)),λc a=> ?_,λc a=> .inl a,λc a=>a⟩;rcases L c a with h3|h3
  .exact .inl ((H.mm c).2 h3)
  .rcases n c h3 with h4|h4
   .exact .inl ((H.mm c).2 (by rw[H.l3 c h4];simp))
   .exact .inr h4
 refine⟨⟨λc=>l c≠none,X.D⟩,l,⟨?_,K.map ag,λx b=>K.E6 x b ag,H.abs.trans y.symm,K.C8,by rw[v];exact K.G0 ag,by rw[w];exact A,iZ H.l0 ag,iZ H.l1 ag,λc a=>iZ (H.l2 c a) ag,λc a=>af a,λx b=>iZ (H.l4 x b) ag,λc=>eE,λc a=> ?_,λc a=> ?_,H.so⟩,st,λc a=>(L c a).imp (λh=>(H.mm c).2 h) id⟩
 .rw[i.1,i.2.1,i.2.2.1,i.2.2.2];exact K.cT ag
 .have:=H.dd c a;refine⟨?_,ag⟩;show(if q c then some 3 else g c)=none;rw[ae]
  .exact this.1
  .intro b;rcases n c b with h3|h3
   .rw[H.l3 c h3]at this;cases this.1
   .omega
 .rcases L c a with h3|h3
  .have:=H.Dz c h3;omega
  .exact A.lt h3
theorem Cm.G2{u:List E}(H:Cm h t X s m xs a1 o a2 p g)(A:Al h' a1 r u)(n: ∀c,r c->o c\/h.size<=c)(f:Fr o h h')(y:s'.L=s.L)(v:s'.E1=u)(w:s'.E2=s.E2)(i:s'.next=s.next/\s'.fQ=s.fQ/\s'.over=s.over/\s'.gone=s.gone):
  ∃k l,Cm h' t k s' m xs a1 r a2 p l/\bm X h k h'/\∀c,k.M c->X.M c\/r c:=by
 classical
 have C: ∀c,o c->c<h.size->g c=some 2:=λc a _=>H.l2 c a
 have K:=H.mU f C;have z:=f.1
 let l:=M6 g r 2
 have iZ: ∀{c j:Nat},g c=some j->j≠2->l c=some j:=fun {c j} d B=>by
  show(if r c then some 2 else g c)=some j;rw[ae]
  .exact d
  .intro a;rcases n c a with h3|h3
   .rw[H.l2 c h3]at d;exact B (aX d).symm
   .have:=H.Dz c (by rw[d];simp);omega
 have L: ∀c,l c≠none->g c≠none\/r c:=λc a=>by
  by_cases b:r c
  .exact .inr b
  .refine .inl ?_;have e:l c=g c:=ae b;rwa[e]at a
 have st:bm X h ⟨λc=>l c≠none,X.D⟩ h':=by
  refine⟨f.mono (λc a b=>(H.mm c).2 (by rw[H.l2 c b];simp)),λc a=> ?_,λc a=> .inl a,λc a=>a⟩;rcases L c a with h3|h3
  .exact .inl ((H.mm c).2 h3)
  .rcases n c h3 with h4|h4
   .exact .inl ((H.mm c).2 (by rw[H.l2 c h4];simp))
   .exact .inr h4
 refine⟨⟨λc=>l c≠none,X.D⟩,l,⟨?_,K.map ag,λx b=>K.E6 x b ag,H.abs.trans y.symm,K.C8,by rw[v];exact A,by rw[w];exact K.FB ag,iZ H.l0 ag,iZ H.l1 ag,λc a=>af a,λc a=>iZ (H.l3 c a) ag,λx b=>iZ (H.l4 x b) ag,λc=>eE,λc a=> ?_,λc a=> ?_,H.so⟩,st,λc a=>(L c a).imp (λh=>(H.mm c).2 h) id⟩
 .rw[i.1,i.2.1,i.2.2.1,i.2.2.2];exact K.cT ag
 .have:=H.dd c a;refine⟨?_,ag⟩;show(if r c then some 2 else g c)=none;rw[ae]
  .exact this.1
  .intro b;rcases n c b with h3|h3
   .rw[H.l2 c h3]at this;cases this.1
   .omega
 .rcases L c a with h3|h3
  .have:=H.Dz c h3;omega
  .exact A.lt h3
theorem Cm.del{n:Int}(H:Cm h t X s m xs a1 o a2 p g)(M:ja h' m ga (vj (xs.map CV.pair) n))(j:h'.size=h.size)(v: ∀c,c≠m->h'[c]? =h[c]?)(u:s'.L=s.L.filter (λx=> !decide ((x.num:Int)=n)))(k:s'.E1=s.E1)(l:s'.E2=s.E2)(b:s'.next=s.next/\s'.fQ=s.fQ/\s'.over=s.over/\s'.gone=s.gone):
  Cm h' t X s' m (xs.filter (λx=> !decide ((x.num:Int)=n))) a1 o a2 p g/\bm X h X h':=by
 have f:Fr (λc=>c=m) h h':=⟨ag,λc _ b=>v c b⟩;have i: ∀c,c=m->c<h.size->g c=some 1:=λc e _=>by rw[e];exact H.l1
 have K:=H.mU f i;have sub: ∀x∈xs.filter (λx=> !decide ((x.num:Int)=n)),x∈xs:=λx a=>(ba.1 a).1
 refine⟨⟨?_,?_,λx a=>K.E6 x (sub x a) ag,?_,λx a=>K.C8 x (sub x a),by rw[k];exact K.G0 ag,by rw[l];exact K.FB ag,H.l0,H.l1,H.l2,H.l3,λx a=>H.l4 x (sub x a),H.mm,λc d=>by rw[j];exact H.dd c d,λc d=>by rw[j];exact H.Dz c d,H.so.sublist (cJ.map _)⟩,H.step f i⟩
 .rw[b.1,b.2.1,b.2.2.1,b.2.2.2];exact K.cT ag
 .unfold vj at M;rw[du]at M;exact M
 .rw[u,<-H.abs,du];rfl
theorem Cm.change{x y:CV}(H:Cm h t X s m xs a1 o a2 p g)(d:x∈xs)(k:y.b=x.b)(A:y.num=x.num)(N:y.v=x.v)(O:y.at h' x.b)(C:h'.size=h.size)(J: ∀c,c≠x.b->h'[c]? =h[c]?)(F:s'.L=s.L.map (λz=>if z.num=x.num then y.abs else z))(D:s'.E1=s.E1)(E:s'.E2=s.E2)(b:s'.next=s.next/\s'.fQ=s.fQ/\s'.over=s.over/\s'.gone=s.gone):
  Cm h' t X s' m (xs.map (λz=>if z.num=x.num then y else z)) a1 o a2 p g/\bm X h X h':=by
 have f:Fr (λc=>c=x.b) h h':=⟨ag,λc _ b=>J c b⟩;have B: ∀c,c=x.b->c<h.size->g c=some (4+x.num):=λc e _=>by rw[e];exact H.l4 x d
 have K:=H.mU f B;have M: ∀z∈xs.map (λz=>if z.num=x.num then y else z),(z=y)\/(z∈xs/\z.num≠x.num):=λz a=>by
  obtain⟨u,L,rfl⟩:=bh.1 a;by_cases e:u.num=x.num
  .rw[af e];exact .inl rfl
  .rw[ae e];exact .inr ⟨L,e⟩
 have P:(xs.map (λz=>if z.num=x.num then y else z)).map CV.pair=xs.map CV.pair:=by
  rw[dE];refine eh λz a=> ?_
  show CV.pair (if z.num=x.num then y else z)=z.pair;by_cases e:z.num=x.num
  .rw[af e];have:z=x:=by
    obtain⟨i,v⟩:=bE a;obtain⟨j,w⟩:=bE d;have I:(xs.map CV.num).Nodup:=H.so.imp (λh=>Nat.ne_of_lt h);have G:=(aB.1 v).1;have:=(eg (l:=xs.map CV.num) (i:=i) (j:=j) (cA G) I).1 (by rw[aK,aK,v,w];simp[e]);subst this;rw[v]at w;exact aX w
   subst this;unfold CV.pair;rw[A,k]
  .rw[ae e]
 refine⟨⟨?_,?_,λz a=> ?_,?_,λz a=> ?_,by rw[D];exact K.G0 ag,by rw[E];exact K.FB ag,H.l0,H.l1,H.l2,H.l3,λz a=> ?_,H.mm,λc n=>by rw[C];exact H.dd c n,λc n=>by rw[C];exact H.Dz c n,?_⟩,H.step f B⟩
 .rw[b.1,b.2.1,b.2.2.1,b.2.2.2];exact K.cT ag
 .rw[P];exact K.map ag
 .rcases M z a with rfl|⟨a,e⟩
  .rw[k];exact O
  .exact K.E6 z a ag
 .rw[F,<-H.abs,dE,dE];refine eh λz _=> ?_
  show CV.abs (if z.num=x.num then y else z)=if z.num=x.num then y.abs else z.abs
  split<;>rfl
 .rcases M z a with rfl|⟨a,_⟩
  .rw[N];exact K.C8 x d
  .exact K.C8 z a
 .rcases M z a with rfl|⟨a,_⟩
  .rw[k,A];exact H.l4 x d
  .exact H.l4 z a
 .have:(xs.map (λz=>if z.num=x.num then y else z)).map CV.num=xs.map CV.num:=by
   rw[dE];refine eh λz _=> ?_
   show CV.num (if z.num=x.num then y else z)=z.num;split
   .rename_i e;rw[A,e]
   .rfl
  rw[this];exact H.so
theorem Cm.add{y:CV}{f i:ai}(H:Cm h t X s m xs a1 o a2 p g)(f1:Fr No h f)(A:y.at f y.b)(U:h.size<=y.b)(G:Row f y.v.p (bc y.v.b))(F:y.v.b.length<=y.v.c)(n: ∀c,aR y.v.p c->h.size<=c/\c≠y.b/\c<f.size)(z: ∀x∈xs,x.num<y.num)(M:ja i m ga (DQ (xs.map CV.pair) (y.num:Int) (.P y.b 0)))(T:i.size=f.size)(O: ∀c,c≠m->i[c]? =f[c]?)(D:s'.L=s.L++ [y.abs])(e1:s'.E1=s.E1)(e2:s'.E2=s.E2)(k:s'.next=s.next/\s'.fQ=s.fQ/\s'.over=s.over/\s'.gone=s.gone):
  ∃u l,Cm i t u s' m (xs++ [y]) a1 o a2 p l/\bm X h u i:=by
 classical
 have Z:=f1.1;have B:=H.on f1;have f2:Fr (λc=>c=m) f i:=⟨ag,λc _ k=>O c k⟩;have P: ∀c,c=m->c<f.size->g c=some 1:=λc e _=>by rw[e];exact H.l1
 have K:=B.mU f2 P;have V:=aD A
 let l:=M6 g (λc=>c=y.b) (4+y.num)
 have L: ∀c,c≠y.b->l c=g c:=λc d=>ae d
 have Q:l y.b=some (4+y.num):=af rfl;have R: ∀{c:Nat},g c≠none->c≠y.b:=fun {c} d e=>by have:=H.Dz c d;omega
 have iZ: ∀{c j:Nat},g c=some j->l c=some j:=fun {c j} w=>by rw[L c (R (by rw[w];simp))];exact w
 let D':=λc=>X.D c\/(y.v.b≠ []/\aR y.v.p c)
 have Y:y.b≠m:=λe=>by have:=H.map.lt;omega
 have C: ∀c,D' c->l c=none/\c<i.size:=λc d=>by
  rcases d with d|⟨_,d⟩
  .have:=H.dd c d;rw[L c ag];exact⟨this.1,ag⟩
  .have:=n c d;rw[L c this.2.1];refine⟨?_,ag⟩;cases e:g c with
   |none=>rfl
   |some j=>have:=H.Dz c (by rw[e];simp);omega
 refine⟨⟨λc=>l c≠none,D'⟩,l,⟨?_,?_,λx hx=> ?_,?_,λx hx=> ?_,by rw[e1];exact K.G0 ag,by rw[e2];exact K.FB ag,iZ H.l0,iZ H.l1,λc d=>iZ (H.l2 c d),λc d=>iZ (H.l3 c d),λx hx=> ?_,λc=>eE,C,λc d=> ?_,?_⟩,?_⟩
 .rw[k.1,k.2.1,k.2.2.1,k.2.2.2];exact K.cT ag
 .refine M.perm ?_;unfold DQ;rw[qL (λe I=>by obtain⟨x,hx,rfl⟩:=bh.1 I;have:=z x hx;show¬((x.num:Int)=(y.num:Int));omega),aZ];exact(List.perm_append_comm (l₁:= [CV.pair y]) (l₂:=xs.map CV.pair))
 .rcases bM.1 hx with hx|hx
  .exact K.E6 x hx ag
  .obtain rfl:=bN.1 hx;exact f2.get A Y
 .rw[D,<-H.abs,aZ];rfl
 .rcases bM.1 hx with hx|hx
  .exact(K.C8 x hx).mono (λc d=> .inl d)
  .obtain rfl:=bN.1 hx;refine⟨G.frame f2 (λa e J=> ?_),λN c d=> .inr ⟨N,d⟩,F⟩;have f:=(n a.block ⟨a,e,rfl⟩).1;have i:=H.map.lt;have S:a.block=m:=J;omega
 .rcases bM.1 hx with hx|hx
  .exact iZ (H.l4 x hx)
  .obtain rfl:=bN.1 hx;exact Q
 .by_cases e:c=y.b
  .subst e;omega
  .rw[L c e]at d;have:=H.Dz c d;omega
 .rw[aZ,List.pairwise_append];refine⟨H.so,bP,λa E b v=> ?_⟩;obtain⟨x,hx,rfl⟩:=bh.1 E;simp at v;subst v;exact z x hx
 .refine⟨?_,λc d=> ?_,λc d=> ?_,λc d=> .inl d⟩
  .have f12:Fr (λc=>c=m) h i:=Fr.no f1 f2;exact f12.mono (λc _ e=>(H.mm c).2 (by rw[e,H.l1];simp))
  .by_cases e:c=y.b
   .exact .inr ag
   .have d:l c≠none:=d;rw[L c e]at d;exact .inl ((H.mm c).2 d)
  .rcases d with d|⟨_,d⟩
   .exact .inl d
   .exact .inr (n c d).1
end fM
end
end Go.Proofs.YtlenamcfacpheaaGreatDoor
namespace Go.Proofs
open Go.Den
open IntKind (wrap)
open Int (toNat)
section
open Go.Shelf
def Tryz.Kg:Go.Shelf.Ren:=⟨fun|5=>134|8=>183|7=>185|19=>222|20=>223|10=>224|11=>225|12=>226|13=>227|14=>228|15=>229|16=>230|17=>231|18=>232|30=>272|31=>268|32=>269|33=>273|34=>274|35=>275|40=>306|n=>n,fun|23=>105|25=>3|3=>3|32=>211|22=>105|0=>0|44=>315|46=>27|4=>4|36=>309|35=>308|41=>253|5=>5|9=>9|53=>366|57=>369|63=>400|64=>401|n=>n,fun|n=>n⟩
theorem Tryz.PV : Go.Proofs.SlLaysM.n5 Tryz.prog Tryz.Kg := {
  mixed := by kernel_rfl
  f5 := ⟨Tryz.f134.name, by decide, Tryz.func134.trans (congrArg some (by kernel_rfl))⟩
  f7 := ⟨Tryz.f185.name, by decide, Tryz.func185.trans (congrArg some (by kernel_rfl))⟩
  f8 := Tryz.func183.trans (congrArg some (by kernel_rfl))
  f10 := ⟨Tryz.f224.name, by decide, Tryz.func224.trans (congrArg some (by kernel_rfl))⟩
  f11 := ⟨Tryz.f225.name, by decide, Tryz.func225.trans (congrArg some (by kernel_rfl))⟩
  f12 := ⟨Tryz.f226.name, by decide, Tryz.func226.trans (congrArg some (by kernel_rfl))⟩
  f13 := ⟨Tryz.f227.name, by decide, Tryz.func227.trans (congrArg some (by kernel_rfl))⟩
  f14 := ⟨Tryz.f228.name, by decide, Tryz.func228.trans (congrArg some (by kernel_rfl))⟩
  f15 := ⟨Tryz.f229.name, by decide, Tryz.func229.trans (congrArg some (by kernel_rfl))⟩
  f16 := ⟨Tryz.f230.name, by decide, Tryz.func230.trans (congrArg some (by kernel_rfl))⟩
  f17 := ⟨Tryz.f231.name, by decide, Tryz.func231.trans (congrArg some (by kernel_rfl))⟩
  f18 := ⟨Tryz.f232.name, by decide, Tryz.func232.trans (congrArg some (by kernel_rfl))⟩
  f19 := Tryz.func222.trans (congrArg some (by kernel_rfl))
  f20 := Tryz.func223.trans (congrArg some (by kernel_rfl))
  f30 := ⟨Tryz.f272.name, by decide, Tryz.func272.trans (congrArg some (by kernel_rfl))⟩
  f31 := Tryz.func268.trans (congrArg some (by kernel_rfl))
  f32 := Tryz.func269.trans (congrArg some (by kernel_rfl))
  f33 := ⟨Tryz.f273.name, by decide, Tryz.func273.trans (congrArg some (by kernel_rfl))⟩
  f34 := ⟨Tryz.f274.name, by decide, Tryz.func274.trans (congrArg some (by kernel_rfl))⟩
  f35 := ⟨Tryz.f275.name, by decide, Tryz.func275.trans (congrArg some (by kernel_rfl))⟩
  f40 := ⟨Tryz.f306.name, by decide, Tryz.func306.trans (congrArg some (by kernel_rfl))⟩
  t0 := Tryz.underlying0
  a0 := Tryz.isAgg0
  z0 := Tryz.sizeOf0
  v0 := Tryz.zeroValue0
  t3 := Tryz.underlying3
  a3 := Tryz.isAgg3
  z3 := Tryz.sizeOf3
  v3 := Tryz.zeroValue3
  t4 := Tryz.underlying4
  a4 := Tryz.isAgg4
  z4 := Tryz.sizeOf4
  v4 := Tryz.zeroValue4
  t5 := Tryz.underlying5
  a5 := Tryz.isAgg5
  z5 := Tryz.sizeOf5
  v5 := Tryz.zeroValue5
  t9 := Tryz.underlying9
  a9 := Tryz.isAgg9
  z9 := Tryz.sizeOf9
  v9 := Tryz.zeroValue9
  t22 := Tryz.underlying105
  a22 := Tryz.isAgg105
  z22 := Tryz.sizeOf105
  v22 := Tryz.zeroValue105
  t23 := Tryz.underlying105
  a23 := Tryz.isAgg105
  z23 := Tryz.sizeOf105
  v23 := Tryz.zeroValue105
  t25 := Tryz.underlying3
  a25 := Tryz.isAgg3
  z25 := Tryz.sizeOf3
  v25 := Tryz.zeroValue3
  t32 := Tryz.underlying211
  a32 := Tryz.isAgg211
  z32 := Tryz.sizeOf211
  v32 := Tryz.zeroValue211
  t35 := Tryz.underlying308
  a35 := Tryz.isAgg308
  z35 := Tryz.sizeOf308
  v35 := Tryz.zeroValue308
  t36 := Tryz.underlying309
  a36 := Tryz.isAgg309
  z36 := Tryz.sizeOf309
  v36 := Tryz.zeroValue309
  t41 := Tryz.underlying253
  a41 := Tryz.isAgg253
  z41 := Tryz.sizeOf253
  v41 := Tryz.zeroValue253
  t44 := Tryz.underlying315
  a44 := Tryz.isAgg315
  z44 := Tryz.sizeOf315
  v44 := Tryz.zeroValue315
  t46 := Tryz.underlying27
  a46 := Tryz.isAgg27
  z46 := Tryz.sizeOf27
  v46 := Tryz.zeroValue27
  t53 := Tryz.underlying366
  a53 := Tryz.isAgg366
  z53 := Tryz.sizeOf366
  v53 := Tryz.zeroValue366
  t57 := Tryz.underlying369
  a57 := Tryz.isAgg369
  z57 := Tryz.sizeOf369
  v57 := Tryz.zeroValue369
  t63 := Tryz.underlying400
  a63 := Tryz.isAgg400
  z63 := Tryz.sizeOf400
  v63 := Tryz.zeroValue400
  t64 := Tryz.underlying401
  a64 := Tryz.isAgg401
  z64 := Tryz.sizeOf401
  v64 := Tryz.zeroValue401 }

end
end Go.Proofs
namespace Go.Proofs.YtlenamcfacpheaaGreatDoor
open Go.Den
open IntKind (wrap)
open Int (toNat)
section
open Go.Sort
namespace UF
variable {h:ai} {R:fp} {p:cy} {n c:Nat} {xs:List Int}
abbrev iv(x:Int):Value:=.int .i64 x
theorem O1(o:fJ h p n c 1 (xs.map iv))(D:n=xs.length)(nd:xs.Nodup)(A:n<=60000)(hk: ∀h' (zs:List Int),fJ h' p n c 1 (zs.map iv)->zs.Perm xs->zs.Pairwise (· < ·)->Fr (aR p) h h'->R (.tuple #[]) h'):
  Cl 134 #[.slice p n c] h R:=by
 subst D;intro w m;cases o with
 |nil l B g z=>
  obtain rfl:=List.eq_nil_of_length_eq_zero B;refine(AnyM.slices_Sort_int_none Tryz.PV p c w).mono ?_;rintro e w' ⟨rfl,rfl⟩;exact⟨_,rfl,hk _ [] (by rw[m];exact .nil l rfl g rfl) (.refl _) .nil (by rw[m];exact Fr.refl _ _),fw.refl _⟩
 |row b off C t l d f g s z=>
  subst l;subst m;have u: ∀(zs:List Int)(j:Nat),j<zs.length->zs.toArray[j]! =zs.getD j 0:=λzs j H=>by
   simp[getElem!_pos,H]
  refine(AnyM.slices_Sort_int Tryz.PV b off c xs w (λj H=> ?_) (aD d) ag).mono ?_
  .have H:j<xs.length:=by simpa using H
   refine⟨?_,by rw[uX];exact mD d⟩;rw[ks,kj d,u xs j H];exact z j _ (by rw[aK,aj H,aY,aj H];rfl)
  .rintro e w' ⟨rfl,k,O,rfl⟩;have pm:=List.mergeSort_perm xs λx y=>decide (x<=y)
   have so:(xs.mergeSort λx y=>decide (x<=y)).Pairwise (· < ·):=by
    have s1:=List.pairwise_mergeSort (le:=λ(x y:Int)=>decide (x<=y)) (λa b c f s=>by simp at f s⊢;omega) (λa b=>by simp;omega) xs;have s2:(xs.mergeSort λx y=>decide (x<=y)).Nodup:=pm.nodup_iff.2 nd;exact(s1.and s2).imp fun {a b} h=>by have:=aU h.1;have:=h.2;omega
   generalize (xs.mergeSort λx y=>decide (x<=y))=zs at pm so⊢;have J:zs.length=xs.length:=pm.length_eq;have G: ∀x,x<w.heap.size->x≠b->(w.heap.modify b (onCells (putCells (Value.int .i64) off zs.toArray))++O)[x]? =w.heap[x]? :=λx r E=>by
    rw[dz (cA r),dO,ae (λe=>E e.symm)]
   have F:(w.heap.modify b (onCells (putCells (Value.int .i64) off zs.toArray))++O)[b]? =some (.cells (putCells (Value.int .i64) off zs.toArray C) t (0,0)):=by
    rw[dz (cA (aD d)),dO,af rfl,d];rfl
   refine⟨_,rfl,hk _ zs (.row b off _ t rfl F f (by unfold putCells;rw[Array.size_mapIdx];exact g) (by simp[J]) λj v H=> ?_) pm so ?_,⟨rfl,rfl,rfl⟩⟩
   .rw[aK]at H;have i:j<zs.length:=by
     rcases Nat.lt_or_ge j zs.length with q|q
     .exact q
     .rw[cK q]at H;cases H
    rw[aj i]at H;obtain rfl:=aX H;unfold putCells;have I:off+j<C.size:=ag
    rw[Array.getElem?_mapIdx,Array.getElem?_eq_getElem I,cZ,af ⟨ag,by simp;omega⟩,show off+j - off=j by omega,u zs j i,aY,aj i];rfl
   .refine⟨by show _<=(w.heap.modify b _++O).size;simp,λx r A=>G x r (λe=>A ⟨_,rfl,e.symm⟩)⟩

end UF
end
section
open Go.jU
namespace fM
open iW bW
variable {h h':ai} {R:fp} {t:Nat} {X:Ft} {s:CF} {m a1 a2:Nat} {xs:List CV} {S d:Nat→Prop} {L:Nat→Option Nat} {p:cy} {n c:Nat}
theorem VA:Tryz.prog.underlying 105=some (.slice 3):=dj
theorem fI(H:Cm h t X s m xs a1 S a2 d L)(hk:R (.bool true) h):Cl 47 #[.P t 0] h R:=uF.walk ⟨_,ar H.cT,hk⟩
def ka(xs:List CV):List Int:=xs.map (λx=>(x.num:Int))
theorem xZ(H:Cm h t X s m xs a1 S a2 d L):(ka xs).Pairwise (· < ·):=by
 have:=H.so;rw[eL]at this;unfold ka;rw[eL];exact this.imp (λh=>ag)
theorem zS(H:Cm h t X s m xs a1 S a2 d L)(hl:xs.length<=60000)(hk: ∀h' P c',fJ h' P xs.length c' 1 ((ka xs).map ga)->(∀y,aR P y->h.size<=y)->Fr No h h'->R (.slice P xs.length c') h'):
  Cl 68 #[.P t 0] h R:=by
 refine qu.walk (fI H ⟨_,rfl,aG.of λa' E=> ?_⟩);rw[af rfl];refine⟨_,cH H.cT rfl,FR nK H.map λit C e1 I f1=>⟨_,rfl,?_⟩⟩;refine⟨λop o O g=> ∃ds:List (Int×Value),o=ds.length/\fJ g op o O 1 ((ds.map (·.1)).map ga)/\(∀y,aR op y->h.size<=y/\y≠it)/\Iter g it m ga (xs.map CV.pair) ds/\Fr No h g,λ_ o _ _=>xs.length - o,
  ⟨[],rfl,.nil rfl rfl rfl rfl,(λy ⟨a,e,_⟩=>by cases e),I,f1⟩,?_⟩
 rintro op o O g ⟨ds,rfl,z,i,j,l⟩;have J:=j.le;rw[aF]at J;refine Je j (λq=> .inl ⟨rfl,?_⟩) (λa v G hm d' I s1 o1=> .inr ⟨_,_,rfl,?_⟩)
 .subst E;dsimp only;have r:(ds.map (·.1)).Perm (ka xs):=by
   have:=q.map (·.1);rw[dE]at this;exact this
  have so:=xZ H;have nd:(ds.map (·.1)).Nodup:=r.nodup_iff.2 (so.imp (λh=>ag));have K:ds.length=xs.length:=by rw[q.length_eq,aF]
  refine UF.O1 z (by rw[aF]) nd ag λD zs w W Z f3=>⟨rfl,?_⟩
  have:zs=ka xs:=List.Perm.eq_of_pairwise (le:=(· < ·)) (λa b _ _ C h2=>ag) Z so (W.trans r);subst this;rw[K]at w⊢;exact hk D op O w (λy f=>(i y f).1) (l.fresh f3 (λy f=>(i y f).1))
 .refine FU I ⟨_,_,rfl,_,rfl,cF ?_⟩;have f3:Fr No G (G.push (.cells #[.I a] 3)):=Fr.push _ _;have A:Row (G.push (.cells #[.I a] 3)) (Sa G.size 0) [ga a]:=jl (cs:= [ga a]);have z3:(G.push (.cells #[.I a] 3)).size=G.size+1:=dJ _;generalize G.push (.cells #[.I a] 3)=g3 at f3 A z3⊢;have k:Fr (λy=>y=it) g G:=⟨ag,λy _ M=>o1 y M⟩;have V:=(z.frame k (λy f e=>(i y f).2 e)).frame f3 (λ_ _=>id);have zf:=f1.1;have F:Fr No h G:=l.fresh k (λy e=>ag);have B:=F.tt f3;have e':it<G.size:=by
   obtain⟨_,_,_,_,_,_,Q,_⟩:=I;exact aD Q
  refine dT (cs:=(ds.map (·.1)).map ga) (ds:= [ga a]) tI VA V A rfl (λv u=>by simp at u;subst u;rfl) ag ag λY c4 g4 U _ f4 T=>⟨_,_,_,rfl,?_⟩
  have N: ∀y,aR Y y->h.size<=y/\y≠it:=by
   intro y f;rcases T y f with h5|h5
   .exact i y h5
   .have:=F.1;exact⟨ag,ag⟩
  refine⟨⟨ds++ [(a,v)],bP,?_,N,?_,B.fresh f4 (λy f=>(i y f).1)⟩,?_⟩
  .rw[aZ,aZ];exact U
  .have b':m<h.size:=H.map.lt;exact(I.frame f3 id id).frame f4 (λf=>(i it f).2 rfl) (λf=>by have:=(i m f).1;omega)
  .have:=I.le;rw[aA,aF,dp]at this;show xs.length - (ds.length+1)<xs.length - ds.length;omega
theorem look(H:Cm h t X s m xs a1 S a2 d L){x:CV}(a:x∈xs):hI Tryz.prog 107 (.map (some m)) (.I (x.num:Int)) false h (.P x.b 0):=by
 have:=HM nK H.map (x.num:Int);have e:qY (xs.map CV.pair) (x.num:Int)=some (.P x.b 0):=(Bg H.map.nodup).2 (bh.2 ⟨x,a,rfl⟩);rw[e]at this;exact this
theorem O3(H:Cm h t X s m xs a1 S a2 d L){n:Int}(b: ∀x∈xs,(x.num:Int)≠n):hI Tryz.prog 107 (.map (some m)) (.I n) false h (.pointer none):=by
 have:=HM nK H.map n;have e:qY (xs.map CV.pair) n=none:=Bf.2 (λe a=>by obtain⟨x,f,rfl⟩:=bh.1 a;exact b x f);rw[e]at this;exact this
structure Env (h:ai) (t:Nat) (m:Nat) (xs:List CV) (c0 c1:Nat) (x:Ev):Prop where
 b0:h[c0]? =some (.cells #[.pointer (some ⟨t,0,none⟩)] 36 (0,0))
 b1:Ev.at h c1 x
 cm: ∃X s a1 S a2 d L,Cm h t X s m xs a1 S a2 d L
variable {c0 c1 : Nat} {x : Ev}
theorem M7(V:Env h t m xs c0 c1 x){y:CV}(a:y∈xs)(hk:R (.bool (!decide (y.e=x))) h):Cl 113 #[.I (y.num:Int),.P c0 0,.P c1 0] h R:=by
 obtain⟨X,s,a1,S,a2,d,L,H⟩:=V.cm;have C:=H.E6 y a;refine uG.walk ⟨_,ar V.b0,aw.2 ⟨_,ar H.cT,_,look H a,aw.2 ⟨_,ar C,_,ar C,_,ar C,_,ar C,_,ar C,?_⟩⟩⟩;exact ay.ld V.b1 ⟨_,xd (x:=y.e) (y:=x) rfl rfl,hk⟩
def j1(xs:List CV)(x:Ev)(n:Int):Bool:=xs.any (λy=>decide ((y.num:Int)=n) && decide (y.e=x))
theorem vY(so:(ka xs).Pairwise (· < ·)){y:CV}(b:y∈xs):j1 xs x (y.num:Int)=decide (y.e=x):=by
 unfold j1;by_cases e:y.e=x
 .rw[av e,List.any_eq_true];exact⟨y,b,by simp[e]⟩
 .rw[az e,List.any_eq_false];intro z o;simp only[aT,aV,not_and];intro g;have:z=y:=by
   obtain⟨i,H⟩:=bE o;obtain⟨j,a⟩:=bE b;have k:(ka xs).Nodup:=so.imp (λh=>ag);have f:=(aB.1 H).1;have:=(eg (l:=ka xs) (i:=i) (j:=j) (by simpa[ka]using f) k).1 (by unfold ka;rw[aK,aK,H,a];simp[g]);subst this;rw[H]at a;exact aX a
  rw[this];exact e
theorem QC{ns:List Int}(V:Env h t m xs c0 c1 x)(o:fJ h p n c 1 (ns.map ga))(r:n=ns.length)(D:n<=60000)(w: ∀k∈ns,∃y∈xs,k=(y.num:Int))(K: ∀i,i<n->(∀j,j<i->∀k,ns[j]? =some k->j1 xs x k=true)->(∀k,ns[i]? =some k->j1 xs x k=false)->R (.I (i:Int)) h)(z:(∀k∈ns,j1 xs x k=true)->R (.I (-1)) h):
  Cl 168 #[.slice p n c,.func (.func 113) #[] #[.P c0 0,.P c1 0]] h R:=by
 subst r;have so:(ka xs).Pairwise (· < ·):=by obtain⟨X,s,a1,S,a2,d,L,H⟩:=V.cm;exact xZ H
 refine hC.of.walk ?_;refine⟨λu g=>g=h/\∃i:Nat,u=(i:Int)/\i<=ns.length/\∀j,j<i->∀k,ns[j]? =some k->j1 xs x k=true,λu _=>ns.length - u.toNat,⟨rfl,0,rfl,bG _,λj b=>ag⟩,?_⟩;rintro _ g ⟨rfl,i,rfl,F,f⟩;by_cases l:i<ns.length
 .rw[fK];have hk:ns[i]? =some ns[i]:=aj l;generalize ns[i]=k at hk;obtain⟨y,q,rfl⟩:=w k (bn hk);obtain⟨A,B,rfl⟩:=o.addr ag;have C:=o.cell (j:=i) (v:=ga (y.num:Int)) (by rw[aK,hk];rfl);simp only[aI,ct];refine⟨ag,aw.2 ⟨_,C,M7 V q ⟨_,rfl,?_⟩⟩⟩;have kn:=vY (x:=x) so q;by_cases e:y.e=x
  .rw[av e,dc,bD ag ag];rw[av e]at kn;refine⟨⟨rfl,i+1,ag,ag,λj b k a=> ?_⟩,by show ns.length - Int.toNat ((i:Int)+1)<ns.length - i;omega⟩;by_cases E:j=i
   .subst E;rw[hk]at a;cases a;exact kn
   .exact f j ag k a
  .rw[az e,fK];rw[az e]at kn;exact K i l f (λk a=>by rw[hk]at a;cases a;exact kn)
 .rw[ae (by simp;omega)];exact z (λk hk=>by
   obtain⟨j,b⟩:=bE hk;exact f j (bY ((aB.1 b).1)) k b)
theorem GQ{ns:List Int}(V:Env h t m xs c0 c1 x)(o:fJ h p n c 1 (ns.map ga))(C:n=ns.length)(Q:n<=60000)(J: ∀k∈ns,∃y∈xs,k=(y.num:Int))(P: ∀g,Fr (aR p) h g->Env g t m xs c0 c1 x)(hk: ∀h' c',fJ h' p (ns.filter (j1 xs x)).length c' 1 ((ns.filter (j1 xs x)).map ga)->Fr (aR p) h h'->R (.slice p (ns.filter (j1 xs x)).length c') h'):
  Cl 112 #[.slice p n c,.func (.func 113) #[] #[.P c0 0,.P c1 0]] h R:=by
 subst C;have so:(ka xs).Pairwise (· < ·):=by obtain⟨X,s,a1,S,a2,d,L,H⟩:=V.cm;exact xZ H
 have one: ∀v∈((.I 0:Value)).cells.toList,fR v=true:=λv hv=>by
  have:v=.I 0:=by simpa[Value.cells]using hv
  subst this;rfl
 refine lJ.of.walk (QC V o rfl Q J (λi U l I=>⟨_,rfl,?_⟩) (λl=>⟨_,rfl,?_⟩))
 .rw[ae (by intro h;have h:=eq_of_beq h;omega),bD ag ag];have T:(ns.take i).filter (j1 xs x)=ns.take i:=by
   rw[cj];intro k Y;obtain⟨j,a⟩:=bE Y;rw[cP]at a;split at a
   .rename_i W;exact l j W k a
   .cases a
  have M:(ns.take (i+1)).filter (j1 xs x)=ns.take i:=by
   have hk:ns[i]? =some ns[i]:=aj U;rw[bQ,hk,fy,T];simp[I _ hk]
  refine⟨λu w g=> ∃(i j:Nat)(vs:List Int),u=(i:Int)/\w=(j:Int)/\i<=j/\j<=ns.length/\vs.length=ns.length/\fJ g p ns.length c 1 (vs.map ga)/\vs.take i=(ns.take j).filter (j1 xs x)/\(∀q,j<=q->vs[q]? =ns[q]?)/\Fr (aR p) h g,λ_ w _=>ns.length - w.toNat,
   ⟨i,i+1,ns,rfl,ag,ag,ag,rfl,o,M.symm,λ_ _=>rfl,Fr.refl _ _⟩,?_⟩
  clear T M l I;rintro _ _ g ⟨i,j,vs,rfl,rfl,d',a,F,O,b,A,f⟩;have B:((ns.take j).filter (j1 xs x)).length=i:=by rw[<-b,bB];omega
  by_cases a':j<ns.length
  .rw[fK];refine aG.of λb' D=> ?_
   have r:ns[j]? =some ns[j]:=aj a';generalize ns[j]=k at r;obtain⟨y,K,rfl⟩:=J k (bn r);obtain⟨ab,ao,rfl⟩:=O.addr ag;have Z:vs[j]? =some (y.num:Int):=by rw[A j (bk _)];exact r
   have N:=O.cell (j:=j) (v:=ga (y.num:Int)) (by rw[aK,Z];rfl);simp only[aI,ct];have kn:=vY (x:=x) so K;have tk:(ns.take (j+1)).filter (j1 xs x)=(ns.take j).filter (j1 xs x)++(if y.e=x then [(y.num:Int)]else []):=by
    rw[bQ,r,fy];congr 1
    show [(y.num:Int)].filter (j1 xs x)=_;rw[ch,kn];by_cases e:y.e=x<;>simp[e]
   refine⟨ag,aw.2 ⟨_,N,M7 (P g f) K ⟨_,rfl,aG.of λJ1 E=> ?_⟩⟩⟩;by_cases e:y.e=x
   .rw[av e,fK];rw[af e]at tk;refine⟨ag,aw.2 (O.store (by rw[aF];omega) λG o2 s2 q2=> ?_)⟩;subst E;subst D;have e2:(vs.map ga).set i (.I (y.num:Int))=(vs.set i (y.num:Int)).map ga:=by rw[List.map_set]
    rw[e2]at o2;dsimp only;rw[bD (n:=(i:Int)+1) ag ag,bD (n:=(j:Int)+1) ag ag];refine⟨⟨i+1,j+1,_,ag,ag,ag,ag,by rw[dy];exact F,o2,?_,λq hq=> ?_,f.tt ⟨ag,λz _ C=>q2 z C⟩⟩,by show ns.length - Int.toNat ((j:Int)+1)<ns.length - j;omega⟩
    .rw[tk,<-b,bQ,List.getElem?_set_self ag];congr 1
     apply eV
     intro q;rw[cP,cP];split
     .rw[List.getElem?_set_ne ag]
     .rfl
    .rw[List.getElem?_set_ne ag];exact A q ag
   .rw[az e,dc];rw[ae e,List.append_nil]at tk;subst E;subst D;dsimp only;rw[bD (n:=(j:Int)+1) ag ag];exact⟨⟨i,j+1,vs,rfl,ag,ag,ag,F,O,by rw[tk,b],λq hq=>A q ag,f⟩,by show ns.length - Int.toNat ((j:Int)+1)<ns.length - j;omega⟩
  .rw[ae (by simp;omega)];obtain rfl:j=ns.length:=ag
   rw[fb]at b B;simp only[aI,Nat.sub_zero];refine⟨ag,Ba tI one O ag λG o2 f2=>⟨rfl,⟨ag,bY O.le⟩,?_⟩⟩;rw[jN];rw[ct,<-List.map_take,b]at o2;have:=hk G c (by rw[B];exact o2) (f.tt f2);rw[B]at this;exact this
 .rw[af (by rfl)];have e:ns.filter (j1 xs x)=ns:=by rw[cj];exact l
  have:=hk h c (by rw[e];exact o) (Fr.refl _ _);rw[e]at this;exact this
theorem Kh(so:(ka xs).Pairwise (· < ·)):(ka xs).filter (j1 xs x)=ka (xs.filter (λy=>decide (y.e=x))):=by
 unfold ka;rw[du];congr 1
 exact dR (λy H=>vY so H)
theorem uy(H:Cm h t X s m xs a1 S a2 d L)(x:Ev)(l:xs.length<=60000) (hk: ∀h' P c',fJ h' P (xs.filter (λy=>decide (y.e=x))).length c' 1 ((ka (xs.filter (λy=>decide (y.e=x)))).map ga)->(∀y,aR P y->h.size<=y)->Fr No h h'->R (.slice P (xs.filter (λy=>decide (y.e=x))).length c') h'):
  Cl 49 #[.P t 0,kz x] h R:=by
 refine xz.walk (cF ?_);have f1:Fr No h (h.push (.cells #[.P t 0] 36)):=Fr.push _ _;have b1:(h.push (.cells #[.P t 0] 36))[h.size]? =some (.cells #[.P t 0] 36 (0,0)):=bV;have Z:(h.push (.cells #[.P t 0] 36)).size=h.size+1:=dJ _;generalize h.push (.cells #[.P t 0] 36)=r at f1 b1 Z⊢;refine ay.box λc1 u e2 j f2=>⟨_,ar (f2.get b1 id),?_⟩
 have B:=aD j;refine zS (H.on (f1.tt f2)) l λi q l3 O G f3=>⟨_,_,_,rfl,?_⟩
 have F:=f1.tt (f2.tt f3);have b:=H.on F;have D:=f2.1;have V:Env i t m xs h.size c1 x:=⟨(f2.tt f3).get b1 id,f3.get j id,X,s,a1,S,a2,d,L,b⟩;have w: ∀g,Fr (aR q) i g->Env g t m xs h.size c1 x:=λg f=>
  ⟨f.get V.b0 (λa=>bY (G _ a)),f.get V.b1 (λa=>bY (G _ a)),X,s,a1,S,a2,d,L,b.frame f (λy a z=>by
   have r:=G y z;have u:y<h.size:=(Ct.lt (s:=s) ⟨m,xs,a1,S,a2,d,L,H⟩ y a);omega)⟩
 have nl:(ka xs).length=xs.length:=by unfold ka;rw[aF]
 refine GQ V O nl.symm l (λk A=>by
  obtain⟨y,a,rfl⟩:=bh.1 A;exact⟨y,a,rfl⟩) w λv C o f4=>⟨_,_,_,rfl,?_⟩
 have e:=Kh (x:=x) (xZ H);have el:((ka xs).filter (j1 xs x)).length=(xs.filter (λy=>decide (y.e=x))).length:=by rw[e];unfold ka;rw[aF]
 rw[el]at o⊢;rw[e]at o;exact hk v q C o (λy a=>bY (G y a)) (F.fresh f4 (λy a=>bY (G y a)))
end fM
end
end Go.Proofs.YtlenamcfacpheaaGreatDoor
