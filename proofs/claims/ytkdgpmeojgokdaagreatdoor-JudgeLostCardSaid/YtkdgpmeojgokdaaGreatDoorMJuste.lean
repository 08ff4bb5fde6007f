/-
  Fu is proved here: parts of xQ proof, one behind xQ other (texts of this work, merged by a program; HU xQ theorem HV not use is left out). No condition.
-/
import Derived.Test.YtkdgpmeojgokdaaGreatDoorProg
import Derived.Shelf.SortM.Plain
import Derived.Shelf.SortM.SortNone
import Derived.Ground.SlgmProg
import Derived.Test.YtkdgpmeojgokdaaGreatDoorMJustd
set_option maxRecDepth 100000
set_option maxHeartbeats 4000000
namespace Go.Proofs.YtkdgpmeojgokdaaGreatDoor
open Go.Den
open IntKind (wrap)
open Int (toNat)
section
open Go.fV Go.kU
namespace iB
open mi
variable {h H:ai} {b:Nat} {X:Ft} {R:fO} {p q:ct} {c d i:Nat} {L:List E}
structure It where
 num:Nat
 owner:Int
 d:cG
 fS:Nat
structure IV where
 num:Nat
 owner:Int
 v:BV
 fS:Nat
def IV.abs(x:IV):It:=⟨x.num,x.owner,x.v.b,x.fS⟩
abbrev gI(x:IV):List Value:= [.int .i64 (x.num:Int),.int .i64 x.owner,x.v.val,.int .u64 (x.fS:Int)]
theorem iE(x:IV):(gI x).length=4:=rfl
theorem GZ(f:List IV): ∀v∈f.flatMap gI,fZ v=true:=by
 intro v k;obtain⟨a,_,e⟩:=List.mem_flatMap.1 k;simp at e;rcases e with rfl|rfl|rfl|rfl<;>rfl
abbrev IV.agg(x:IV):Value:=.agg #[.int .i64 (x.num:Int),.int .i64 x.owner,x.v.val,.int .u64 (x.fS:Int)]
theorem tI:oC Tryz.prog 99 117 4 48 (.agg #[.I 0,.I 0,.Z,.U 0]):=⟨dA,dA,rfl⟩
theorem uI:Tryz.prog.underlying 99=some (.slice 117):=dA
theorem Vr:Tryz.prog.underlying 3=some (.int .i64):=dA
structure BS where
 items:List It
 next:Nat
 taken:Nat
 sY:Nat
 over:Nat
structure Mm (h:ai) (b:Nat) (X:Ft) (s:BS) (L:List E) (j:ct) (g:Nat) (f:List IV) (a:Nat) (S:Nat->Prop):Prop where
 di:h[b]? =some (.cells #[.slice j f.length g,.int .i64 (s.next:Int),.int .i64 (s.taken:Int),.int .i64 (s.sY:Int),.int .i64 (s.over:Int),.pointer (some ⟨a,0,none⟩)] 101 (0,0))
 own:Own h j f.length g 4 (f.flatMap gI)
 al:cg.Al h a S L
 abs:f.map IV.abs=s.items
 EE: ∀x∈f,x.v.ok h X.D
 m: ∀c,X.M c↔c=b\/aP j c\/S c
 bl: ¬aP j b
 bs: ¬S b
 ls: ∀c,aP j c->¬S c
 vx: ∀c,X.M c->¬X.D c
 G0: ∀c,X.D c->c<h.size
def Bx(h:ai)(b:Nat)(X:Ft)(s:BS)(L:List E):Prop:= ∃j g f a S,Mm h b X s L j g f a S
variable {s : BS} {j : Option Addr} {g a : Nat} {f : List IV} {S : Nat → Prop}
theorem Mm.lt(e:Mm h b X s L j g f a S)(y:Nat)(hy:X.M y\/X.D y):y<h.size:=by
 rcases hy with hy|hy
 .rcases(e.m y).1 hy with rfl|h1|h1
  .exact aA e.di
  .exact e.own.dI h1
  .exact e.al.lt h1
 .exact e.G0 y hy
theorem Bx.lt(e:Bx h b X s L)(y:Nat)(k:X.M y\/X.D y):y<h.size:=by
 obtain⟨j,g,f,a,S,e⟩:=e;exact e.lt y k
theorem Mm.frame{Q:Nat->Prop}(e:Mm h b X s L j g f a S)(F:Fr Q h H)(m: ∀y,X.M y\/X.D y->¬Q y):Mm H b X s L j g f a S:=
 have l: ∀y,X.M y->¬Q y:=λy k=>m y (.inl k)
 ⟨F.get e.di (l b ((e.m b).2 (.inl rfl))),e.own.frame F (λy k=>l y ((e.m y).2 (.inr (.inl k)))),e.al.frame F (λy k=>l y ((e.m y).2 (.inr (.inr k)))),e.abs,λx n=>(e.EE x n).frame F (λy k=>m y (.inr k)),e.m,e.bl,e.bs,e.ls,e.vx,λy k=>cK (e.G0 y k) F.1⟩
theorem Bx.frame{Q:Nat->Prop}(e:Bx h b X s L)(F:Fr Q h H)(k: ∀y,X.M y\/X.D y->¬Q y):Bx H b X s L:=by
 obtain⟨j,g,f,a,S,e⟩:=e;exact⟨j,g,f,a,S,e.frame F k⟩
theorem Mm.on(e:Mm h b X s L j g f a S)(F:Fr No h H):Mm H b X s L j g f a S:=e.frame F bX
theorem Mm.len(e:Mm h b X s L j g f a S):f.length=s.items.length:=by rw[<-e.abs,aD]
theorem gp(e:Mm h b X s L j g f a S)(k:R (.B true) h):Cl 62 #[.P b 0] h R:=
 yH.walk ⟨_,au e.di,k⟩
theorem jj(m: ∀H b X,Bx H b X ⟨[],1,0,0,0⟩ []->Fr No h H->(∀y,X.M y\/X.D y->h.size<=y)->R (.P b 0) H):Cl 16 #[] h R:=by
 refine I6.walk (cg.jj λa S k A G F=>⟨_,rfl,cT ?_⟩);have l:Fr No k (k.push (.C #[.Z,.I 1,.I 0,.I 0,.I 0,.P a 0] 101)):=Fr.push _ _;have z:=F.1;refine m _ k.size ⟨λy=>y=k.size\/aP none y\/S y,λ_=>False⟩ ⟨none,0, [],a,S,⟨bZ,.nil rfl rfl rfl rfl,A.frame l bX,rfl,(λx n=>by cases n),λ_=>ff,(λ⟨a,e,_⟩=>by cases e),λhs=> ?_,(λy ⟨a,e,_⟩=>by cases e),λ_ _=>id,λ_ hy=>hy.elim⟩⟩ (F.tt l) ?_
 .have:=A.lt hs;omega
 .rintro y ((rfl|⟨a,e,_⟩|hs)|hy)
  .exact z
  .cases e
  .exact G y hs
  .exact hy.elim
theorem sF{x w z:Int}{B:cG}{n m:Nat}(hr:Row h p (bc B))(o:n=B.length)(hl:B.length<=70368744177664)(hk: ∀H P C,Own H P B.length C 1 (bc B)->Fr No h H->(∀y,aP P y->h.size<=y)->R (.agg #[.I x,.I w,.L P B.length C,.U z]) H):
  Cl 186 #[.agg #[.I x,.I w,.L p n m,.U z]] h R:=by
 subst o;refine Cg.walk (aI.box λr h1 a' K t=>aI.box λk h2 b' O F=> ?_);have M:=F.get K id;refine⟨_,_,_,au M,gE (hr.frame (t.tt F) bX) rfl hl λQ D v o3 u G=>⟨_,_,_,rfl,?_⟩⟩;have l1:=aA K;have l2:=aA O;have k1:=u.get M id;have k2:aI.at v k 0 0 none 0 0 0:=u.get O id;have z1:=t.1;have z2:=F.1;have ne:k≠r:=ag
 refine bk k1 bU λI U a2 A=> ?_
 have k4:aI.at I r x w Q B.length D z:=U;refine aI.ld k4 ?_;have k5:aI.at I k 0 0 none 0 0 0:=(A k ne).trans k2;refine aI.set k5 λJ V d2 Z=>aI.ld V ?_
 have E:Fr (λy=>y=r\/y=k) v J:=⟨ag,λy l o=>by rw[Z y (λe=>o (.inr e)),A y (λe=>o (.inl e))]⟩;have T:Fr No h v:=t.tt (F.tt u);refine hk J Q D (o3.frame E (λy l e=>bW (G y l))) (T.fresh E (λy l=>ag)) (λy l=>bW (G y l))
def xo(o:Int)(n:Nat)(t:Int):Bool:=decide (1<=o) && decide (o<=1099511627776) && decide (1<=n) && decide (n<=600) && decide (t<=1099511627776)
theorem I7{o t:Int}{n:Nat}:xo o n t=true↔1<=o/\o<=1099511627776/\1<=n/\n<=600/\t<=1099511627776:=by simp[xo,and_assoc]
theorem fM{v x u:Int}{n m:Nat}(e: hH h R (.B (xo x n u))):
  Cl 250 #[.agg #[.I v,.I x,.L p n m,.U u]] h R:=by
 refine ED.walk (aI.box λB k E l F=>⟨_,au l,?_⟩);have e:=e k F;unfold xo at e;by_cases k:1<=x
 .rw[af (cR k)];refine⟨_,au l,?_⟩;by_cases o:x<=1099511627776
  .rw[af (cR o)];refine⟨_,_,_,au l,?_⟩;by_cases r:1<=n
   .rw[af (by simp;omega)];refine⟨_,_,_,au l,?_⟩;by_cases t:n<=600
    .rw[af (by simp;omega)];refine⟨_,au l,?_⟩;simpa[k,o,r,t]using e
    .rw[ae (by simp;omega)];simpa[t]using e
   .rw[ae (by simp;omega)];simpa[r]using e
  .rw[ae (cR o)];simpa[o]using e
 .rw[ae (cR k)];simpa[k]using e
def yL(f:List It)(num:Int):Option Nat:=f.findIdx? (λa=>decide ((a.num:Int)=num))
def rU(f:List It)(num:Int):Int:=match yL f num with|some k=>(k:Int)|none=> -1
abbrev A4(h:ai)(b:Nat)(num:Int):Prop:=h[b]? =some (.cells #[.int .i64 num] 3 (0,0))
theorem OU{b:Nat}{num:Int}(x:IV)(hid:A4 h b num)(m: hH h R (.B (decide ((x.num:Int)=num)))):Cl 84 #[x.agg,.P b 0] h R:=by
 refine vS.walk (aI.box λB k E l F=>⟨_,au l,_,au (F.get hid (λx=>x)),?_⟩);have e:((x.num:Int)==num)=decide ((x.num:Int)=num):=by
  by_cases q:(x.num:Int)=num<;>simp[q]
 rw[e];exact m k F
theorem nC{f:List IV}{n m b:Nat}{num:Int}(D:Row h p (f.flatMap gI))(C:n=f.length)(I:f.length<=1000000000)(hid:A4 h b num)(o: hH h R (.I (rU (f.map IV.abs) num))):
  Cl 83 #[.L p n m,.func (.func 84) #[] #[.P b 0]] h R:=by
 subst C;refine fR.find.walk ?_;refine⟨λi H=>Fr No h H/\∃k:Nat,i=(k:Int)/\k<=f.length/\∀J (l:J<f.length),J<k->(f[J].num:Int)≠num,λi _=>f.length - i.toNat,⟨Fr.refl _ _,0,rfl,ag,λJ _ l=>ag⟩,?_⟩;rintro _ v ⟨F,k,rfl,G,r⟩;have y:=D.frame F (λ_ _ x=>x);have B:A4 v b num:=F.get hid (λx=>x);by_cases w:k<f.length
 .have Q:(k:Int)<(f.length:Int):=ag
  simp only[Q,bF,bm,aH];have t:f[k]? =some f[k]:=aj w;obtain⟨a,rfl⟩:=y.some (λe=>by have:=cf List.length e;rw[eL gI 4 iE,bG]at this;omega);refine⟨⟨ag,by first|trivial|omega⟩,ax.2 (aI.DZ (y.gB iE t) ?_)⟩;refine OU f[k] B λz u=>⟨_,rfl,?_⟩
  by_cases e:(f[k].num:Int)=num
  .simp only[e,bF,bm];have:rU (f.map IV.abs) num=(k:Int):=by
    unfold rU yL;have:(f.map IV.abs).findIdx? (λa=>decide ((a.num:Int)=num))=some k:=by
     rw[cj];refine⟨by rw[aD];exact w,?_,λJ l=> ?_⟩
     .rw[List.getElem_map];exact av e
     .rw[List.getElem_map,Bool.not_eq_true];exact aC (r J ag l)
    rw[this]
   rw[this]at o;exact o z (F.tt u)
  .simp only[e,bu,ar,aQ];rw[bJ ag ag];refine⟨⟨F.tt u,k+1,ag,ag,λJ l E=> ?_⟩,?_⟩
   .by_cases q:J=k
    .subst q;exact e
    .exact r J l ag
   .show f.length - Int.toNat ((k:Int)+1)<f.length - Int.toNat (k:Int);omega
 .have Q: ¬(k:Int)<(f.length:Int):=ag
  simp only[Q,bu,ar,aQ];have:rU (f.map IV.abs) num= -1:=by
   unfold rU yL;have:(f.map IV.abs).findIdx? (λa=>decide ((a.num:Int)=num))=none:=by
    rw[dh];intro a A;obtain⟨x,t,rfl⟩:=bt.1 A;obtain⟨J,l,rfl⟩:=List.mem_iff_getElem.1 t;exact aC (r J l ag)
   rw[this]
  rw[this]at o;exact o v F
theorem ic{num:Int}(e:Mm h b X s L j g f a S)(o:s.items.length<=1000000000)(n: hH h R (.I (rU s.items num))):Cl 64 #[.P b 0,.I num] h R:=by
 refine yI.walk (cT ?_);have F:Fr No h (h.push (.C #[.I num] 3)):=Fr.push _ _;have k:=e.on F;have r:=e.len;refine⟨_,_,_,au k.di,nC k.own.iz rfl ag bZ λm l=>⟨_,rfl,?_⟩⟩;rw[e.abs];exact n m (F.tt l)
theorem QS{n:Nat}(w:n<=1000000)(k: ∀P C H,Own H P 0 C 4 []->Fr No h H->(∀y,aP P y->h.size<=y)->R (.L P 0 C) H):
  Cl 131 #[.Z,.I (n:Int)] h R:=by
 refine jV.walk ?_;simp only[aG];have Q: ¬(n:Int)<0:=ag
 have m:IntKind.wrap .i64 (((0:Nat):Int) - ((0:Nat):Int))=0:=rfl;have E:IntKind.wrap .i64 ((n:Int) - 0)=(n:Int):=by rw[bJ ag ag];omega
 rw[m,E];simp only[Q,bu,ar,aQ];by_cases t:n=0
 .subst t;rw[ae bU];exact k none 0 h (.nil rfl rfl rfl rfl) (Fr.refl _ _) (λy ⟨a,e,_⟩=>by cases e)
 .have u:(n:Int)>0:=ag
  simp only[u,bF,bm];refine⟨ag,?_⟩;have r:cQ none 0 0 4=none:=kG _ _ _;rw[r];refine NR tI Vr ag ag ag λl H o v F=>⟨_,_,_,rfl,ag,?_⟩
  rw[kG];exact k _ l H o F (λy ⟨a,e,E⟩=>by cases e;exact Nat.le_of_eq E)
theorem Dc{E I:ct}{V M Z T:Nat}{u w:List IV}(U:Row h (Sa c 0) [.L E V M,.L I Z T])(r1:Row h E (u.flatMap gI))(e1:V=u.length)(r2:Row h I (w.flatMap gI))(e2:Z=w.length)(hl:u.length+w.length<=1000)(hk: ∀P J H,Own H P (u++w).length J 4 ((u++w).flatMap gI)->Fr No h H->(∀y,aP P y->h.size<=y)->R (.slice P (u++w).length J) H):
  Cl 82 #[.L (Sa c 0) 2 2] h R:=by
 subst e1 e2;have K: ∀{G:ai},Fr No h G->aU G (((AA c 0):Addr).add (0*1))=some (.L E u.length M):=λx=>(U.frame x bX).cell (j:=0) rfl
 have Q: ∀{G:ai},Fr No h G->aU G (((AA c 0):Addr).add (1*1))=some (.L I w.length T):=λx=>(U.frame x bX).cell (j:=1) rfl
 refine jO.walk ?_;refine⟨λv i G=>G=h/\((i=0/\v=0)\/(i=1/\v=(u.length:Int))\/(i=2/\v=((u.length+w.length:Nat):Int))),λ_ i _=>2 - i.toNat,⟨rfl,.inl ⟨rfl,rfl⟩⟩,?_⟩;rintro v i G ⟨rfl,C⟩;rcases C with⟨rfl,rfl⟩|⟨rfl,rfl⟩|⟨rfl,rfl⟩
 .rw[af (by rfl)];refine aG.of λa' B=>⟨ag,ax.2 ⟨_,_,_,K (Fr.refl _ _),aG.of λJ1 r=> ?_⟩⟩
  have e:IntKind.wrap .i64 (0+(u.length:Int))=(u.length:Int):=by rw[bJ ag ag];omega
  rw[e]at r;rw[e,ae (by simp<;>omega)];subst r;subst B;exact⟨⟨rfl,.inr (.inl ⟨rfl,rfl⟩)⟩,by show 2 - Int.toNat 1<2 - Int.toNat 0;decide⟩
 .rw[af (by rfl)];refine aG.of λa' B=>⟨ag,ax.2 ⟨_,_,_,Q (Fr.refl _ _),aG.of λJ1 r=> ?_⟩⟩
  have e:IntKind.wrap .i64 ((u.length:Int)+(w.length:Int))=((u.length+w.length:Nat):Int):=by rw[bJ ag ag];omega
  rw[e]at r;rw[e,ae (by simp<;>omega)];subst r;subst B;exact⟨⟨rfl,.inr (.inr ⟨rfl,rfl⟩)⟩,by show 2 - Int.toNat 2<2 - Int.toNat 1;decide⟩
 .rw[dy];refine QS ag λp4 c4 h4 o4 f4 g4=>⟨_,_,_,rfl,?_⟩
  refine⟨λl n t i k=>Fr No G k/\(∀y,aP l y->G.size<=y)/\((i=0/\n=0/\Own k l n t 4 [])\/(i=1/\n=u.length/\Own k l n t 4 (u.flatMap gI))\/(i=2/\n=(u++w).length/\Own k l n t 4 ((u++w).flatMap gI))),λ_ _ _ i _=>2 - i.toNat,⟨f4,g4,.inl ⟨rfl,rfl,o4⟩⟩,?_⟩;rintro l n t i k ⟨F,m,C⟩;rcases C with⟨rfl,rfl,o⟩|⟨rfl,rfl,o⟩|⟨rfl,rfl,o⟩
  .rw[af (by rfl)];refine⟨ag,ax.2 ⟨_,_,_,K F,?_⟩⟩;refine dR tI uI o (r1.frame F bX) (eL gI 4 iE u) (GZ u) ag ag λp6 c6 h6 O _ z A=>⟨_,_,_,rfl,?_⟩
   rw[da,bK]at O;rw[bK];have b':=F.1;exact⟨⟨F.fresh z m,(λy D=>(A y D).elim (m y) (λh2=>ag)),.inr (.inl ⟨rfl,rfl,O⟩)⟩,by show 2 - Int.toNat 1<2 - Int.toNat 0;decide⟩
  .rw[af (by rfl)];refine⟨ag,ax.2 ⟨_,_,_,Q F,?_⟩⟩;refine dR tI uI o (r2.frame F bX) (eL gI 4 iE w) (GZ w) ag ag λp6 c6 h6 O _ z A=>⟨_,_,_,rfl,?_⟩
   rw[<-cS,<-aB]at O;rw[<-aB];have b':=F.1;exact⟨⟨F.fresh z m,(λy D=>(A y D).elim (m y) (λh2=>ag)),.inr (.inr ⟨rfl,rfl,O⟩)⟩,by show 2 - Int.toNat 2<2 - Int.toNat 1;decide⟩
  .rw[dy];exact hk l t k o F m
theorem Mb{L:List E}{k:Int}(n:k∉keys L):fY L k=L:=by
 unfold fY;rw[cz];intro e m;have:e.1≠k:=λl=>n (l▸bz m)
 simpa using this
theorem Own.zB{h:ai}{p:ct}{f:List IV}{cap l u:Nat}(m:Row h p (f.flatMap gI))(e:l<=u)(k:u<=cap):Row h (cQ p cap l 4) (((f.take u).drop l).flatMap gI):=by
 have:=m.sub (cap:=cap) (l:=l) (u:=u) (sz:=4) e k;rwa[kH gI 4 iE,lO gI 4 iE]at this
def vU(f:List It)(i:Nat):List It:=f.take i++f.drop (i+1)
theorem Am{x:IV}(k:Mm h b X s L j g f a S)(hl:s.items.length<=100)(hL:L.length<1000)(m:f[i]? =some x)(hk: ∀H X',Bx H b X' { s with items:=vU s.items i } (fY L (x.num:Int))->bw X h X' H->x.v.ok H X'.D->R x.agg H):
  Cl 63 #[.P b 0,.I (i:Int)] h R:=by
 have G':=k.len;have hi:=(az.1 m).1;refine AX.walk (aI.box λB h1 E' k' f1=> ?_);have H1:=k.on f1;obtain⟨z,D,rfl⟩:=k.own.addr ag;refine⟨_,_,_,au H1.di,ag,ax.2 (aI.DZ (by rw[aH];exact H1.own.gB iE m) (aI.new λt o F' g' f2=> ?_))⟩;have E:=H1.on f2;have B':aI.at o B 0 0 none 0 0 0:=f2.get k' id;have z1:=f1.1;have z2:=f2.1;have l1:=aA k';have l2:=aA g';have ne:t≠B:=ag
 have nX: ∀y,h.size<=y->¬(X.M y\/X.D y):=λy hy m=>by have:=k.lt y m;omega
 refine⟨_,au E.di,_,au g',?_⟩;have h': ∀l,cg.Al l a S (fY L (x.num:Int))->Fr S o l->
   l[b]? =some (.C #[.L (Sa z D) f.length g,.I (s.next:Int),.I (s.taken:Int),.I (s.sY:Int),.I (s.over:Int),.P a 0] 101 (0,0))/\
   Row l (Sa z D) (f.flatMap gI)/\aI.at l B 0 0 none 0 0 0/\aI.at l t (x.num:Int) x.owner x.v.p x.v.b.length x.v.c (x.fS:Int):=by
  intro l A F;have nS: ∀y,h.size<=y->¬S y:=λy hy Q=>by have:=k.al.lt Q;omega
  exact⟨F.get E.di k.bs,E.own.iz.frame F (λa' ea Q=>k.ls _ ⟨a',ea,rfl⟩ Q),F.get B' (nS B ag),F.get g' (nS t ag)⟩
 have j': ∀l,cg.Al l a S (fY L (x.num:Int))->Fr S o l->∀P C r,Fr No l r->Own r P (f.take i++f.drop (i+1)).length C 4 ((f.take i++f.drop (i+1)).flatMap gI)->(∀y,aP P y->l.size<=y)->
   aJ r (AA b 0) (.slice P (f.take i++f.drop (i+1)).length C) λJ=>
    ∃(s':Int),aU J (AA t 0)=some (.I s')/\∃(t':Int),aU J (AA t 1)=some (.I t')/\∃(w':ct)(v' u':Nat),aU J (AA t 2)=some (.L w' v' u')/\∃(x':Int),aU J (AA t 3)=some (.U x')/\
    aJ J (AA B 0) (.I s') λy'=>
    aJ y' (AA B 1) (.I t') λz'=>
    aJ z' (AA B 2) (.L w' v' u') λA'=>
    aJ A' (AA B 3) (.U x') λM=>
    ∃(m':Int),aU M (AA B 0)=some (.I m')/\∃(n':Int),aU M (AA B 1)=some (.I n')/\∃(q':ct)(p' o':Nat),aU M (AA B 2)=some (.L q' p' o')/\∃(r':Int),aU M (AA B 3)=some (.U r')/\
    R (.agg #[.I m',.I n',.L q' p' o',.U r']) M:=by
  intro l A F P C r n U G;obtain⟨K,_,k3,k4⟩:=h' l A F;have lb:=aA k.di;have z7:=F.1;have z9:=n.1;refine bk (n.get K id) bU λI a1 a2 a3=> ?_
  have i2:aI.at I t (x.num:Int) x.owner x.v.p x.v.b.length x.v.c (x.fS:Int):=(a3 t ag).trans (n.get k4 id);refine aI.ld i2 ?_;have i1:aI.at I B 0 0 none 0 0 0:=(a3 B ag).trans (n.get k3 id);refine aI.set i1 λc' d1 d2 d3=>aI.ld d1 ?_
  have f':Fr (λy=>y=b) r I:=Fr.of_eq a2 a3;have b':Fr (λy=>y=B) I c':=Fr.of_eq d2 d3;have F2:Fr No h o:=f1.tt f2;have F7:Fr S h l:=Fr.no F2 F;have F9:Fr S h r:=F7.tt (n.mono (λ_ _ m=>m.elim));have d':Fr (λy=>S y\/y=b) h I:=(F9.mono (λ_ _ m=> .inl m)).tt (f'.mono (λ_ _ m=> .inr m));have e':Fr X.M h c':=by
   refine⟨db d'.1 b'.1,λy hy hn=> ?_⟩;rw[b'.2 y (cK hy d'.1) (λe=>ag),d'.2 y hy (λm=>hn ((k.m y).2 (m.elim (λh=> .inr (.inr h)) .inl)))]
  have C': ∀y,aP P y->¬S y:=λy hy Q=>by have:=G y hy;have:=k.al.lt Q;omega
  have l': ∀y,aP P y->y≠b:=λy hy e=>by have:=G y hy;omega
  have D': ∀y,aP P y->y≠B:=λy hy e=>by have:=G y hy;omega
  have i': ∀v:IV,v∈f->v.v.ok c' X.D:=λv hv=>(k.EE v hv).frame e' (λy O hm=>k.vx y hm O)
  refine hk c' ⟨λy=>y=b\/aP P y\/S y,X.D⟩ ⟨P,C,f.take i++f.drop (i+1),a,S,⟨?_,(U.frame f' l').frame b' D',?_,?_,?_,λ_=>ff,λm=>l' b m rfl,k.bs,C',?_,λy hy=>cK (k.G0 y hy) e'.1⟩⟩ ⟨e',?_,λ_=> .inl,λ_=>id⟩ (i' x (aZ m))
  .rw[d3 b ag,a1];simp
  .have A9:=A.frame n bX;exact(A9.frame f' (λy hy e=>k.bs (e▸hy))).frame b' (λy hy e=>bW (k.al.lt hy))
  .show _=vU s.items i;unfold vU;rw[<-k.abs,ba,List.map_take,List.map_drop]
  .intro v hv;refine i' v ?_;rcases bH.1 hv with hv|hv
   .exact List.mem_of_mem_take hv
   .exact gl hv
  .rintro y (rfl|hy|hy) O
   .exact k.vx _ ((k.m _).2 (.inl rfl)) O
   .have:=G y hy;have:=k.G0 y O;omega
   .exact k.vx _ ((k.m _).2 (.inr (.inr hy))) O
  .rintro y (rfl|hy|hy)
   .exact .inl ((k.m _).2 (.inl rfl))
   .right;have:=G y hy;omega
   .exact .inl ((k.m _).2 (.inr (.inr hy)))
 have ew:IntKind.wrap .i64 ((i:Int)+1)=((i+1:Nat):Int):=by rw[bJ ag ag];omega
 have cap:=k.own.le;rw[ew];simp only[aH,Nat.sub_zero];refine cg.pY E.al ag _ (λhm l A F=>⟨_,rfl,?_⟩) (λhm=>⟨_,rfl,?_⟩)
 .obtain⟨K,k2,k3,k4⟩:=h' l A F;refine⟨_,_,_,au K,ag,_,_,_,au K,ag,cT ?_⟩;have u:Fr No l (l.push (.C #[.L (cQ (Sa z D) g 0 4) i g,.L (cQ (Sa z D) g (i+1) 4) (f.length - (i+1)) (g - (i+1))] 99)):=Fr.push _ _;have w:=u.get K id;refine⟨au w,au w,?_⟩;have V:=k2.frame u bX;have Z:=Own.zB (l:=0) (u:=i) (cap:=g) V ag ag;have rb:=Own.zB (l:=i+1) (u:=f.length) (cap:=g) V ag ag;rw[gx]at Z;rw[fv]at rb;refine Dc ju Z (by rw[bA];omega) rb (by rw[bN]) (by rw[bA,bN];omega) λP C r U n G=>⟨_,_,_,rfl,?_⟩
  have T:=n.get w id;exact⟨au T,au T,j' l A F P C r (u.tt n) U (λy hy=>by have:=G y hy;rw[cY]at this;omega)⟩
 .have A:cg.Al o a S (fY L (x.num:Int)):=by
   rw[Mb hm];exact E.al
  have F:Fr S o o:=Fr.refl _ _;obtain⟨K,k2,k3,k4⟩:=h' o A F;refine⟨_,_,_,au K,ag,_,_,_,au K,ag,cT ?_⟩;have u:Fr No o (o.push (.C #[.L (cQ (Sa z D) g 0 4) i g,.L (cQ (Sa z D) g (i+1) 4) (f.length - (i+1)) (g - (i+1))] 99)):=Fr.push _ _;have w:=u.get K id;refine⟨au w,au w,?_⟩;have V:=k2.frame u bX;have Z:=Own.zB (l:=0) (u:=i) (cap:=g) V ag ag;have rb:=Own.zB (l:=i+1) (u:=f.length) (cap:=g) V ag ag;rw[gx]at Z;rw[fv]at rb;refine Dc ju Z (by rw[bA];omega) rb (by rw[bN]) (by rw[bA,bN];omega) λP C r U n G=>⟨_,_,_,rfl,?_⟩
  have T:=n.get w id;exact⟨au T,au T,j' o A F P C r (u.tt n) U (λy hy=>by have:=G y hy;rw[cY]at this;omega)⟩
end iB
end
section
open Go.fV Go.kU
namespace iB
open cg (jL)
variable {L:List E} {s:BS} {i:List It} {now:Int}
variable {num:Int}
def It.kv(x:It):E:=((x.num:Int),(x.fS:Int))
structure okB (s:BS) (L:List E):Prop where
 le:s.items.length<=16
 pm:L.Perm (s.items.map It.kv)
 it: ∀x∈s.items,1<=x.num/\x.num<s.next/\1<=x.d.length/\x.d.length<=600/\1<=x.owner/\x.owner<=1099511627776/\x.fS<=1099511627776
 inc:(s.items.map It.num).Pairwise (· < ·)
 yM:s.next=1+s.items.length+s.taken+s.sY+s.over
theorem okB.nil:okB ⟨[],1,0,0,0⟩ []:=⟨bU,.refl _,bU,.nil,rfl⟩
def qJ(i:List It)(num:Int):List It:=i.filter (λy=> !decide ((y.num:Int)=num))
theorem pk: ∀{i:List It}{I:Nat}{x:It},(i.map It.num).Pairwise (· < ·)->i[I]? =some x->vU i I=qJ i (x.num:Int)
 | [],I,x,_,h=>by simp at h
 |y::r,0,x,H,h=>by
  simp at h;subst h;rw[cb,dU]at H;unfold vU qJ;rw[cu];simp only[bF,cX,ar,aQ,eV,da,List.drop_succ_cons,gx];symm
  rw[cz];intro z c;have:=H.1 z.num (bz c);have: ¬(z.num:Int)=(y.num:Int):=ag
  simp[this]
 |y::r,I+1,x,H,h=>by
  rw[cb,dU]at H;rw[dP]at h;have a:=pk H.2 h;have d:=H.1 x.num (bz (aZ h));have b: ¬(y.num:Int)=(x.num:Int):=ag
  unfold vU qJ at a⊢;rw[cu];simp only[b,bu,dZ,bm,gr,List.drop_succ_cons,dk];rw[a]
theorem A5(h:L.Perm (i.map It.kv)):(fY L num).Perm ((qJ i num).map It.kv):=by
 have:=h.filter (λe=> !(e.1==num));unfold fY;refine this.trans ?_;rw[dO];refine List.Perm.of_eq ?_;unfold qJ;refine cf _ (eK ?_);intro x _;show(!((x.num:Int)==num))=_;by_cases q:(x.num:Int)=num<;>simp[q]
theorem okB.sub{I:List It}{l:List E}{t c o:Nat}(O:okB s L)(h:I.Sublist s.items)(a:l.Perm (I.map It.kv))(H:s.next=1+I.length+t+c+o):okB ⟨I,s.next,t,c,o⟩ l:=
 ⟨db h.length_le O.le,a,λx b=>O.it x (h.subset b),O.inc.sublist (h.map _),H⟩
theorem A6{I:Nat}(h:yL i num=some I): ∃x,i[I]? =some x/\(x.num:Int)=num:=by
 unfold yL at h;rw[cj]at h;obtain⟨H,a,_⟩:=h;exact⟨_,aj H,cR a⟩
theorem OV(h:yL i num=none): ∀x∈i,(x.num:Int)≠num:=by
 unfold yL at h;rw[dh]at h;intro x H;simpa using h x H
theorem uniq(h:(i.map It.num).Pairwise (· < ·)){x y:It}(H:x∈i)(b:y∈i)(e:x.num=y.num):x=y:=by
 induction i with
 |nil=>cases H
 |cons z r I=>
  rw[cb,dU]at h;rcases bg.1 H with a|Wi
  .rcases bg.1 b with E|Vs
   .rw[a,E]
   .have:=h.1 y.num (bz Vs);rw[a]at e;omega
  .rcases bg.1 b with E|Vs
   .have:=h.1 x.num (bz Wi);rw[E]at e;omega
   .exact I h.2 Wi Vs
theorem gv: ∀{L:List E},jH L->cg.due L now=L.filter (jL now)/\cg.rest L now=L.filter (λe=> !jL now e)
 | [],_=>⟨rfl,rfl⟩
 |e::r,f=>by
  have c:=dU.1 f;obtain⟨I,d⟩:=gv (L:=r) c.2;unfold cg.due at I⊢;unfold cg.rest at d⊢;by_cases b:jL now e=true
  .rw[List.takeWhile_cons,List.dropWhile_cons,cu,cu,b];simp only[bm,cX,ar,aQ];rw[I,d];exact⟨rfl,rfl⟩
  .have H:jL now e=false:=by simpa using b
   have a: ∀x∈r,jL now x=false:=by
    intro x h;have h1:=c.1 x h;unfold jL at H⊢;have g:=gh H;apply aC
    rcases h1 with h1|h1<;>omega
   rw[List.takeWhile_cons,List.dropWhile_cons,cu,cu,H];simp only[ar,aQ,dZ,bm];refine⟨?_,?_⟩
   .symm;rw[List.filter_eq_nil_iff];intro x h;rw[a x h];simp
   .congr 1;symm;rw[cz];intro x h;rw[a x h];rfl
def oH(i:List It)(K:List Int):List It:=i.filter (λx=>decide ((x.num:Int)∉K))
theorem OW:oH i []=i:=by unfold oH;simp
theorem OX{K:List Int}{k:Int}:qJ (oH i K) k=oH i (K++ [k]):=by
 unfold qJ oH;rw[List.filter_filter];apply eK
 intro x _;by_cases h:(x.num:Int)=k
 .simp[h]
 .by_cases H:(x.num:Int)∈K<;>simp[h,H]
theorem OY(o:okB s L)(S:jH L)(n:(keys L).Nodup):oH s.items (keys (cg.due L now))=s.items.filter (λx=>decide (now<(x.fS:Int))):=by
 obtain⟨E,_⟩:=gv (now:=now) S;unfold oH;apply eK
 intro x b;have f:x.kv∈L:=o.pm.mem_iff.2 (bz b);by_cases a:now<(x.fS:Int)
 .simp only[a,bF,aY];intro H;rw[E]at H;obtain⟨e,d,c⟩:=bt.1 H;have h:=bj.1 d;obtain⟨y,g,rfl⟩:=bt.1 (o.pm.mem_iff.1 h.1);have:y=x:=uniq o.inc g b (by have:(y.num:Int)=(x.num:Int):=c;omega);subst this;have:=aV h.2;unfold It.kv at this;dsimp only at this;omega
 .simp only[a,bu,fk,Classical.not_not];rw[E];refine bt.2 ⟨x.kv,bj.2 ⟨f,av ?_⟩,rfl⟩;unfold It.kv;dsimp only;omega
theorem Dd(o:okB s L)(S:jH L):(cg.rest L now).Perm ((s.items.filter (λx=>decide (now<(x.fS:Int)))).map It.kv):=by
 rw[(gv (now:=now) S).2];refine(o.pm.filter _).trans (List.Perm.of_eq ?_);rw[dO];congr 1
 apply eK
 intro x _;show(!decide ((x.fS:Int)<=now))=_;by_cases q:now<(x.fS:Int)
 .simp[q]
 .simp[q];omega
theorem OZ(o:okB s L)(S:jH L):(cg.due L now).Perm ((s.items.filter (λx=>decide ((x.fS:Int)<=now))).map It.kv):=by
 rw[(gv (now:=now) S).1];refine(o.pm.filter _).trans (List.Perm.of_eq ?_);rw[dO];rfl

end iB
end
section
variable {h:ai} {R:fO}
variable {p:Nat} {o n:Int}
theorem xp.walk(H: ∃t,Cc h p 2 (.map t)/\R (.B (!t.isNone)) h):Cl 85 #[.P p 0] h R:=aS [] Tryz.func85 H
theorem Mc.walk{w:Int}{s:Int}(d:aG (λ(t:Bool) (H:ai)=>if t then R (.T #[.pointer none,.I 1]) H else bf H (.map #[] 0) λb a=>bf a (.C #[.I w,.I s,.map (some b),.I 0] 87) λB c=>R (.T #[.P B 0,.I 0]) c) (λJ=>if(decide (w<1))then J true h else if(decide (w>1048576))then J true h else if(decide (s<1))then J true h else J (decide (s>w)) h)):Cl 12 #[.I w,.I s] h R:=aS [(4,.join [(20,.one (.bool))])] Tryz.func12 d
theorem yN.walk(b:Cl 85 #[.P p 0] h λv H=> ∃t,v=.B t/\if(!t)then R (.I 6) H else aG (λ(T:Bool) (a:ai)=>if T then R (.I 1) a else R (.I 0) a) (λJ=>if(decide (o<1))then J true H else if(decide (o>1099511627776))then J true H else J (decide (n<0)) H)):Cl 65 #[.P p 0,.I o,.I n] h R:=aS [(11,.join [(11,.one (.bool))])] Tryz.func65 b
theorem xq.walk (l:Cl 65 #[.P p 0,.I o,.I n] h λv H=> ∃t,v=.I t/\if(t !=0)then R (.I t) H else aG (λ(r:Bool) (a:ai)=>if r then R (.I 15) a else aG (λ(i:ai)=>R (.I 0) i) (λj=>if(decide (n>0))then∃T,Cc a p 2 (.map T)/\∃f,iK Tryz.prog 85 (.map T) (.I o) false a (.I f)/\aT Tryz.prog (Instr.mapUpdate 85 (.map T) (.I o) (.I (wrap .i64 (f+n)))) a λ_ b=> ∃g,Cc b p 3 (.I g)/\aJ b (AA p 3) (.I (wrap .i64 (g+n))) λk=>j k else j a)) (λJ=>Hi H p 1 λm=> ∃c,Cc H p 2 (.map c)/\∃d,iK Tryz.prog 85 (.map c) (.I o) false H (.I d)/\if(decide (n>(wrap .i64 (m - d))))then J true H else Hi H p 0 λq=> ∃e,Cc H p 3 (.I e)/\J (decide (n>(wrap .i64 (q - e)))) H)):Cl 222 #[.P p 0,.I o,.I n] h R:=aS [(14,.join [(40,.one (.bool))]),(14,λ_=>pN 26),(23,.join [])] Tryz.func222 l
theorem xr.walk (c:Cl 65 #[.P p 0,.I o,.I n] h λv H=> ∃t,v=.I t/\if(t==0)then Hi H p 1 λd=> ∃T,Cc H p 2 (.map T)/\∃a,iK Tryz.prog 85 (.map T) (.I o) false H (.I a)/\if(decide (n<=(wrap .i64 (d - a))))then Hi H p 0 λe=> ∃b,Cc H p 3 (.I b)/\R (.B (decide (n<=(wrap .i64 (e - b))))) H else R (.B false) H else R (.B false) H):Cl 220 #[.P p 0,.I o,.I n] h R:=aS [(3,λ_=>pN 34)] Tryz.func220 c
theorem xt.walk(m:Cl 65 #[.P p 0,.I o,.I n] h λv H=> ∃t,v=.I t/\if(t !=0)then R (.I t) H else∃c,Cc H p 2 (.map c)/\∃d,iK Tryz.prog 85 (.map c) (.I o) false H (.I d)/\if(decide (n>d))then R (.I 7) H else∃e,Cc H p 3 (.I e)/\aJ H (AA p 3) (.I (wrap .i64 (e - n))) λb=> ∃T,Cc b p 2 (.map T)/\∃f,iK Tryz.prog 85 (.map T) (.I o) false b (.I f)/\aT Tryz.prog (Instr.mapUpdate 85 (.map T) (.I o) (.I (wrap .i64 (f - n)))) b λ_ a=> ∃g,Cc a p 2 (.map g)/\∃i,iK Tryz.prog 85 (.map g) (.I o) false a (.I i)/\aG (λ(k:ai)=>R (.I 0) k) (λJ=>if(i==0)then∃j,Cc a p 2 (.map j)/\aT Tryz.prog (Builtin.delete_ #[85,3] 0 #[.map j,.I o]) a λV l=>V=.T #[]/\J l else J a)):Cl 41 #[.P p 0,.I o,.I n] h R:=aS [(27,.join [])] Tryz.func41 m

end
section
namespace nE
theorem tm:rj Tryz.prog 85 (.I 0):=.of 3 3 .i64 dA dA dA
def gQ(h:ai)(p m:Nat)(w S A:Int)(f:Int->Int):Prop:=
 h[p]? =some (.cells #[.int .i64 w,.int .i64 S,.map (some m),.int .i64 A] 87 (0,0))/\
 ∃g:Int->Option Value,nU h m g/\∀k,(g k).getD (.int .i64 0)=.int .i64 (f k)
def Ok(w S A:Int)(f:Int->Int):Prop:=1<=S/\S<=w/\w<=1048576/\ -2000000000000<=A/\A<=w/\∀k,0<=f k/\f k<=S
variable {h : ai} {p m : Nat} {w S A : Int} {f : Int → Int} {R : Value → ai → Prop}
theorem gQ.frame{Q:Nat->Prop}{H:ai}(j:gQ h p m w S A f)(a:Fr Q h H)(b: ¬Q p)(c: ¬Q m):gQ H p m w S A f:=by
 obtain⟨d,g,e,i⟩:=j;exact⟨a.get d b,g,e.frame a c,i⟩
theorem gQ.ne(d:gQ h p m w S A f):p≠m:=by
 obtain⟨a,g,b,_⟩:=d;obtain⟨e,c,H⟩:=b.map;rintro rfl;rw[a]at H;cases H
theorem gQ.lt(H:gQ h p m w S A f):p<h.size/\m<h.size:=⟨aA H.1,by obtain⟨_,g,a,_⟩:=H;exact a.lt⟩
theorem gQ.ext{F:Int->Int}(d:gQ h p m w S A f)(a: ∀k,F k=f k):gQ h p m w S A F:=by
 obtain⟨H,g,b,c⟩:=d;exact⟨H,g,b,λk=>by rw[a];exact c k⟩
theorem gp(a:gQ h p m w S A f)(H:R (.B true) h):Cl 85 #[.P p 0] h R:=
 xp.walk ⟨some m,au a.1,H⟩
theorem look(b:gQ h p m w S A f)(o:Int):iK Tryz.prog 85 (.map (some m)) (.I o) false h (.I (f o)):=by
 obtain⟨_,g,H,a⟩:=b;have:=CI tm H o;rw[a]at this;exact this
def may(o n:Int):Bool:=decide (1<=o) && decide (o<=1099511627776) && decide (0<=n)
def jS(o n:Int):Int:=if may o n=true then 0 else 1
theorem mS{o n:Int}:may o n=true↔1<=o/\o<=1099511627776/\0<=n:=by simp[may,and_assoc]
theorem xu(d:gQ h p m w S A f)(o n:Int)(H:R (.I (jS o n)) h):Cl 65 #[.P p 0,.I o,.I n] h R:=by
 refine yN.walk (gp d ⟨true,rfl,?_⟩);simp only[aG];unfold jS may at H;by_cases a:o<1
 .simpa[a,show¬1<=o by omega]using H
 .by_cases b:o>1099511627776
  .simpa[a,b,show¬o<=1099511627776 by omega]using H
  .by_cases c:n<0
   .simpa[a,b,c,show¬0<=n by omega]using H
   .simpa[a,b,c,show 1<=o by omega,show o<=1099511627776 by omega,show 0<=n by omega]using H
def fits(w S A:Int)(f:Int->Int)(o n:Int):Bool:=may o n && decide (n<=S - f o) && decide (n<=w - A)
def RV(w S A:Int)(f:Int->Int)(o n:Int):Int:=if may o n=true then(if fits w S A f o n=true then 0 else 15)else 1
def kJ(f:Int->Int)(o n:Int):Int->Int:=λk=>if k=o then f k+n else f k
theorem O0{o n:Int}:fits w S A f o n=true↔(1<=o/\o<=1099511627776/\0<=n)/\n<=S - f o/\n<=w - A:=by
 simp[fits,mS,and_assoc]
theorem Ok.take{o n:Int}(d:Ok w S A f)(H:fits w S A f o n=true):Ok w S (A+n) (kJ f o n):=by
 obtain⟨O,a,b,r,s,c⟩:=d;obtain⟨⟨g,i,j⟩,l,q⟩:=O0.1 H;refine⟨O,a,b,ag,ag,λk=> ?_⟩;have:=c k;unfold kJ;split
 .rename_i e;subst e;omega
 .exact this
theorem vV(H:gQ h p m w S A f)(G:Ok w S A f)(o n:Int)(x:fits w S A f o n=true->∀d,gQ d p m w S (A+n) (kJ f o n)->Fr (λc=>c=p\/c=m) h d->R (.I 0) d)(K:fits w S A f o n=false->R (.I (RV w S A f o n)) h):
  Cl 222 #[.P p 0,.I o,.I n] h R:=by
 obtain⟨P,Q,T,U,V,O⟩:=G;have X:=O o;refine xq.walk (xu H o n ⟨_,rfl,?_⟩);unfold RV at K;unfold jS;cases b:may o n with
 |false=>
  have:=K (by simp[fits,b]);simpa[b]using this
 |true=>
  have J:=mS.1 b;simp only[bm,bne_self_eq_false,ar,aQ,aG];refine⟨S,au H.1,some m,au H.1,f o,look H o,?_⟩;rw[bJ ag ag];by_cases i:n>S - f o
  .have a:fits w S A f o n=false:=by simp[fits,show¬n<=S - f o by omega]
   have:=K a;simpa[i,b,a]using this
  .simp only[i,bu,ar,aQ];refine⟨w,au H.1,A,au H.1,?_⟩;rw[bJ ag ag];by_cases j:n>w - A
   .have a:fits w S A f o n=false:=by simp[fits,show¬n<=w - A by omega]
    have:=K a;simpa[j,b,a]using this
   .have a:fits w S A f o n=true:=by simp[fits,b,show n<=S - f o by omega,show n<=w - A by omega]
    simp only[j,bu,ar,aQ];by_cases l:n>0
    .simp only[l,bF,bm];refine⟨some m,au H.1,f o,look H o,?_⟩;rw[bJ ag ag];have t:=H.ne;obtain⟨z,g,C,E⟩:=H;refine nj tm C ?_;intro I D L u;have q:=(u p t).trans z;refine⟨A,au q,?_⟩;rw[bJ ag ag];refine bk q bU ?_;intro y B M v;refine x a y ⟨B,_,D.ni (v m (fW t)),λk=> ?_⟩ (Fr.of_eq ag λc r=> ?_)
     .unfold kJ;by_cases s:k=o
      .simp[s]
      .simp[s,E]
     .rw[v c (λe=>r (.inl e)),u c (λe=>r (.inr e))]
    .have F:n=0:=ag
     simp only[l,bu,ar,aQ];refine x a h ?_ (Fr.refl _ _);subst F;rw[Int.add_zero];exact H.ext λk=>by unfold kJ;split<;>omega
theorem QT(H:gQ h p m w S A f)(d:Ok w S A f)(o n:Int)(a:R (.B (fits w S A f o n)) h):Cl 220 #[.P p 0,.I o,.I n] h R:=by
 obtain⟨e,g,i,j,k,O⟩:=d;have l:=O o;refine xr.walk (xu H o n ⟨_,rfl,?_⟩);unfold jS;unfold fits at a;cases c:may o n with
 |false=>simpa[c]using a
 |true=>
  simp only[bm,fQ];refine⟨S,au H.1,some m,au H.1,f o,look H o,?_⟩;rw[bJ ag ag];by_cases b:n<=S - f o
  .simp only[b,bF,bm];refine⟨w,au H.1,A,au H.1,?_⟩;rw[bJ ag ag];simpa[c,b]using a
  .simpa[c,b]using a
def gives(f:Int->Int)(o n:Int):Bool:=may o n && decide (n<=f o)
def RW(f:Int->Int)(o n:Int):Int:=if may o n=true then(if gives f o n=true then 0 else 7)else 1
theorem Md{o n:Int}:gives f o n=true↔(1<=o/\o<=1099511627776/\0<=n)/\n<=f o:=by simp[gives,mS,and_assoc]
theorem QU(i:gQ h p m w S A f)(U:Ok w S A f)(o n:Int)(F:gives f o n=true->∀l,gQ l p m w S (A - n) (kJ f o (-n))->Fr (λc=>c=p\/c=m) h l->R (.I 0) l)(K:gives f o n=false->R (.I (RW f o n)) h):
  Cl 41 #[.P p 0,.I o,.I n] h R:=by
 obtain⟨o1,o2,o3,o4,o5,T⟩:=U;have of:=T o;refine xt.walk (xu i o n ⟨_,rfl,?_⟩);unfold RW at K;unfold jS;cases d:may o n with
 |false=>
  have:=K (by simp[gives,d]);simpa[d]using this
 |true=>
  have V:=mS.1 d;simp only[bm,bne_self_eq_false,ar,aQ];refine⟨some m,au i.1,f o,look i o,?_⟩;by_cases y:n>f o
  .have a:gives f o n=false:=by simp[gives,show¬n<=f o by omega]
   have:=K a;simpa[y,d,a]using this
  .have a:gives f o n=true:=by simp[gives,d,show n<=f o by omega]
   simp only[y,bu,ar,aQ];have t:=i.ne;obtain⟨z,g,L,s⟩:=i;refine⟨A,au z,?_⟩;rw[bJ ag ag];refine bk z bU ?_;intro G r X u;have B:=L.ni (u m (fW t));have P:gQ G p m w S (A - n) f:=⟨r,g,B,s⟩;refine⟨some m,au r,f o,look P o,?_⟩;rw[bJ ag ag];refine nj tm B ?_;intro q C Z v;have j:=(v p t).trans r;have E:gQ q p m w S (A - n) (kJ f o (-n)):=⟨j,_,C,λk=>by
    unfold kJ;by_cases b:k=o
    .simp[b,Int.sub_eq_add_neg]
    .simp[b,s]⟩
   have J:Fr (λc=>c=p\/c=m) h q:=Fr.of_eq ag λc H=>by rw[v c (λe=>H (.inr e)),u c (λe=>H (.inl e))]
   have O:=look E o;refine⟨some m,au j,kJ f o (-n) o,O,?_⟩;simp only[aG];by_cases x:kJ f o (-n) o=0
   .simp only[x,fQ,bm];refine⟨some m,au j,?_⟩;refine xY tm C ?_;intro I M a' D;refine⟨rfl,F a I ⟨(D p t).trans j,_,M,λk=> ?_⟩ (Fr.of_eq ag λc H=> ?_)⟩
    .by_cases b:k=o
     .subst b;simp[x]
     .simp[b,s,kJ]
    .rw[D c (λe=>H (.inr e)),v c (λe=>H (.inr e)),u c (λe=>H (.inl e))]
   .have Q:(kJ f o (-n) o==0)=false:=by simpa using x
    simp only[Q,ar,aQ];exact F a q E J
def yf(w S:Int):Bool:=decide (1<=w) && decide (w<=1048576) && decide (1<=S) && decide (S<=w)
theorem Me:yf w S=true↔1<=w/\w<=1048576/\1<=S/\S<=w:=by simp[yf,and_assoc]
theorem jj(w S:Int){h:ai}(K:yf w S=true->∀H p m,gQ H p m w S 0 (λ_=>0)->h.size<=p->h.size<=m->Fr No h H->R (.T #[.P p 0,.I 0]) H)(k:yf w S=false->R (.T #[.pointer none,.I 1]) h):Cl 12 #[.I w,.I S] h R:=by
 refine Mc.walk ?_;simp only[aG];by_cases c:w<1
 .simpa only[c,bF,bm]using k (by simp[yf,show¬1<=w by omega])
 .simp only[c,bu,ar,aQ];by_cases d:w>1048576
  .simpa only[d,bF,bm]using k (by simp[yf,show¬w<=1048576 by omega])
  .simp only[d,bu,ar,aQ];by_cases e:S<1
   .simpa only[e,bF,bm]using k (by simp[yf,show¬1<=S by omega])
   .simp only[e,bu,ar,aQ];by_cases g:S>w
    .simpa only[g,bF,bm]using k (by simp[yf,show¬S<=w by omega])
    .simp only[g,bu,ar,aQ];rintro b i rfl rfl B j rfl rfl;refine K (Me.2 ag) _ _ h.size ⟨bZ,λ_=>none,?_,λ_=>rfl⟩ bU bU ?_
     .exact(nU.push h).frame (Fr.push (S:=λ_=>False) _ _) bU
     .exact(Fr.push (S:=λ_=>False) h _).trans (Fr.push (S:=λ_=>False) _ _) (λ_ _ a=>a) (λ_ _ a=>a)
end nE
end
section
namespace dK
open iB (It)
variable {l L:List It} {x:It} {o:Int}
def yw(l:List It):Int:=(l.map (λx=>(x.d.length:Int))).sum
def own(l:List It)(o:Int):Int:=yw (l.filter (λx=>decide (x.owner=o)))
theorem A7(p:l.Perm L):yw l=yw L:=by
 induction p with
 |nil=>rfl
 |cons x _ i=>unfold yw at i⊢;simp only[cb,List.sum_cons];omega
 |swap x y l=>unfold yw;simp only[cb,List.sum_cons];omega
 |trans _ _ a b=>exact a.trans b
theorem A8(p:l.Perm L):own l=own L:=funext λ_=>A7 (p.filter _)
theorem jT:yw (x::l)=x.d.length+yw l:=by unfold yw;rw[cb,List.sum_cons]
theorem nF:own (x::l) o=(if x.owner=o then(x.d.length:Int)else 0)+own l o:=by
 unfold own;rw[cu];split<;>rename_i h
 .rw[jT,af (aV h)]
 .rw[ae (λe=>h (av e))];omega
theorem I8:0<=yw l:=by
 induction l with
 |nil=>exact eh _
 |cons x l i=>rw[jT];omega
theorem I9:0<=own l o:=I8
theorem SJ(c:x∈l):(x.d.length:Int)<=own l x.owner:=by
 obtain⟨a,b,rfl⟩:=List.append_of_mem c;rw[A8 List.perm_middle,nF,af rfl];have:=I9 (l:=a++b) (o:=x.owner);omega
abbrev sZ(l:List It):Prop:=nE.Ok 4800 1600 (yw l) (own l)
theorem sZ.perm(O:sZ l)(p:l.Perm L):sZ L:=by
 unfold sZ;rw[<-A7 p,<-A8 p];exact O
theorem sZ.sub(O:sZ (x::l)):sZ l:=by
 obtain⟨a,b,c,d,e,f⟩:=O;rw[jT]at d e;have:=I8 (l:=l);refine⟨a,b,c,ag,ag,λk=>⟨I9,?_⟩⟩;have:=(f k).2;rw[nF]at this;split at this<;>omega
theorem sZ.nil:sZ []:=⟨dS,dS,dS,dS,dS,λ_=>⟨eh 0,show(0:Int)<=1600 by decide⟩⟩
theorem Ks:nE.kJ (own l) x.owner (x.d.length:Int)=own (x::l):=by
 funext k
 unfold nE.kJ;rw[nF];by_cases e:k=x.owner
 .rw[af e,af e.symm];omega
 .rw[ae e,ae (λq=>e q.symm)];omega
theorem O1:nE.kJ (own (x::l)) x.owner (-(x.d.length:Int))=own l:=by
 funext k
 unfold nE.kJ;rw[nF];by_cases e:k=x.owner
 .rw[af e,af e.symm];omega
 .rw[ae e,ae (λq=>e q.symm)];omega
def Vt(x:It):Prop:=1<=x.d.length/\x.d.length<=600/\1<=x.owner/\x.owner<=1099511627776
section
variable {h H : ai} {R : Value → ai → Prop} {p m : Nat}
abbrev Pu(h:ai)(p m:Nat)(l:List It):Prop:=nE.gQ h p m 4800 1600 (yw l) (own l)
theorem Pu.perm(a:Pu h p m l)(q:l.Perm L):Pu h p m L:=by
 unfold Pu;rw[<-A7 q,<-A8 q];exact a
theorem T8{n:Int}(b:Pu h p m (x::l))(O:sZ (x::l))(k:Vt x)(i:n=(x.d.length:Int))(d: ∀H,Pu H p m l->Fr (λc=>c=p\/c=m) h H->R (.I 0) H):
  Cl 41 #[.P p 0,.I x.owner,.I n] h R:=by
 subst i;have g:nE.gives (own (x::l)) x.owner (x.d.length:Int)=true:=nE.Md.2 ⟨⟨k.2.2.1,k.2.2.2,ag⟩,SJ bU⟩;refine nE.QU b O _ _ (λ_ H a f=>d H ?_ f) (λe=>by rw[g]at e;cases e);rw[O1,jT,show(x.d.length:Int)+yw l - x.d.length=yw l by omega]at a;exact a
end
end dK
end
section
variable {h:ai} {R:fO}
variable {t d D e c C s a F:Nat} {num T id A:Int} {b f S:ct}
theorem EF.walk(g:bf h (.C #[.B true,.Z] 90) λB H=>R (.P B 0) H):Cl 13 #[] h R:=aS [] Tryz.func13 g
theorem tb.walk (n:aG (λ(v:Bool) (H:ai)=>if v then R (.T #[.pointer none,.I 6]) H else aG (λ(o:Bool) (g:ai)=>if o then R (.T #[.pointer none,.I 4]) g else Hl g t 1 λu r _=>Bd (wrap .i64 (num - 1)) r/\aN u λm=> ∃l,aU g (m.add (toNat (wrap .i64 (num - 1))*1))=some (.pointer l)/\R (.T #[.pointer l,.I 0]) g) (λj=>if(decide (num<1))then j true H else∃q k p,Cc H t 1 (.L q k p)/\j (decide (num>((k:Nat):Int))) H)) (λJ=> ∃i,Cc h t 0 (.B i)/\J (!i) h)):Cl 67 #[.P t 0,.I num] h R:=aS [(5,.join [(6,.one (.bool))]),(11,.join [(16,.one (.bool))])] Tryz.func67 n
theorem vW.walk(l:Cl 67 #[.P t 0,.I num] h λv H=> ∃g i,v=.T #[.pointer g,.I i]/\if(i==0)then aN g λk=> ∃j,aU H (k.add 2)=some (.B j)/\R (.B j) H else R (.B false) H):Cl 68 #[.P t 0,.I num] h R:=aS [] Tryz.func68 l
theorem vX.walk(o:Hl h t 1 λp i _=> ∃(I:Int->ai->Prop)(m:Int->ai->Nat),I 0 h/\∀(g:Int)(H:ai),I g H->if(decide (g<(i:Int)))then Bd g i/\aN p λl=>zX H (l.add (toNat g*1)) λj=>aN j λn=> ∃k,aU H (n.add 1)=some (.U k)/\if(k==T)then R (.pointer j) H else(I (wrap .i64 (g+1)) H/\m (wrap .i64 (g+1)) H<m g H)else R (.pointer none) H):Cl 66 #[.P t 0,.U T] h R:=aS [(6,.loop [(12,.one (.int .i64))])] Tryz.func66 o
theorem te.walk (K:aG (λ(U:Bool) (g:ai)=>if U then R (.T #[.I 0,.I 6]) g else aG (λ(L:Bool) (i:ai)=>if L then R (.T #[.I 0,.I 1]) i else Cl 66 #[.P t 0,.U T] i λv H=> ∃n,v=.pointer n/\if(!n.isNone)then R (.T #[.I 0,.I 12]) H else∃O o M,Cc H t 1 (.L O o M)/\if(decide (((o:Nat):Int)≥8))then R (.T #[.I 0,.I 5]) H else∃Q p P,Cc H t 1 (.L Q p P)/\bf H (.C #[.I (wrap .i64 (((p:Nat):Int)+1)),.U T,.B true,.B false,.Z,.Z] 105) λB k=> ∃u r q,Cc k t 1 (.L u r q)/\bf k (.C #[.P B 0] 133) λE G=>aT Tryz.prog (Builtin.append_ #[88,88] 88 #[.L u r q,.L (Sa E 0) 1 1]) G λV I=> ∃y x w,V=.L y x w/\aJ I (AA t 1) (.L y x w) λl=> ∃z,Cc l B 0 (.I z)/\R (.T #[.I z,.I 0]) l) (λj=>if(decide (T<1))then j true g else j (decide (T>2147483648)) g)) (λJ=> ∃m,Cc h t 0 (.B m)/\J (!m) h)):Cl 42 #[.P t 0,.U T] h R:=aS [(5,.join [(7,.one (.bool))]),(11,.join [(17,.one (.bool))])] Tryz.func42 K
theorem qK.walk(q:aG (λ(r:Bool) (i:ai)=>if r then R (.T #[.I 0,.I 6]) i else Cl 66 #[.P t 0,.U T] i λv H=> ∃g,v=.pointer g/\if g.isNone then R (.T #[.I 0,.I 12]) H else aN g λn=> ∃l,aU H (n.add 2)=some (.B l)/\if l then R (.T #[.I 0,.I 7]) H else aN g λo=>aJ H (o.add 2) (.B true) λj=>aN g λp=> ∃m,aU j p=some (.I m)/\R (.T #[.I m,.I 0]) j) (λJ=> ∃k,Cc h t 0 (.B k)/\J (!k) h)):Cl 43 #[.P t 0,.U T] h R:=aS [(4,.join [(15,.one (.bool))])] Tryz.func43 q
theorem tf.walk(n:Cl 67 #[.P t 0,.I num] h λv H=> ∃g i,v=.T #[.pointer g,.I i]/\if(i !=0)then R (.I i) H else aN g λk=> ∃j,aU H (k.add 2)=some (.B j)/\if(!j)then R (.I 7) H else aN g λl=>aJ H (l.add 2) (.B false) λm=>R (.I 0) m):Cl 44 #[.P t 0,.I num] h R:=aS [] Tryz.func44 n
theorem pZ.walk(n:Hl h t 1 λp j _=> ∃(I:Int->ai->Prop)(m:Int->ai->Nat),I 0 h/\∀(g:Int)(H:ai),I g H->if(decide (g<(j:Int)))then Bd g j/\aN p λk=>zX H (k.add (toNat g*1)) λo=>aN o λl=>aJ H (l.add 2) (.B false) λi=>(I (wrap .i64 (g+1)) i/\m (wrap .i64 (g+1)) i<m g H)else R (.T #[]) H):Cl 48 #[.P t 0] h R:=aS [(6,.loop [(11,.one (.int .i64))])] Tryz.func48 n
theorem th.walk (Z:bf h (.C #[.U id] 27) λB P=>Cl 67 #[.P t 0,.I num] P λs' H=> ∃g p,s'=.T #[.pointer g,.I p]/\if(p !=0)then R (.I p) H else aG (λ(a':Bool) (l:ai)=>if a' then R (.I 1) l else aN g λE=>oL l (E.add 4) λd' c' b'=>Cl 111 #[.L d' c' b',.func (.func 112) #[] #[.P B 0]] l λt' X=>Vl t' λg' f' e'=>aN g λG=>aJ X (G.add 4) (.L g' f' e') λm=>aN g λk=>oL m (k.add 4) λu r q=>Hu m B 0 λj=>Cl 54 #[.L b d D] m λu' n=>Vl u' λj' i' h'=>Cc n B 0 (.U j)/\aU n (k.add 4)=some (.L u r q)/\bf n (.C #[.U j,.L j' i' h'] 135) λO o=>Cc o B 0 (.U j)/\aU o (k.add 4)=some (.L u r q)/\aT Tryz.prog (Builtin.append_ #[102,102] 102 #[.L u r q,.L (Sa O 0) 1 1]) o λv' w=>Vl v' λm' l' k'=>Cc w B 0 (.U j)/\aN g λI=>aJ w (I.add 4) (.L m' l' k') λi=>aN g λK=>oL i (K.add 4) λ_ n' _=>aG (λ(Q:ai)=>R (.I 0) Q) (λv=>if(decide ((n':Int)>6))then aN g λL=>oL i (L.add 4) λo' z y=>((0:Int)<=1/\1<=(z:Int))/\Cl 113 #[.L (cQ o' y (toNat 1) 2) (z - (toNat 1)) (y - (toNat 1))] i λw' U=>Vl w' λr' q' p'=>aN g λM=>aJ U (M.add 4) (.L r' q' p') λV=>v V else v i)) (λJ=> ∃x,Cc H B 0 (.U x)/\if(decide (x>1099511627776))then J true H else J (decide ((d:Int)>1000)) H)):Cl 73 #[.P t 0,.I num,.U id,.L b d D] h R:=aS [(13,.join [(21,.one (.bool))]),(22,λ_=>pN 14),(26,.join [])] Tryz.func73 Z
theorem qL.walk(i:bf h (.C #[.U A,.L f e c] 135) λB H=>Hu H B 0 λj=> ∃g,Cc H C 0 (.U g)/\R (.B (j==g)) H):Cl 112 #[.agg #[.U A,.L f e c],.P C 0] h R:=aS [] Tryz.func112 i
theorem tj.walk(w:bf h (.C #[.U id] 27) λB r=>Cl 67 #[.P t 0,.I num] r λv i=> ∃j k,v=.T #[.pointer j,.I k]/\if(k !=0)then R (.T #[.Z,.B false]) i else aN j λo=>oL i (o.add 4) λz y x=>Cl 86 #[.L z y x,.func (.func 87) #[] #[.P B 0]] i λV H=> ∃g,V=.I g/\if(decide (g<0))then R (.T #[.Z,.B false]) H else aN j λp=>oL H (p.add 4) λG E _=>Bd g E/\aN G λq=>oL H ((q.add (toNat g*2)).add 1) λK J I=>Cl 54 #[.L K J I] H λL u=> ∃n m l,L=.L n m l/\R (.T #[.L n m l,.B true]) u):Cl 69 #[.P t 0,.I num,.U id] h R:=aS [] Tryz.func69 w
theorem qM.walk(i:bf h (.C #[.U A,.L f e c] 135) λB H=>Hu H B 0 λj=> ∃g,Cc H C 0 (.U g)/\R (.B (j==g)) H):Cl 87 #[.agg #[.U A,.L f e c],.P C 0] h R:=aS [] Tryz.func87 i
theorem rV.walk{o:Bool}(m:Cl 67 #[.P t 0,.I num] h λv H=> ∃i g,v=.T #[.pointer i,.I g]/\aG (λ(k:ai)=>R (.I g) k) (λJ=>if(g==0)then aN i λj=>aJ H (j.add 3) (.B o) λl=>J l else J H)):Cl 155 #[.P t 0,.I num,.B o] h R:=aS [(7,.join [])] Tryz.func155 m
theorem yO.walk{i:ct}{B g:Nat}(H:if(decide ((B:Int)≥1))then R (.B (decide ((B:Int)<=600))) h else R (.B false) h):Cl 210 #[.L i B g] h R:=aS [] Tryz.func210 H
theorem tB.walk(O:Cl 67 #[.P t 0,.I num] h λf' o=> ∃g k,f'=.T #[.pointer g,.I k]/\if(k !=0)then R (.I k) o else Cl 210 #[.L b d D] o λg' H=> ∃r,g'=.B r/\if(!r)then R (.I 1) H else aN g λx=> ∃u,aU H (x.add 3)=some (.B u)/\if(!u)then R (.I 7) H else aN g λj=>oL H (j.add 5) λn m l=>Cl 54 #[.L b d D] H λh' p=>Vl h' λU Q P=>aU p (j.add 5)=some (.L n m l)/\bf p (.C #[.L U Q P] 33) λG q=>aU q (j.add 5)=some (.L n m l)/\aT Tryz.prog (Builtin.append_ #[103,103] 103 #[.L n m l,.L (Sa G 0) 1 1]) q λi' I=>Vl i' λZ X V=>aN g λy=>aJ I (y.add 5) (.L Z X V) λi=>aN g λz=>oL i (z.add 5) λ_ a' _=>aG (λ(K:ai)=>R (.I 0) K) (λJ=>if(decide ((a':Int)>6))then aN g λB=>oL i (B.add 5) λb' w v=>((0:Int)<=1/\1<=(w:Int))/\Cl 189 #[.L (cQ b' v (toNat 1) 1) (w - (toNat 1)) (v - (toNat 1))] i λj' L=>Vl j' λe' d' c'=>aN g λE=>aJ L (E.add 5) (.L e' d' c') λM=>J M else J i)):Cl 167 #[.P t 0,.I num,.L b d D] h R:=aS [(26,λ_=>pN 12),(30,.join [])] Tryz.func167 O
theorem tC.walk(y:Cl 67 #[.P t 0,.I num] h λv i=> ∃g j,v=.T #[.pointer g,.I j]/\aG (λ(n:Int) (H:ai)=>if(n==0)then R (.T #[.Z,.I 0,.I j]) H else aN g λo=>oL H (o.add 5) λG E _=>Bd 0 E/\aN G λp=>oL H (p.add (toNat 0*1)) λL K I=>aN g λq=>oL H (q.add 5) λM m l=>((0:Int)<=1/\1<=(m:Int))/\Cl 189 #[.L (cQ M l (toNat 1) 1) (m - (toNat 1)) (l - (toNat 1))] H λV w=>Vl V λQ P O=>aN g λr=>aJ w (r.add 5) (.L Q P O) λx=>R (.T #[.L L K I,.I n,.I 0]) x) (λJ=>if(j==0)then aN g λu=> ∃B k z,aU i (u.add 5)=some (.L B k z)/\J ((k:Nat):Int) i else J 0 i)):Cl 156 #[.P t 0,.I num] h R:=aS [(9,.join [(9,.one (.int .i64))])] Tryz.func156 y
theorem iA.vY.walk{k:Nat}(z:Cl 86 #[.L S s a,.func (.func 112) #[] #[.P k 0]] h λd' n=> ∃g,d'=.I g/\if(g==(-1))then R (.L S s a) n else∃(I:Int->Int->ai->Prop)(M:Int->Int->ai->Nat),I g (wrap .i64 (g+1)) n/\∀(i:Int)(j:Int)(H:ai),I i j H->if(decide (j<(s:Int)))then aG (λ(q:Int) (o:ai)=>(I q (wrap .i64 (j+1)) o/\M q (wrap .i64 (j+1)) o<M i j H)) (λJ=>Bd j s/\aN S λr=>cp.LD H (r.add (toNat j*2)) λG O L K=>bf H (.C #[.U 0,.Z] 135) λB v=>cp.ST v (AA B 0) G O L K λp=>cp.LD p (AA B 0) λP V U Q=>Cl 112 #[.agg #[.U P,.L V U Q],.P k 0] p λe' l=>Vb e' λX=>aG (λ(E:Int) (w:ai)=>J E w) (λm=>if(!X)then cp.LD l (AA B 0) λZ c' b' a'=>Bd i s/\aN S λu=>cp.ST l (u.add (toNat i*2)) Z c' b' a' λx=>m (wrap .i64 (i+1)) x else m i l))else((0:Int)<=i/\i<=(s:Int))/\aT Tryz.prog (Builtin.clear_ #[102] 0 #[.L (cQ S a (toNat i) 2) (s - (toNat i)) (a - (toNat i))]) H λf' y=>f'=.T #[]/\((0:Int)<=i/\i<=(a:Int))/\R (.L (cQ S a 0 2) ((toNat i) - 0) (a - 0)) y):Cl 111 #[.L S s a,.func (.func 112) #[] #[.P k 0]] h R:=aS [(16,.loop [(5,.one (.int .i64)),(6,.one (.int .i64))]),(24,.join [(5,.one (.int .i64))]),(29,.join [(5,.one (.int .i64))])] Tryz.func111 z
theorem eY.vY.walk(l: ∃(I:Int->ai->Prop)(m:Int->ai->Nat),I 0 h/\∀(g:Int)(H:ai),I g H->if(decide (g<(s:Int)))then Bd g s/\aN S λk=>cp.LD H (k.add (toNat g*2)) λn q p o=>Cl 112 #[.agg #[.U n,.L q p o],.P F 0] H λv i=> ∃j,v=.B j/\if j then R (.I g) i else(I (wrap .i64 (g+1)) i/\m (wrap .i64 (g+1)) i<m g H)else R (.I (-1)) H):Cl 86 #[.L S s a,.func (.func 112) #[] #[.P F 0]] h R:=aS [(6,.loop [(8,.one (.int .i64))])] Tryz.func86 l
theorem eY.kept.walk(l: ∃(I:Int->ai->Prop)(m:Int->ai->Nat),I 0 h/\∀(g:Int)(H:ai),I g H->if(decide (g<(s:Int)))then Bd g s/\aN S λk=>cp.LD H (k.add (toNat g*2)) λn q p o=>Cl 87 #[.agg #[.U n,.L q p o],.P F 0] H λv i=> ∃j,v=.B j/\if j then R (.I g) i else(I (wrap .i64 (g+1)) i/\m (wrap .i64 (g+1)) i<m g H)else R (.I (-1)) H):Cl 86 #[.L S s a,.func (.func 87) #[] #[.P F 0]] h R:=aS [(6,.loop [(8,.one (.int .i64))])] Tryz.func86 l
theorem iY.walk(l:if S.isNone then R (.Z) h else bf h (.C #[] 135) λB H=>aT Tryz.prog (Builtin.append_ #[102,102] 102 #[.L (Sa B 0) 0 0,.L S s a]) H λv k=> ∃j i g,v=.L j i g/\R (.L j i g) k):Cl 113 #[.L S s a] h R:=aS [] Tryz.func113 l
theorem mE.walk(l:if S.isNone then R (.Z) h else bf h (.C #[] 33) λB H=>aT Tryz.prog (Builtin.append_ #[103,103] 103 #[.L (Sa B 0) 0 0,.L S s a]) H λv k=> ∃j i g,v=.L j i g/\R (.L j i g) k):Cl 189 #[.L S s a] h R:=aS [] Tryz.func189 l

end
section
open Go.fV
namespace fu
open mi
variable {h H d:ai} {t:Nat} {X:Ft} {R:fO} {p q:ct} {c i:Nat}
structure AV where
 id:Nat
 v:BV
abbrev AV.enc(a:AV):List Value:= [.int .u64 (a.id:Int),a.v.val]
structure SC where
 b:Nat
 num:Nat
 token:Nat
 up:Bool
 watch:Bool
 kept:List AV
 kp:ct
 kc:Nat
 notes:List BV
 np:ct
 nc:Nat
structure fu where
 num:Nat
 token:Nat
 up:Bool
 watch:Bool
 kept:List (Nat×cG)
 notes:List (cG)
def AV.abs(a:AV):Nat×cG:=(a.id,a.v.b)
def SC.abs(s:SC):fu:=⟨s.num,s.token,s.up,s.watch,s.kept.map AV.abs,s.notes.map BV.b⟩
theorem vZ{b:Type}{a:List b}{i:Nat}{v:b}(h:a[i]? =some v):a.set i v=a:=by
 apply fE
 intro j;rw[dM];split
 .rename_i e;subst e;rw[af (az.1 h).1,h]
 .rfl
abbrev QV:=Nat->Option Nat
abbrev At(h:ai)(s:SC):Prop:=cI.at h s.b (s.num:Int) (s.token:Int) s.up s.watch s.kp s.kept.length s.kc s.np s.notes.length s.nc
structure Ba (h:ai) (l:QV) (D:Nat->Prop) (i:Nat) (s:SC):Prop where
 di:At h s
 lb:l s.b=some (2+3*i)
 xw:Own h s.kp s.kept.length s.kc 2 (s.kept.flatMap AV.enc)
 kl: ∀c,aP s.kp c->l c=some (3+3*i)
 Ch:Own h s.np s.notes.length s.nc 1 (s.notes.flatMap mD)
 nl: ∀c,aP s.np c->l c=some (4+3*i)
 kd: ∀a∈s.kept,a.v.ok h D
 nd: ∀n∈s.notes,n.ok h D
structure EG (h:ai) (t:Nat) (l:QV) (D:Nat->Prop) (L:List SC):Prop where
 di: ∃p c,h[t]? =some (.cells #[.bool true,.slice p L.length c] 90 (0,0))/\Own h p L.length c 1 (L.map λs=> .pointer (some ⟨s.b,0,none⟩))/\∀x,aP p x->l x=some 1
 O4:l t=some 0
 ses: ∀i s,L[i]? =some s->Ba h l D i s
 O5: ∀c r,l c=some r->c<h.size
 G0: ∀c,D c->c<h.size
 ap: ∀c r,l c=some r->¬D c
def tD(h:ai)(t:Nat)(X:Ft)(A:List fu)(B:List Nat):Prop:=
 ∃l L,EG h t l X.D L/\L.map SC.abs=A/\L.map SC.b=B/\∀c,X.M c↔ ∃r,l c=some r
def Has(h:ai)(t:Nat)(X:Ft)(A:List fu):Prop:= ∃B,tD h t X A B
variable {l : QV} {D : Nat → Prop} {L : List SC} {A : List fu}
theorem Ba.frame{Q:Nat->Prop}{s:SC}(b:Ba h l D i s)(f:Fr Q h H)(g: ∀c r,l c=some r->2+3*i<=r->r<=4+3*i->¬Q c)(j: ∀c,D c->¬Q c):Ba H l D i s:=
 ⟨f.get b.di (g _ _ b.lb ag ag),b.lb,b.xw.frame f (λc e=>g c _ (b.kl c e) ag ag),b.kl,b.Ch.frame f (λc e=>g c _ (b.nl c e) ag ag),b.nl,λa k=>(b.kd a k).frame f j,λn m=>(b.nd n m).frame f j⟩
theorem Ba.mono{j:QV}{D':Nat->Prop}{s:SC}(b:Ba h l D i s)(f: ∀c r,l c=some r->j c=some r)(g: ∀c,D c->D' c):Ba h j D' i s:=
 ⟨b.di,f _ _ b.lb,b.xw,λc e=>f c _ (b.kl c e),b.Ch,λc e=>f c _ (b.nl c e),λa k=>(b.kd a k).mono g,λn m=>(b.nd n m).mono g⟩
theorem tD.lt{B:List Nat}(a:tD h t X A B): ∀x,X.M x\/X.D x->x<h.size:=by
 obtain⟨l,L,T,_,_,b⟩:=a;rintro x (f|hd)
 .obtain⟨r,e⟩:=(b x).1 f;exact T.O5 x r e
 .exact T.G0 x hd
theorem tD.vx{B:List Nat}(a:tD h t X A B): ∀x,X.M x->¬X.D x:=by
 obtain⟨l,L,T,_,_,b⟩:=a;intro x f;obtain⟨r,e⟩:=(b x).1 f;exact T.ap x r e
theorem tD.frame{B:List Nat}{Q:Nat->Prop}(n:tD h t X A B)(f:Fr Q h H)(m: ∀x,X.M x\/X.D x->¬Q x):tD H t X A B:=by
 obtain⟨l,L,T,e,E,j⟩:=n;obtain⟨p,c,o,O,k⟩:=T.di;have g: ∀c r,l c=some r->¬Q c:=λc r a=>m c (.inl ((j c).2 ⟨r,a⟩))
 refine⟨l,L,⟨⟨p,c,f.get o (g t _ T.O4),O.frame f (λx v=>g x _ (k x v)),k⟩,T.O4,λi s u=>(T.ses i s u).frame f (λc r a _ _=>g c r a) (λc b=>m c (.inr b)),?_,?_,T.ap⟩,e,E,j⟩
 .intro c r a;exact cK (T.O5 c r a) f.1
 .intro c b;exact cK (T.G0 c b) f.1
theorem Has.lt(a:Has h t X A): ∀x,X.M x\/X.D x->x<h.size:=by obtain⟨B,a⟩:=a;exact a.lt
theorem Has.vx(a:Has h t X A): ∀x,X.M x->¬X.D x:=by obtain⟨B,a⟩:=a;exact a.vx
theorem Has.frame{Q:Nat->Prop}(a:Has h t X A)(f:Fr Q h H)(b: ∀x,X.M x\/X.D x->¬Q x):Has H t X A:=by obtain⟨B,a⟩:=a;exact⟨B,a.frame f b⟩
open Classical in
theorem EG.Ua{s s':SC}{Q E:Nat->Prop}(T:EG h t l X.D L)(C: ∀c,X.M c↔ ∃r,l c=some r)(y:L[i]? =some s)(B:s'.b=s.b)(f:Fr Q h H)(u: ∀c,Q c->∃r,l c=some r/\2+3*i<=r/\r<=4+3*i)(di:At H s')(K:Own H s'.kp s'.kept.length s'.kc 2 (s'.kept.flatMap AV.enc))(kn: ∀c,aP s'.kp c->l c=some (3+3*i)\/h.size<=c)(I:Own H s'.np s'.notes.length s'.nc 1 (s'.notes.flatMap mD))(nn: ∀c,aP s'.np c->l c=some (4+3*i)\/h.size<=c)(a': ∀c,aP s'.kp c->aP s'.np c->False)(w: ∀c,E c->l c=none/\c<H.size/\¬aP s'.kp c/\¬aP s'.np c)(Z: ∀a∈s'.kept,a.v.ok H (λc=>X.D c\/E c))(nd: ∀b'∈s'.notes,b'.ok H (λc=>X.D c\/E c)):
  ∃v,tD H t v ((L.map SC.abs).set i s'.abs) (L.map SC.b)/\Fr X.M h H/\(∀c,v.M c->X.M c\/h.size<=c)/\(∀c,v.D c->X.D c\/E c)/\∀c,X.D c->v.D c:=by
 let z:QV:=λc=>if h.size<=c/\aP s'.kp c then some (3+3*i)else if h.size<=c/\aP s'.np c then some (4+3*i)else l c
 have O: ∀c r,l c=some r->z c=some r:=λc r b=>by
  have:=T.O5 c r b;show(if h.size<=c/\aP s'.kp c then some (3+3*i)else if h.size<=c/\aP s'.np c then some (4+3*i)else l c)=some r;rw[ae (λm=>ag),ae (λm=>ag)];exact b
 have new: ∀c r,z c=some r->l c=some r\/(h.size<=c/\(aP s'.kp c\/aP s'.np c)):=λc r b=>by
  have b:(if h.size<=c/\aP s'.kp c then some (3+3*i)else if h.size<=c/\aP s'.np c then some (4+3*i)else l c)=some r:=b;split at b
  .rename_i m;exact .inr ⟨m.1,.inl m.2⟩
  .split at b
   .rename_i m;exact .inr ⟨m.1,.inr m.2⟩
   .exact .inl b
 have nb: ∀c,aP s'.kp c\/aP s'.np c->c<H.size:=λc k=>k.elim (λk=>K.dI k) (λk=>I.dI k)
 have S: ∀c,X.D c->¬Q c:=λc k n=>by obtain⟨r,b,_⟩:=u c n;exact T.ap c r b k
 obtain⟨p,M,P,e',F⟩:=T.di;have U:i<L.length:=(az.1 y).1;have c': ¬Q t:=λn=>by obtain⟨r,b,h1,g⟩:=u t n;rw[T.O4]at b;cases b;omega
 have d': ∀x,aP p x->¬Q x:=λx n V=>by obtain⟨r,b,h1,g⟩:=u x V;rw[F x n]at b;cases b;omega
 have f':(L.set i s').map (λs=>Value.P s.b 0)=L.map (λs=>Value.P s.b 0):=by
  rw[List.map_set,B];exact vZ (by rw[aL,y];rfl)
 have J:(L.set i s').map SC.b=L.map SC.b:=by
  rw[List.map_set,B];exact vZ (by rw[aL,y];rfl)
 refine⟨⟨λc=> ∃r,z c=some r,λc=>X.D c\/E c⟩,⟨z,L.set i s',⟨⟨p,M,?_,?_,λx n=>O x _ (F x n)⟩,O t 0 T.O4,?_,?_,?_,?_⟩,?_,J,λc=>ff⟩,?_,?_,λc h=>h,λc=> .inl⟩
 .rw[dQ];exact f.get P c'
 .rw[f',dQ];exact e'.frame f d'
 .intro j sj o;rw[dM]at o;by_cases e:i=j
  .subst e;rw[af rfl,af U]at o;obtain rfl:=aX o;refine⟨di,?_,K,λc k=> ?_,I,λc k=> ?_,Z,nd⟩
   .rw[B];exact O _ _ (T.ses i s y).lb
   .show(if h.size<=c/\aP s'.kp c then some (3+3*i)else if h.size<=c/\aP s'.np c then some (4+3*i)else l c)=_;rcases kn c k with h1|h1
    .have:=T.O5 c _ h1;rw[ae (λm=>ag),ae (λm=>ag)];exact h1
    .rw[af ⟨h1,k⟩]
   .show(if h.size<=c/\aP s'.kp c then some (3+3*i)else if h.size<=c/\aP s'.np c then some (4+3*i)else l c)=_;rw[ae (λm=>a' c m.2 k)];rcases nn c k with h1|h1
    .have:=T.O5 c _ h1;rw[ae (λm=>ag)];exact h1
    .rw[af ⟨h1,k⟩]
  .rw[ae e]at o;refine((T.ses j sj o).frame f (λc r b h1 g n=> ?_) S).mono O (λc=> .inl);obtain⟨r',G,h3,h4⟩:=u c n;rw[b]at G;cases G;omega
 .intro c r b;rcases new c r b with h1|⟨_,h1⟩
  .exact cK (T.O5 c r h1) f.1
  .exact nb c h1
 .rintro c (h1|h1)
  .exact cK (T.G0 c h1) f.1
  .exact(w c h1).2.1
 .rintro c r b (h1|h1)
  .rcases new c r b with g|⟨g,_⟩
   .exact T.ap c r g h1
   .have:=T.G0 c h1;omega
  .rcases new c r b with g|⟨_,g⟩
   .rw[(w c h1).1]at g;cases g
   .exact g.elim (w c h1).2.2.1 (w c h1).2.2.2
 .rw[List.map_set]
 .exact f.mono (λc _ n=>by obtain⟨r,b,_⟩:=u c n;exact(C c).2 ⟨r,b⟩)
 .rintro c ⟨r,b⟩;rcases new c r b with g|⟨g,_⟩
  .exact .inl ((C c).2 ⟨r,g⟩)
  .exact .inr g
theorem EG.QW{s s':SC}{Q E:Nat->Prop}(T:EG h t l X.D L)(k: ∀c,X.M c↔ ∃r,l c=some r)(v:L[i]? =some s)(m:s'.b=s.b)(f:Fr Q h H)(u: ∀c,Q c->∃r,l c=some r/\2+3*i<=r/\r<=4+3*i)(di:At H s')(z:Own H s'.kp s'.kept.length s'.kc 2 (s'.kept.flatMap AV.enc))(w: ∀c,aP s'.kp c->l c=some (3+3*i)\/h.size<=c)(G:Own H s'.np s'.notes.length s'.nc 1 (s'.notes.flatMap mD))(C: ∀c,aP s'.np c->l c=some (4+3*i)\/h.size<=c)(y: ∀c,aP s'.kp c->aP s'.np c->False)(e: ∀c,E c->h.size<=c/\c<H.size/\¬aP s'.kp c/\¬aP s'.np c)(K: ∀a∈s'.kept,a.v.ok H (λc=>X.D c\/E c))(B: ∀n∈s'.notes,n.ok H (λc=>X.D c\/E c)):
  ∃x,tD H t x ((L.map SC.abs).set i s'.abs) (L.map SC.b)/\bw X h x H:=by
 obtain⟨x,g,F,M,j,O⟩:=T.Ua (Q:=Q) (E:=E) k v m f u di z w G C y (λc b=>⟨by
  cases o:l c with
  |none=>rfl
  |some r=>have:=T.O5 c r o;have:=(e c b).1;omega,(e c b).2⟩) K B
 exact⟨x,g,F,M,λc b=>(j c b).imp (λh=>h) (λh=>(e c h).1),O⟩
theorem EG.flag{s s':SC}(T:EG h t l X.D L)(z: ∀c,X.M c↔ ∃r,l c=some r)(v:L[i]? =some s)(C:s'.b=s.b)(o:s'.kept=s.kept/\s'.kp=s.kp/\s'.kc=s.kc)(k:s'.notes=s.notes/\s'.np=s.np/\s'.nc=s.nc)(di:At H s')(F:H.size=h.size)(E: ∀x,x≠s.b->H[x]? =h[x]?): ∃u,tD H t u ((L.map SC.abs).set i s'.abs) (L.map SC.b)/\bw X h u H:=by
 have g:=T.ses i s v;have f:Fr (λx=>x=s.b) h H:=Fr.of_eq F E;have G: ∀c,aP s.kp c->¬c=s.b:=λc j e=>by have m:=g.kl c j;rw[e,g.lb]at m;simp at m
 have I: ∀c,aP s.np c->¬c=s.b:=λc j e=>by have m:=g.nl c j;rw[e,g.lb]at m;simp at m
 have w: ∀c,X.D c->¬c=s.b:=λc j e=>T.ap c _ (e▸g.lb) j
 refine T.QW (Q:=λx=>x=s.b) (E:=λ_=>False) z v C f (λc e=>⟨_,e▸g.lb,ag,ag⟩) di ?_ ?_ ?_ ?_ ?_ (λc j=>j.elim) ?_ ?_
 .rw[o.1,o.2.1,o.2.2];exact g.xw.frame f G
 .rw[o.2.1];exact λc j=> .inl (g.kl c j)
 .rw[k.1,k.2.1,k.2.2];exact g.Ch.frame f I
 .rw[k.2.1];exact λc j=> .inl (g.nl c j)
 .rw[o.2.1,k.2.1];exact λc m y=>by have a:=g.kl c m;have b:=g.nl c y;rw[a]at b;simp at b
 .rw[o.1];exact λa B=>((g.kd a B).frame f w).mono (λc=> .inl)
 .rw[k.1];exact λn k=>((g.nd n k).frame f w).mono (λc=> .inl)
open Classical in
theorem EG.add{s:SC}{p:ct}{c0:Nat}{Q:Nat->Prop}(T:EG h t l X.D L)(B: ∀c,X.M c↔ ∃r,l c=some r)(f:Fr Q h H)(y: ∀c,Q c->l c=some 0\/l c=some 1)(G:H[t]? =some (.C #[.B true,.L p (L.length+1) c0] 90 (0,0)))(E:Own H p (L.length+1) c0 1 (L.map (λs=> .P s.b 0)++ [.P s.b 0]))(J: ∀x,aP p x->l x=some 1\/h.size<=x)(K: ¬aP p s.b)(di:At H s)(M:h.size<=s.b)(o:s.kept= []/\s.kp=none/\s.kc=0)(u:s.notes= []/\s.np=none/\s.nc=0):
  ∃z,tD H t z (L.map SC.abs++ [s.abs]) (L.map SC.b++ [s.b])/\bw X h z H:=by
 have P:=aA di
 let v:QV:=λc=>if c=s.b then some (2+3*L.length)else if h.size<=c/\aP p c then some 1 else l c
 have O: ∀c r,l c=some r->v c=some r:=λc r b=>by
  have:=T.O5 c r b;show(if c=s.b then some (2+3*L.length)else if h.size<=c/\aP p c then some 1 else l c)=some r;rw[ae (λm=>ag),ae (λm=>ag)];exact b
 have new: ∀c r,v c=some r->l c=some r\/(h.size<=c/\(c=s.b\/aP p c)):=λc r b=>by
  have b:(if c=s.b then some (2+3*L.length)else if h.size<=c/\aP p c then some 1 else l c)=some r:=b;split at b
  .rename_i m;exact .inr ⟨ag,.inl m⟩
  .split at b
   .rename_i m;exact .inr ⟨m.1,.inr m.2⟩
   .exact .inl b
 have I: ∀c,X.D c->¬Q c:=λc C g=>(y c g).elim (λh1=>T.ap c _ h1 C) (λh1=>T.ap c _ h1 C)
 refine⟨⟨λc=> ∃r,v c=some r,X.D⟩,⟨v,L++ [s],⟨⟨p,c0,?_,?_,?_⟩,O t 0 T.O4,?_,?_,?_,?_⟩,?_,by rw[ba];rfl,λc=>ff⟩,?_,?_,λc=> .inl,λc=>id⟩
 .rw[aB];exact G
 .rw[aB,ba];exact E
 .intro x g;show(if x=s.b then some (2+3*L.length)else if h.size<=x/\aP p x then some 1 else l x)=some 1;rw[ae (λe:x=s.b=>K (e▸g))];rcases J x g with h1|h1
  .have:=T.O5 x _ h1;rw[ae (λm=>ag)];exact h1
  .rw[af ⟨h1,g⟩]
 .intro j S n;by_cases e:j<L.length
  .rw[cO e]at n;refine((T.ses j S n).frame f (λc r b h1 k g=> ?_) I).mono O (λc h=>h);rcases y c g with h3|h3
   .rw[b]at h3;cases h3;omega
   .rw[b]at h3;cases h3;omega
  .rw[cH ag]at n;have F:j=L.length:=by
    have:=(az.1 n).1;simp at this;omega
   subst F;simp at n;subst n;refine⟨di,?_,?_,?_,?_,?_,?_,?_⟩
   .show(if s.b=s.b then some (2+3*L.length)else _)=_;rw[af rfl]
   .rw[o.1,o.2.1,o.2.2];exact .nil rfl rfl rfl rfl
   .rw[o.2.1];rintro c ⟨a,e,_⟩;cases e
   .rw[u.1,u.2.1,u.2.2];exact .nil rfl rfl rfl rfl
   .rw[u.2.1];rintro c ⟨a,e,_⟩;cases e
   .rw[o.1];intro a w;cases w
   .rw[u.1];intro a w;cases w
 .intro c r b;rcases new c r b with h1|⟨_,h1|h1⟩
  .exact cK (T.O5 c r h1) f.1
  .omega
  .exact E.dI h1
 .intro c h1;exact cK (T.G0 c h1) f.1
 .intro c r b h1;rcases new c r b with k|⟨k,_⟩
  .exact T.ap c r k h1
  .have:=T.G0 c h1;omega
 .rw[ba];rfl
 .exact f.mono (λc _ g=>(B c).2 ((y c g).elim (λh1=>⟨_,h1⟩) (λh1=>⟨_,h1⟩)))
 .rintro c ⟨r,b⟩;rcases new c r b with k|⟨k,_⟩
  .exact .inl ((B c).2 ⟨r,k⟩)
  .exact .inr k
theorem tA:oC Tryz.prog 102 135 2 32 (.agg #[.U 0,.Z]):=⟨dA,dA,rfl⟩
theorem uA:Tryz.prog.underlying 102=some (.slice 135):=dA
theorem hY(a:AV):a.enc.length=2:=rfl
theorem O6(x:List AV): ∀v∈x.flatMap AV.enc,fZ v=true:=by
 intro v e;obtain⟨a,_,b⟩:=List.mem_flatMap.1 e;simp at b;rcases b with rfl|rfl<;>rfl
theorem Mf{j:List AV}{n m:Nat}(k:Row h p (j.flatMap AV.enc))(s:n=j.length)(u:j.length<=1000000000)(r: ∀P C H,Own H P j.length C 2 (j.flatMap AV.enc)->Fr No h H->(∀x,aP P x->h.size<=x)->R (.L P j.length C) H):
  Cl 113 #[.L p n m] h R:=by
 subst s;refine iY.walk ?_;cases p with
 |none=>
  have:j= []:=by
   rcases k with k|⟨a,e,_⟩
   .cases j with
    |nil=>rfl
    |cons b B=>cases k
   .cases e
  subst this;exact r none 0 h (.nil rfl rfl rfl rfl) (Fr.refl _ _) (λx ⟨a,e,_⟩=>by cases e)
 |some a=>
  simp only[hM,ar,aQ];exact wQ tA uA k (eL AV.enc 2 hY j) (O6 j) ag ag λP C H o f g=>⟨_,_,_,rfl,r P C H o f g⟩
theorem De{xs:List BV}{n m:Nat}(j:Row h p (xs.flatMap mD))(r:n=xs.length)(s:xs.length<=1000000000)(k: ∀P C H,Own H P xs.length C 1 (xs.flatMap mD)->Fr No h H->(∀x,aP P x->h.size<=x)->R (.L P xs.length C) H):
  Cl 189 #[.L p n m] h R:=by
 subst r;refine mE.walk ?_;cases p with
 |none=>
  have:xs= []:=by
   rcases j with j|⟨a,e,_⟩
   .cases xs with
    |nil=>rfl
    |cons b B=>cases j
   .cases e
  subst this;exact k none 0 h (.nil rfl rfl rfl rfl) (Fr.refl _ _) (λx ⟨a,e,_⟩=>by cases e)
 |some a=>
  simp only[hM,ar,aQ];exact wQ tN uN j (eL mD 1 nB xs) (OS xs) ag ag λP C H o f g=>⟨_,_,_,rfl,k P C H o f g⟩
abbrev rW(h:ai)(b:Nat)(id:Nat):Prop:=h[b]? =some (.cells #[.int .u64 (id:Int)] 27 (0,0))
def yP(x:List AV)(id:Nat):Int:=match x.findIdx? (λa=>decide (a.id=id))with|some k=>(k:Int)|none=> -1
theorem G1{b id:Nat}(a:AV)(hid:rW h b id)(k: hH h R (.B (decide (a.id=id)))):Cl 112 #[.agg #[.U (a.id:Int),a.v.val],.P b 0] h R:=by
 refine qL.walk (cp.box λB g E j f=>⟨_,au j,_,au (f.get hid (λx=>x)),?_⟩);have e:((a.id:Int)==(id:Int))=decide (a.id=id):=by
  by_cases q:a.id=id
  .simp[q]
  .have: ¬(a.id:Int)=(id:Int):=ag
   simp[q,this]
 rw[e];exact k g f
theorem Ja{f:List AV}{n m b id:Nat}(G:Row h p (f.flatMap AV.enc))(E:n=f.length)(M:f.length<=1000000000)(hid:rW h b id)(o: hH h R (.I (yP f id))):
  Cl 86 #[.L p n m,.func (.func 112) #[] #[.P b 0]] h R:=by
 subst E;refine eY.vY.walk ?_;refine⟨λi H=>Fr No h H/\∃k:Nat,i=(k:Int)/\k<=f.length/\∀j (g:j<f.length),j<k->f[j].id≠id,λi _=>f.length - i.toNat,⟨Fr.refl _ _,0,rfl,ag,λj _ g=>ag⟩,?_⟩;rintro _ u ⟨F,k,rfl,K,r⟩;have y:=G.frame F (λ_ _ x=>x);have C:rW u b id:=F.get hid (λx=>x);by_cases w:k<f.length
 .have Q:(k:Int)<(f.length:Int):=ag
  simp only[Q,bF,bm,aH];have I:f[k]? =some f[k]:=aj w;obtain⟨a,rfl⟩:=y.some (λe=>by have:=cf List.length e;rw[eL AV.enc 2 hY,bG]at this;omega);refine⟨⟨ag,by first|trivial|omega⟩,ax.2 (cp.DZ (y.gB hY I) ?_)⟩;refine G1 f[k] C λz s=>⟨_,rfl,?_⟩
  by_cases e:f[k].id=id
  .simp only[e,bF,bm];have:yP f id=(k:Int):=by
    unfold yP;have:f.findIdx? (λa=>decide (a.id=id))=some k:=by
     rw[cj];exact⟨w,cR e,λj g=>by simpa using r j ag g⟩
    rw[this]
   rw[this]at o;exact o z (F.tt s)
  .simp only[e,bu,ar,aQ];rw[bJ ag ag];refine⟨⟨F.tt s,k+1,ag,ag,λj g J=> ?_⟩,?_⟩
   .by_cases q:j=k
    .subst q;exact e
    .exact r j g ag
   .show f.length - Int.toNat ((k:Int)+1)<f.length - Int.toNat (k:Int);omega
 .have Q: ¬(k:Int)<(f.length:Int):=ag
  simp only[Q,bu,ar,aQ];have:yP f id= -1:=by
   unfold yP;have:f.findIdx? (λa=>decide (a.id=id))=none:=by
    rw[dh];intro a B;obtain⟨j,g⟩:=bL B;have v:=(az.1 g).1;rw[aj v]at g;obtain rfl:=aX g;simpa using r j v ag
   rw[this]
  rw[this]at o;exact o u F
theorem O7{b id:Nat}(a:AV)(hid:rW h b id)(k: hH h R (.B (decide (a.id=id)))):Cl 87 #[.agg #[.U (a.id:Int),a.v.val],.P b 0] h R:=by
 refine qM.walk (cp.box λB g E j f=>⟨_,au j,_,au (f.get hid (λx=>x)),?_⟩);have e:((a.id:Int)==(id:Int))=decide (a.id=id):=by
  by_cases q:a.id=id
  .simp[q]
  .have: ¬(a.id:Int)=(id:Int):=ag
   simp[q,this]
 rw[e];exact k g f
theorem Jb{f:List AV}{n m b id:Nat}(G:Row h p (f.flatMap AV.enc))(E:n=f.length)(M:f.length<=1000000000)(hid:rW h b id)(o: hH h R (.I (yP f id))):
  Cl 86 #[.L p n m,.func (.func 87) #[] #[.P b 0]] h R:=by
 subst E;refine eY.kept.walk ?_;refine⟨λi H=>Fr No h H/\∃k:Nat,i=(k:Int)/\k<=f.length/\∀j (g:j<f.length),j<k->f[j].id≠id,λi _=>f.length - i.toNat,⟨Fr.refl _ _,0,rfl,ag,λj _ g=>ag⟩,?_⟩;rintro _ u ⟨F,k,rfl,K,r⟩;have y:=G.frame F (λ_ _ x=>x);have C:rW u b id:=F.get hid (λx=>x);by_cases w:k<f.length
 .have Q:(k:Int)<(f.length:Int):=ag
  simp only[Q,bF,bm,aH];have I:f[k]? =some f[k]:=aj w;obtain⟨a,rfl⟩:=y.some (λe=>by have:=cf List.length e;rw[eL AV.enc 2 hY,bG]at this;omega);refine⟨⟨ag,by first|trivial|omega⟩,ax.2 (cp.DZ (y.gB hY I) ?_)⟩;refine O7 f[k] C λz s=>⟨_,rfl,?_⟩
  by_cases e:f[k].id=id
  .simp only[e,bF,bm];have:yP f id=(k:Int):=by
    unfold yP;have:f.findIdx? (λa=>decide (a.id=id))=some k:=by
     rw[cj];exact⟨w,cR e,λj g=>by simpa using r j ag g⟩
    rw[this]
   rw[this]at o;exact o z (F.tt s)
  .simp only[e,bu,ar,aQ];rw[bJ ag ag];refine⟨⟨F.tt s,k+1,ag,ag,λj g J=> ?_⟩,?_⟩
   .by_cases q:j=k
    .subst q;exact e
    .exact r j g ag
   .show f.length - Int.toNat ((k:Int)+1)<f.length - Int.toNat (k:Int);omega
 .have Q: ¬(k:Int)<(f.length:Int):=ag
  simp only[Q,bu,ar,aQ];have:yP f id= -1:=by
   unfold yP;have:f.findIdx? (λa=>decide (a.id=id))=none:=by
    rw[dh];intro a B;obtain⟨j,g⟩:=bL B;have v:=(az.1 g).1;rw[aj v]at g;obtain rfl:=aX g;simpa using r j v ag
   rw[this]
  rw[this]at o;exact o u F
def qJ(d:ai)(p:ct)(cap b id:Nat)(e:List AV)(i j:Int)(h:ai):Prop:=
 ∃(a k:Nat)(z:List AV),i=(a:Int)/\j=(k:Int)/\a<k/\k<=e.length/\z.length=e.length/\z.take a=(e.take k).filter (λx=>decide (x.id≠id))/\z.drop k=e.drop k/\Own h p e.length cap 2 (z.flatMap AV.enc)/\Fr (aP p) d h/\rW h b id
theorem Jc{f:List AV}{cap b id k':Nat}(O:Own h p f.length cap 2 (f.flatMap AV.enc))(hn:k'=f.length)(hl:f.length<=1000000000)(hid:rW h b id)(hb: ¬aP p b)(n: ∀H,Own H p (f.filter (λx=>decide (x.id≠id))).length cap 2 ((f.filter (λx=>decide (x.id≠id))).flatMap AV.enc)->Fr (aP p) h H->rW H b id->R (.slice p (f.filter (λx=>decide (x.id≠id))).length cap) H):
  Cl 111 #[.L p k' cap,.func (.func 112) #[] #[.P b 0]] h R:=by
 subst hn;refine iA.vY.walk (Ja O.iz rfl hl hid λu F=>⟨_,rfl,?_⟩);have I:=O.frame F (λ_ _ x=>x);have y:rW u b id:=F.get hid (λx=>x);have r:Fr (aP p) h u:=F.mono (λ_ _=>False.elim);unfold yP;cases w:f.findIdx? (λa=>decide (a.id=id))with
 |none=>
  rw[af (by rfl)];have r':f.filter (λx=>decide (x.id≠id))=f:=by
   rw[cz];intro a v;have:=dh.1 w a v;simpa using this
  rw[r']at n;exact n u I r y
 |some k=>
  dsimp only;rw[ae (by simp only[df];omega)];obtain⟨g',C,f'⟩:=cj.1 w;rw[bJ ag ag];have h':(f.take (k+1)).filter (λx=>decide (x.id≠id))=f.take k:=by
   rw[bO,aj g',gg];have e1:(f.take k).filter (λx=>decide (x.id≠id))=f.take k:=by
    rw[cz];intro a v;obtain⟨j,g⟩:=bL v;rw[cZ]at g;split at g
    .rename_i t';have B:j<f.length:=ag
     rw[aj B]at g;obtain rfl:=aX g;simpa using f' j t'
    .cases g
   have e2: [f[k]].filter (λx=>decide (x.id≠id))= []:=by
    simp at C;simp[C]
   rw[e1];show f.take k++ [f[k]].filter (λx=>decide (x.id≠id))=_;rw[e2,List.append_nil]
  refine⟨qJ h p cap b id f,λ_ j _=>f.length - j.toNat,⟨k,k+1,f,rfl,ag,ag,ag,rfl,h'.symm,rfl,I,r,y⟩,?_⟩;clear I y r F h' f' C g' w;rintro _ _ h2 ⟨a,j,z,rfl,rfl,B',C',j',m,G,o,J,c'⟩;by_cases B:j<f.length
  .have Q:(j:Int)<(f.length:Int):=ag
   simp only[Q,bF,bm,aH];have i':f[j]? =some f[j]:=aj B;have v':z[j]? =some f[j]:=by
    have:=cf (·[0]?) G;simpa[i']using this
   have E:(f.take (j+1)).filter (λx=>decide (x.id≠id))=(f.take j).filter (λx=>decide (x.id≠id))++if f[j].id=id then []else [f[j]]:=by
    rw[bO,i',gg];congr 1
    by_cases e:f[j].id=id<;>simp[e]
   generalize f[j]=x at*;obtain⟨ab,o',rfl⟩:=o.addr ag;refine aG.of λz' V=>⟨⟨ag,by first|trivial|omega⟩,ax.2 (cp.DZ (o.gB hY v') (cp.new λb6 h6 A' a' T=>cp.ld a' ?_))⟩
   have d':rW h6 b id:=T.get c' (λx=>x);refine G1 x d' λU s=>⟨_,rfl,?_⟩
   have P:=T.tt s;have n':=o.frame P (λ_ _ x=>x);have e':rW U b id:=s.get d' (λx=>x);have K:=J.on P;refine aG.of λJ1 q'=> ?_
   subst q';by_cases e:x.id=id
   .simp only[e,bF,cX,ar,aQ];subst V;rw[bJ ag ag];rw[af e,List.append_nil]at E;refine⟨⟨a,j+1,z,rfl,ag,ag,ag,j',by rw[E];exact m,?_,n',K,e'⟩,?_⟩
    .have:=cf (List.drop 1) G;rw[List.drop_drop,List.drop_drop]at this;exact this
    .show f.length - Int.toNat ((j:Int)+1)<f.length - Int.toNat (j:Int);omega
   .simp only[e,bu,dZ,bm];have s':=s.get a' (λx=>x);rw[ae e]at E;refine cp.ld s' ⟨⟨ag,by first|trivial|omega⟩,ax.2 ?_⟩;have Z:a<z.length:=ag
    have b':=eL AV.enc 2 hY z;refine n'.store (by rw[b'];omega) λh9 x' s9 o9=> ?_
    rw[add_add];refine x'.store (by rw[dQ,b'];omega) λp' l' y' w'=> ?_
    rw[K9 hY Z rfl]at l';subst V;rw[bJ ag ag,bJ ag ag];have M:Fr (aP (Sa ab o')) U p':=(Fr.of_eq s9 o9).tt (Fr.of_eq y' w');refine⟨⟨a+1,j+1,z.set a x,ag,ag,ag,ag,by rw[dQ];exact j',?_,?_,l',K.tt M,M.get e' hb⟩,?_⟩
    .rw[E,<-m,bO,dM,af rfl,af Z,List.take_set_of_le (bp a)];rfl
    .rw[List.drop_set_of_lt ag];have:=cf (List.drop 1) G;rw[List.drop_drop,List.drop_drop]at this;exact this
    .show f.length - Int.toNat ((j:Int)+1)<f.length - Int.toNat (j:Int);omega
  .have Q: ¬(j:Int)<(f.length:Int):=ag
   simp only[Q,bu,ar,aQ];obtain rfl:j=f.length:=ag
   rw[fv]at m;have u':(f.filter (λx=>decide (x.id≠id))).length=a:=by rw[<-m,bA];omega
   refine⟨ag,?_⟩;simp only[aH];refine CL tA (by intro D' hv;simp[Value.cells]at hv;rcases hv with rfl|rfl<;>rfl) o ag λh3 m' S=>⟨rfl,⟨ag,bW O.le⟩,?_⟩
   rw[kH AV.enc 2 hY,m]at m';rw[kG,Nat.sub_zero,Nat.sub_zero];rw[u']at n;exact n h3 m' (J.tt S) (S.get c' hb)
end fu
end
section
namespace fu
variable {A:List fu} {num:Int} {s S:fu} {i:Nat} {d:cG}
structure sw (i:Nat) (s:fu):Prop where
 num:s.num=i+1
 tk:1<=s.token/\s.token<=2147483648
 kl:s.kept.length<=6
 nl:s.notes.length<=6
 kd: ∀a∈s.kept,a.1<=1099511627776/\a.2.length<=1000
 nd: ∀n∈s.notes,1<=n.length/\n.length<=600
 ki:(s.kept.map (·.1)).Nodup
structure mT (A:List fu):Prop where
 le:A.length<=8
 at_: ∀i s,A[i]? =some s->sw i s
 tk:(A.map (·.token)).Nodup
def nV(A:List fu)(num:Int):Option fu:=if 1<=num then A[(num - 1).toNat]? else none
theorem Df(h:nV A num=some s): ∃i:Nat,num=(i:Int)+1/\A[i]? =some s:=by
 unfold nV at h;split at h
 .exact⟨(num - 1).toNat,ag,h⟩
 .cases h
theorem qa :nV A ((i:Int)+1)=A[i]? :=by
 unfold nV;rw[gi,show((i:Int)+1 - 1).toNat=i by omega]
theorem lQ(h:num<1\/num>(A.length:Int)):nV A num=none:=by
 unfold nV;split
 .rw[cV ag]
 .rfl
def lR(A:List fu)(num:Int)(s:fu):List fu:=A.set (num - 1).toNat s
def SK(A:List fu)(num:Int):Bool:=match nV A num with|some s=>s.up|none=>false
def G2(A:List fu)(t:Nat):Bool:=A.any λs=>decide (s.token=t)
def pn(A:List fu)(t:Nat):Int:=if t<1\/t>2147483648 then 1 else if G2 A t=true then 12 else if A.length≥8 then 5 else 0
def G3(A:List fu)(t:Nat):Int:=if pn A t=0 then(A.length:Int)+1 else 0
def wa(A:List fu)(t:Nat):List fu:=if pn A t=0 then A++ [⟨A.length+1,t,true,false, [], []⟩]else A
def SM(A:List fu)(t:Nat):Int:=match A.findIdx? (λs=>decide (s.token=t))with|none=>12|some i=>match A[i]? with|some s=>if s.up=true then 7 else 0|none=>12
def O8(A:List fu)(t:Nat):Int:=match A.findIdx? (λs=>decide (s.token=t))with|none=>0|some i=>match A[i]? with|some s=>if s.up=true then 0 else(s.num:Int)|none=>0
def Mh(A:List fu)(t:Nat):List fu:=match A.findIdx? (λs=>decide (s.token=t))with|none=>A|some i=>match A[i]? with|some s=>if s.up=true then A else A.set i { s with up:=true } |none=>A
def O9(A:List fu)(num:Int):Int:=match nV A num with|none=>4|some s=>if s.up=true then 0 else 7
def Dg(A:List fu)(num:Int):List fu:=match nV A num with|none=>A|some s=>if s.up=true then lR A num { s with up:=false } else A
def nG(A:List fu):List fu:=A.map λs=> { s with up:=false }
def yg(k:List (Nat×cG))(id:Nat)(d:cG):List (Nat×cG):=
 if(k.filter (λa=>decide (a.1≠id))++ [(id,d)]).length>6 then(k.filter (λa=>decide (a.1≠id))++ [(id,d)]).drop 1 else k.filter (λa=>decide (a.1≠id))++ [(id,d)]
def Pa(A:List fu)(num:Int)(id:Nat)(d:cG):Int:=match nV A num with|none=>4|some _=>if id>1099511627776\/d.length>1000 then 1 else 0
def Bb(A:List fu)(num:Int)(id:Nat)(d:cG):List fu:=match nV A num with|none=>A|some s=>if id>1099511627776\/d.length>1000 then A else lR A num { s with kept:=yg s.kept id d }
def Kt(k:List (Nat×cG))(id:Nat):Option (cG):=(k.find? (λa=>decide (a.1=id))).map (·.2)
def Dh(A:List fu)(num:Int)(id:Nat):Option (cG):=match nV A num with|none=>none|some s=>Kt s.kept id
def xx(A:List fu)(num:Int):Int:=match nV A num with|none=>4|some _=>0
def kh(A:List fu)(num:Int)(o:Bool):List fu:=match nV A num with|none=>A|some s=>lR A num { s with watch:=o }
def sK(d:cG):Bool:=decide (1<=d.length/\d.length<=600)
def Di(A:List fu)(num:Int)(d:cG):Int:=match nV A num with|none=>4|some s=>if sK d=true then(if s.watch=true then 0 else 7)else 1
def Dj(l:List (cG))(d:cG):List (cG):=if(l++ [d]).length>6 then(l++ [d]).drop 1 else l++ [d]
def Be(A:List fu)(num:Int)(d:cG):List fu:=match nV A num with|none=>A|some s=>if sK d=true/\s.watch=true then lR A num { s with notes:=Dj s.notes d } else A
def Pb(A:List fu)(num:Int):Int:=match nV A num with|none=>4|some _=>0
def Ku(A:List fu)(num:Int):Int:=match nV A num with|none=>0|some s=>(s.notes.length:Int)
def Dk(A:List fu)(num:Int):cG:=match nV A num with|none=> []|some s=>s.notes.headD []
def Dm(A:List fu)(num:Int):List fu:=match nV A num with|none=>A|some s=>lR A num { s with notes:=s.notes.drop 1 }
theorem mT.set(o:mT A)(H:A[i]? =some s)(c:S.token=s.token)(a:sw i S):mT (A.set i S):=by
 have b:=(az.1 H).1;refine⟨by rw[dQ];exact o.le,λj u h=> ?_,?_⟩
 .rw[dM]at h;by_cases e:i=j
  .subst e;rw[af rfl,af b]at h;obtain rfl:=aX h;exact a
  .rw[ae e]at h;exact o.at_ j u h
 .rw[List.map_set,c,vZ (by rw[aL,H];rfl)];exact o.tk
theorem mT.lR(o:mT A)(a:nV A num=some s)(b:S.token=s.token)(H: ∀i,sw i s->sw i S):mT (lR A num S):=by
 obtain⟨i,rfl,h⟩:=Df a;unfold fu.lR;rw[show((i:Int)+1 - 1).toNat=i by omega];exact o.set h b (H i (o.at_ i s h))
theorem mT.open(o:mT A)(t:Nat):mT (wa A t):=by
 unfold wa;split
 .rename_i h;unfold pn at h;split at h
  .cases h
  rename_i l;split at h
  .cases h
  rename_i f;split at h
  .cases h
  rename_i m;refine⟨by rw[aB,dL];omega,λj u H=> ?_,?_⟩
  .by_cases e:j<A.length
   .rw[cO e]at H;exact o.at_ j u H
   .rw[cH ag]at H;have E:j=A.length:=by
     have:=(az.1 H).1;simp at this;omega
    subst E;simp at H;subst H;exact⟨rfl,by show 1<=t/\t<=2147483648;omega,bU,bU,bU,bU,bU⟩
  .rw[ba,fh];refine⟨o.tk,bU,λa g b c e=> ?_⟩;simp at c;subst c;subst e;apply f
   unfold G2;rw[List.any_eq_true];obtain⟨s,k,e⟩:=bt.1 g;exact⟨s,k,cR e⟩
 .exact o
theorem mT.res(O:mT A)(t:Nat):mT (Mh A t):=by
 unfold Mh;split
 .exact O
 .split
  .rename_i s h;split
   .exact O
   .have o:=O.at_ _ s h;exact O.set h rfl ⟨o.num,o.tk,o.kl,o.nl,o.kd,o.nd,o.ki⟩
  .exact O
theorem mT.down(O:mT A)(num:Int):mT (Dg A num):=by
 unfold Dg;split
 .exact O
 .rename_i s h;split
  .exact O.lR h rfl λi o=>⟨o.num,o.tk,o.kl,o.nl,o.kd,o.nd,o.ki⟩
  .exact O
theorem mT.QX(O:mT A):mT (nG A):=by
 unfold nG;refine⟨by rw[aD];exact O.le,λj u h=> ?_,by rw[dT];exact O.tk⟩;rw[aL]at h;cases H:A[j]? with
 |none=>rw[H]at h;cases h
 |some s=>
  rw[H]at h;simp at h;subst h;have o:=O.at_ j s H;exact⟨o.num,o.tk,o.kl,o.nl,o.kd,o.nd,o.ki⟩
theorem Pc{k:List (Nat×cG)}{id:Nat}(n:k.length<=6)(j: ∀a∈k,a.1<=1099511627776/\a.2.length<=1000)(l:(k.map (·.1)).Nodup)(f:id<=1099511627776)(g:d.length<=1000):
  (yg k id d).length<=6/\(∀a∈yg k id d,a.1<=1099511627776/\a.2.length<=1000)/\((yg k id d).map (·.1)).Nodup:=by
 have o:(k.filter (λa=>decide (a.1≠id))++ [(id,d)]).length<=7:=by
  have:=cM (λa=>decide (a.1≠id)) k;rw[aB,dL];omega
 have h: ∀a∈k.filter (λa=>decide (a.1≠id))++ [(id,d)],a.1<=1099511627776/\a.2.length<=1000:=by
  intro a ha;rcases bH.1 ha with ha|ha
  .exact j a (bj.1 ha).1
  .simp at ha;subst ha;exact⟨f,g⟩
 have c:((k.filter (λa=>decide (a.1≠id))++ [(id,d)]).map (·.1)).Nodup:=by
  rw[ba,fh];refine⟨(cU.map _).nodup l,bU,λa ha b H e=> ?_⟩;simp at H;subst H;subst e;obtain⟨x,m,e⟩:=bt.1 ha;have:=(bj.1 m).2;simp at this;exact this e
 unfold yg;split
 .refine⟨by rw[bN];omega,λa ha=>h a (gl ha),?_⟩;rw[List.map_drop];exact(List.drop_sublist _ _).nodup c
 .exact⟨ag,h,c⟩
theorem mT.vY(O:mT A)(num:Int)(id:Nat)(d:cG):mT (Bb A num id d):=by
 unfold Bb;split
 .exact O
 .rename_i s h;split
  .exact O
  .rename_i H;refine O.lR h rfl λi o=> ?_
   obtain⟨k,K,a⟩:=Pc (id:=id) (d:=d) o.kl o.kd o.ki ag ag;exact⟨o.num,o.tk,k,o.nl,K,o.nd,a⟩
theorem mT.watch(O:mT A)(num:Int)(a:Bool):mT (kh A num a):=by
 unfold kh;split
 .exact O
 .rename_i s h;exact O.lR h rfl λi o=>⟨o.num,o.tk,o.kl,o.nl,o.kd,o.nd,o.ki⟩
theorem Pd{l:List (cG)}(b:l.length<=6)(a: ∀n∈l,1<=n.length/\n.length<=600)(H:1<=d.length/\d.length<=600):(Dj l d).length<=6/\∀n∈Dj l d,1<=n.length/\n.length<=600:=by
 have h: ∀n∈l++ [d],1<=n.length/\n.length<=600:=by
  intro n hn;rcases bH.1 hn with hn|hn
  .exact a n hn
  .simp at hn;subst hn;exact H
 unfold Dj;split
 .exact⟨by rw[bN,aB,dL];omega,λn hn=>h n (gl hn)⟩
 .exact⟨ag,h⟩
theorem mT.note(O:mT A)(num:Int)(d:cG):mT (Be A num d):=by
 unfold Be;split
 .exact O
 .rename_i s a;split
  .rename_i H;have h:1<=d.length/\d.length<=600:=by have:=H.1;unfold sK at this;simpa using this
   refine O.lR a rfl λi o=> ?_
   obtain⟨k,K⟩:=Pd o.nl o.nd h;exact⟨o.num,o.tk,o.kl,k,o.kd,K,o.ki⟩
  .exact O
theorem mT.read(O:mT A)(num:Int):mT (Dm A num):=by
 unfold Dm;split
 .exact O
 .rename_i s H;refine O.lR H rfl λi o=>⟨o.num,o.tk,o.kl,?_,o.kd,λn h=>o.nd n (gl h),o.ki⟩
  have:=o.nl;rw[bN];omega
theorem mT.nil:mT []:=⟨bU,bU,bU⟩

end fu
end
section
open Go.fV
namespace fu
open mi
variable {h H:ai} {t:Nat} {X:Ft} {R:fO} {p q:ct} {c i:Nat} {l:QV} {D:Nat→Prop} {L:List SC} {A:List fu}
variable {num:Int} {k:Nat}
theorem tP:oC Tryz.prog 88 133 1 8 (.pointer none):=⟨dA,dA,rfl⟩
theorem uP:Tryz.prog.underlying 88=some (.slice 133):=dA
theorem jj(d: ∀H t X,Has H t X []->Fr No h H->(∀x,X.M x\/X.D x->h.size<=x)->R (.P t 0) H):Cl 13 #[] h R:=by
 refine EF.walk (cT ?_);refine d _ _ ⟨λx=>x=h.size,λ_=>False⟩ ⟨[],λx=>if x=h.size then some 0 else none, [],⟨⟨none,0,bZ,.nil rfl rfl rfl rfl,λx ⟨a,e,_⟩=>by cases e⟩,bU,λi s f=>by simp at f,?_,λ_ h=>h.elim,λ_ _ _ h=>h⟩,rfl,rfl,?_⟩ (Fr.push _ _) (λx g=>g.elim (λe=>by have e:x=h.size:=e;omega) False.elim)
 .intro x r b;split at b
  .rename_i e;rw[cY];omega
  .cases b
 .intro x;constructor
  .intro e;have e:x=h.size:=e;exact⟨0,by simp[e]⟩
  .rintro⟨r,b⟩;dsimp only at b;split at b
   .assumption
   .cases b
theorem ic(T:EG h t l D L)(m: ∀i s,num=((i:Nat):Int)+1->L[i]? =some s->R (.T #[.P s.b 0,.I 0]) h)(K:(num<1\/num>(L.length:Int))->R (.T #[.pointer none,.I 4]) h)(u:L.length<=1000000):
  Cl 67 #[.P t 0,.I num] h R:=by
 obtain⟨p,c,f,o,v⟩:=T.di;refine tb.walk (aG.of λJ a=>⟨true,au f,?_⟩);subst a;simp only[cX,ar,aQ];refine aG.of λJ a=> ?_
 by_cases b:num<1
 .simp only[b,bF,bm];subst a;simp only[bm];exact K (.inl b)
 .simp only[b,bu,ar,aQ];refine⟨_,_,_,au f,?_⟩;by_cases d:num>(L.length:Int)
  .simp only[d,bF];subst a;simp only[bm];exact K (.inr d)
  .simp only[d,bu];subst a;simp only[ar,aQ];obtain⟨i,rfl⟩: ∃i:Nat,num=(i:Int)+1:=⟨(num - 1).toNat,ag⟩;have j:i<L.length:=ag
   have g:L[i]? =some L[i]:=aj j;obtain⟨n,r,rfl⟩:=o.addr ag;have e:IntKind.wrap .i64 ((i:Int)+1 - 1)=(i:Int):=by rw[bJ ag ag];omega
   rw[e];refine⟨_,_,_,au f,ag,ax.2 ⟨_,?_,m i _ rfl g⟩⟩;rw[aH,cE];exact o.cell (by rw[aL,g];rfl)
theorem wc{k:Int}(T:Nat)(w:k=(T:Int))(g:EG h t l D L)(F:L.length<=1000000)(K: ∀i s,L[i]? =some s->s.token=T->L.findIdx? (λs=>decide (s.token=T))=some i->R (.P s.b 0) h)(x:L.findIdx? (λs=>decide (s.token=T))=none->R (.pointer none) h):Cl 66 #[.P t 0,.U k] h R:=by
 subst w;obtain⟨p,c,v,o,G⟩:=g.di;refine vX.walk ⟨_,_,_,au v,?_⟩;refine⟨λi H=>H=h/\∃k:Nat,i=(k:Int)/\k<=L.length/\∀j (b:j<L.length),j<k->L[j].token≠T,λi _=>L.length - i.toNat,⟨rfl,0,rfl,ag,λj _ b=>ag⟩,?_⟩;rintro _ B ⟨rfl,k,rfl,E,d⟩;by_cases n:k<L.length
 .have Q:(k:Int)<(L.length:Int):=ag
  simp only[Q,bF,bm,aH];have f:L[k]? =some L[k]:=aj n;obtain⟨y,z,rfl⟩:=o.addr ag;have u:=(g.ses k _ f).di;refine⟨⟨ag,by first|trivial|omega⟩,ax.2 ⟨some ⟨L[k].b,0,none⟩,?_,ax.2 ⟨_,au u,?_⟩⟩⟩
  .rw[cE];exact o.cell (by rw[aL,f];rfl)
  by_cases e:L[k].token=T
  .rw[af (by rw[e];simp)];refine K k _ f e ?_;rw[cj];exact⟨n,cR e,λj b=>by simpa using d j ag b⟩
  .rw[ae (by simp only[df];omega)];rw[bJ ag ag];refine⟨⟨trivial,k+1,ag,ag,λj b C=> ?_⟩,?_⟩
   .by_cases q:j=k
    .subst q;exact e
    .exact d j b ag
   .show L.length - Int.toNat ((k:Int)+1)<L.length - Int.toNat (k:Int);omega
 .have Q: ¬(k:Int)<(L.length:Int):=ag
  simp only[Q,bu,ar,aQ];refine x ?_;rw[dh];intro a r;obtain⟨j,b⟩:=bL r;have m:=(az.1 b).1;rw[aj m]at b;obtain rfl:=aX b;simpa using d j m ag
theorem kz{s:SC}(a:L[i]? =some s):(L.map SC.abs)[i]? =some s.abs:=by rw[aL,a];rfl
theorem Pe(T:Nat):(L.map SC.abs).findIdx? (λs=>decide (s.token=T))=L.findIdx? (λs=>decide (s.token=T)):=by
 rw[List.findIdx?_map];rfl
theorem AU(d:Has h t X A)(o:mT A)(a:R (.B (SK A num)) h):Cl 68 #[.P t 0,.I num] h R:=by
 obtain⟨_,l,L,T,rfl,_,j⟩:=d;have f:=o.le;rw[aD]at f;unfold SK at a;refine vW.walk (ic T (λi s e b=>⟨_,_,rfl,?_⟩) (λg=>⟨_,_,rfl,?_⟩) ag)
 .rw[af (by rfl)];subst e;rw[qa,kz b]at a;exact ax.2 ⟨_,cB (T.ses i s b).di rfl,a⟩
 .rw[ae bU];rw[lQ (by rw[aD];exact g)]at a;exact a
theorem zu{k : Int}(T : Nat)(b' : k = (T : Int))(z : Has h t X A)(ok : mT A)(a : ∀ H n, Has H t n (wa A T) → bw X h n H → R (.tuple #[.int .i64 (G3 A T), .int .i64 (pn A T)]) H):
    Cl 42 #[.pointer (some ⟨t, 0, none⟩), .int .u64 k] h R := by
  subst b'
  have o := z
  obtain ⟨_, l, L, g, rfl, _, hS⟩ := z
  have hl := ok.le
  rw [List.length_map] at hl
  obtain ⟨p, c, d, U, w⟩ := g.di
  refine te.walk (aG.of λJ j => ⟨true, cB d rfl, ?_⟩)
  subst j
  simp only [Bool.not_true, Bool.false_eq_true, if_false]
  refine aG.of λJ j => ?_
  unfold G3 wa at a
  have O : (T < 1 ∨ T > 2147483648) → J true h := by
    intro m
    subst j
    simp only [if_true]
    have e : pn (L.map SC.abs) T = 1 := by unfold pn; rw [if_pos m]
    rw [e] at a
    exact a h X o (bw.refl _ _)
  have jf : ¬ (T < 1 ∨ T > 2147483648) → J false h := by
    intro m
    subst j
    simp only [Bool.false_eq_true, if_false]
    refine wc T rfl g (by omega) (λi s y ht E => ⟨_, rfl, ?_⟩) (λE => ⟨_, rfl, ?_⟩)
    · simp only [Option.isNone_some, Bool.not_false, if_true]
      have e : pn (L.map SC.abs) T = 12 := by
        unfold pn
        rw [if_neg m, if_pos]
        unfold G2
        rw [List.any_eq_true]
        exact ⟨s.abs, List.mem_map_of_mem (List.mem_of_getElem? y), by simp [SC.abs, ht]⟩
      rw [e] at a
      exact a h X o (bw.refl _ _)
    · simp only [Option.isNone_none, Bool.not_true, Bool.false_eq_true, if_false]
      have I : ¬ G2 (L.map SC.abs) T = true := by
        unfold G2
        rw [List.any_eq_true]
        rintro ⟨x, hx, e⟩
        obtain ⟨s, y, rfl⟩ := List.mem_map.1 hx
        have := List.findIdx?_eq_none_iff.1 E s y
        rw [show s.abs.token = s.token from rfl] at e
        rw [e] at this; cases this
      refine ⟨_, _, _, cB d rfl, ?_⟩
      by_cases B : (L.length : Int) ≥ 8
      · simp only [B, decide_true, if_true]
        have e : pn (L.map SC.abs) T = 5 := by
          unfold pn
          rw [if_neg m, if_neg I, if_pos (by rw [List.length_map]; omega)]
        rw [e] at a
        exact a h X o (bw.refl _ _)
      · simp only [B, decide_false, Bool.false_eq_true, if_false]
        have e : pn (L.map SC.abs) T = 0 := by
          unfold pn
          rw [if_neg m, if_neg I, if_neg (by rw [List.length_map]; omega)]
        rw [e] at a
        simp only [if_true] at a
        refine ⟨_, _, _, cB d rfl, ?_⟩
        rw [bJ (n := (L.length : Int) + 1) (by omega) (by omega)]
        refine cI.box λb h4 eb C f => ?_
        have g' := U.frame f (λ_ _ => id)
        refine ⟨_, _, _, cB (f.get d id) rfl, ?_⟩
        refine jn tP uP g' rfl (λi' M => by simp at M; subst M; rfl) (by omega) (by omega) ?_
        intro P c' h6 o6 r G
        refine ⟨_, _, _, rfl, ?_⟩
        have h' := aA d
        have S : ¬ aP p t := λhx => by have := w t hx; rw [g.O4] at this; cases this
        have a' := r.get (f.get d id) S
        have Q : ¬ aP p b := λhx => by have := U.dI hx; omega
        have d' := r.get C Q
        refine bk a' (by simp) λv k1 k2 k3 => ?_
        have u : Fr (λx => x = t) h6 v := Fr.of_eq k2 k3
        have f' : ¬ b = t := λe => by omega
        have K := u.get d' f'
        refine ⟨_, cB K rfl, ?_⟩
        have F : Fr (λx => x = t ∨ aP p x) h v := (f.mono (λ_ _ => False.elim)).tt ((r.mono (λ_ _ hx => .inr hx)).tt (u.mono (λ_ _ hx => .inl hx)))
        have e' : ¬ aP P t := λhx => (G t hx).elim S (λh2 => by have := aA (f.get d id); omega)
        have Z : ∀ x, x = t ∨ aP p x → l x = some 0 ∨ l x = some 1 := by
          rintro x (rfl | hx)
          · exact .inl g.O4
          · exact .inr (w x hx)
        have a2 : ∀ x, aP P x → l x = some 1 ∨ h.size ≤ x := by
          intro x hx
          rcases G x hx with h2 | h2
          · exact .inl (w x h2)
          · have := f.1; exact .inr (by omega)
        have a3 : ¬ aP P b := by
          intro hx
          rcases G b hx with h2 | h2
          · exact Q h2
          · have := aA C; omega
        obtain ⟨n, V, st⟩ := g.add (s := ⟨b, L.length + 1, T, true, false, [], none, 0, [], none, 0⟩) (p := P) (c0 := c') hS F Z k1 (o6.frame u (λx hx e => e' (e ▸ hx))) a2 a3 K (by show h.size ≤ b; omega) ⟨rfl, rfl, rfl⟩ ⟨rfl, rfl, rfl⟩
        have := a v n (by rw [List.length_map]; exact ⟨_, V⟩) st
        rw [List.length_map] at this
        exact this
  clear j
  by_cases h1 : T < 1
  · have : (T : Int) < 1 := by omega
    simp only [this, decide_true, if_true]
    exact O (.inl h1)
  · have : ¬ (T : Int) < 1 := by omega
    simp only [this, decide_false, Bool.false_eq_true, if_false]
    by_cases h2 : T > 2147483648
    · have : (T : Int) > 2147483648 := by omega
      simp only [this, decide_true]
      exact O (.inr h2)
    · have : ¬ (T : Int) > 2147483648 := by omega
      simp only [this, decide_false]
      exact jf (by omega)
theorem Mi{k:Int}(T:Nat)(w:k=(T:Int))(f:Has h t X A)(O:mT A)(a: ∀H x,Has H t x (Mh A T)->bw X h x H->R (.T #[.I (O8 A T),.I (SM A T)]) H):
  Cl 43 #[.P t 0,.U k] h R:=by
 subst w;have g:=f;obtain⟨_,l,L,b,rfl,_,u⟩:=f;have y:=O.le;rw[aD]at y;obtain⟨p,c,v,F,C⟩:=b.di;refine qK.walk (aG.of λJ r=>⟨true,au v,?_⟩);subst r;simp only[cX,ar,aQ];unfold O8 SM Mh at a;rw[Pe]at a;refine wc T rfl b ag (λi s e E d=>⟨_,rfl,?_⟩) (λd=>⟨_,rfl,?_⟩)
 .simp only[hM,ar,aQ];rw[d]at a;dsimp only at a;rw[kz e]at a;dsimp only at a;have j:=(b.ses i s e).di;refine ax.2 ⟨_,au j,?_⟩;cases m:s.up with
  |true=>
   simp only[bm];have:s.abs.up=true:=m;simp only[this,bm]at a;exact a h X g (bw.refl _ _)
  |false=>
   simp only[ar,aQ];have:s.abs.up=false:=m;simp only[this,ar,aQ]at a;refine ax.2 (bk j bU λo K z B=>ax.2 ?_);refine⟨_,au K,?_⟩;obtain⟨x,n,S⟩:=b.flag (s':= { s with up:=true }) u e rfl ⟨rfl,rfl,rfl⟩ ⟨rfl,rfl,rfl⟩ K z B;exact a o x ⟨_,n⟩ S
 .simp only[Option.isNone_none,bm];rw[d]at a;exact a h X g (bw.refl _ _)
theorem vQ(d:Has h t X A)(O:mT A)(a: ∀H x,Has H t x (Dg A num)->bw X h x H->R (.I (O9 A num)) H):Cl 44 #[.P t 0,.I num] h R:=by
 have f:=d;obtain⟨_,l,L,T,rfl,_,o⟩:=d;have r:=O.le;rw[aD]at r;unfold Dg O9 at a;refine tf.walk (ic T (λi s e b=>⟨_,_,rfl,?_⟩) (λu=>⟨_,_,rfl,?_⟩) ag)
 .rw[ae bU];subst e;rw[qa,kz b]at a;dsimp only at a;have g:=(T.ses i s b).di;refine ax.2 ⟨_,au g,?_⟩;cases j:s.up with
  |true=>
   have:s.abs.up=true:=j;simp only[this,bm]at a;simp only[cX,ar,aQ];refine ax.2 (bk g bU λn K v w=> ?_);obtain⟨x,m,S⟩:=T.flag (s':= { s with up:=false }) o b rfl ⟨rfl,rfl,rfl⟩ ⟨rfl,rfl,rfl⟩ K v w;refine a n x ?_ S;unfold lR;rw[show((i:Int)+1 - 1).toNat=i by omega];exact⟨_,m⟩
  |false=>
   have:s.abs.up=false:=j;simp only[this,ar,aQ]at a;simp only[dZ,bm];exact a h X f (bw.refl _ _)
 .rw[af (by rfl)];rw[lQ (by rw[aD];exact u)]at a;exact a h X f (bw.refl _ _)
theorem Bf{o:Bool}(f:Has h t X A)(O:mT A)(a: ∀H x,Has H t x (kh A num o)->bw X h x H->R (.I (xx A num)) H):Cl 155 #[.P t 0,.I num,.B o] h R:=by
 have g:=f;obtain⟨_,l,L,T,rfl,_,n⟩:=f;have u:=O.le;rw[aD]at u;unfold kh xx at a;refine rV.walk (ic T (λi s e d=>⟨_,_,rfl,?_⟩) (λv=>⟨_,_,rfl,?_⟩) ag)
 .refine aG.of λJ b=> ?_
  subst b;rw[af (by rfl)];subst e;rw[qa,kz d]at a;dsimp only at a;have r:=(T.ses i s d).di;refine ax.2 (bk r bU λm K w y=> ?_);obtain⟨x,j,S⟩:=T.flag (s':= { s with watch:=o }) n d rfl ⟨rfl,rfl,rfl⟩ ⟨rfl,rfl,rfl⟩ K w y;refine a m x ?_ S;unfold lR;rw[show((i:Int)+1 - 1).toNat=i by omega];exact⟨_,j⟩
 .refine aG.of λJ b=> ?_
  subst b;rw[ae bU];rw[lQ (by rw[aD];exact v)]at a;exact a h X g (bw.refl _ _)
def kA(A:List fu)(k:Nat):List fu:=(A.take k).map (λs=> { s with up:=false })++A.drop k
theorem G5{s:fu}(a:A[k]? =some s):(kA A k).set k { s with up:=false } =kA A (k+1):=by
 have b:=(az.1 a).1;unfold kA;have d:((A.take k).map (λs:fu=> { s with up:=false })).length=k:=by rw[aD,bA];omega
 rw[List.set_append_right _ _ ag,d,Nat.sub_self,bO,a,ba];rw[show A.drop k=s::A.drop (k+1) by rw[cP b];congr 1;rw[aj b]at a;exact aX a];simp
theorem Mj :(kA A k)[k]? =A[k]? :=by
 unfold kA;by_cases b:k<=A.length
 .have a:((A.take k).map (λs:fu=> { s with up:=false })).length=k:=by rw[aD,bA];omega
  rw[cH ag,a,Nat.sub_self,fp];rfl
 .rw[cV (by rw[aB,aD,bA,bN];omega),cV ag]
theorem Jd :(kA A k).length=A.length:=by unfold kA;rw[aB,aD,bA,bN];omega
theorem Je(B:Has h t X A)(ok:mT A)(hk: ∀H x,Has H t x (nG A)->bw X h x H->R (.T #[]) H):Cl 48 #[.P t 0] h R:=by
 have H0:=B;have hl:=ok.le;obtain⟨_,l,L,E,I,_,hS⟩:=B;obtain⟨p,c,M,w',hp⟩:=E.di;have q':L.length=A.length:=by rw[<-I,aD]
 refine pZ.walk ⟨_,_,_,au M,?_⟩;refine⟨λi H=> ∃(k:Nat)(x:Ft),i=(k:Int)/\k<=A.length/\Has H t x (kA A k)/\bw X h x H/\(∃u V,EG H t V x.D u/\u.map SC.abs=kA A k/\(∀c,x.M c↔ ∃o',V c=some o')/\H[t]? =h[t]? /\u.map SC.b=L.map SC.b/\∀a,p=some a->H[a.block]? =h[a.block]?),λi _=>A.length - i.toNat,⟨0,X,rfl,ag,by simpa[kA]using H0,bw.refl _ _,L,l,E,by simpa[kA]using I,hS,rfl,rfl,λ_ _=>rfl⟩,?_⟩;rintro _ f ⟨k,F1,rfl,r',C,b',b,v',T,w,d',U,g',j'⟩;by_cases u':k<A.length
 .have Q:(k:Int)<(L.length:Int):=ag
  simp only[Q,bF,bm,aH];have i':k<b.length:=by have:=cf List.length w;rw[aD,Jd]at this;omega
  have g:b[k]? =some b[k]:=aj i';obtain⟨p1,c1,r,O,k'⟩:=T.di;have h':=r;rw[U,M]at r;simp at r;obtain⟨rfl,t',rfl⟩:=r;obtain⟨d,n,rfl⟩:=O.addr ag;have f':=(T.ses k _ g).di;refine⟨⟨ag,by first|trivial|omega⟩,ax.2 ⟨some ⟨b[k].b,0,none⟩,?_,ax.2 ?_⟩⟩
  .rw[cE];exact O.cell (by rw[aL,g];rfl)
  refine bk f' bU λo k1 k2 K=> ?_
  have z:=(T.ses k _ g).lb;obtain⟨F2,s,p'⟩:=T.flag (s':= { b[k]with up:=false }) d' g rfl ⟨rfl,rfl,rfl⟩ ⟨rfl,rfl,rfl⟩ k1 k2 K;rw[bJ ag ag];have J:(kA A k)[k]? =some b[k].abs:=by rw[<-w];exact kz g
  have e2:((b.map SC.abs).set k { b[k]with up:=false }.abs)=kA A (k+1):=by
   rw[w];rw[Mj]at J;exact G5 J
  rw[e2]at s;have a':t≠b[k].b:=λe=>by rw[<-e,T.O4]at z;simp at z;omega
  have Z:d≠b[k].b:=λe=>by
   have:=k' d ⟨_,rfl,rfl⟩;rw[e,z]at this;simp at this;omega
  obtain⟨m',v,F,c',_,e'⟩:=id s;refine⟨⟨k+1,F2,ag,ag,⟨_,s⟩,b'.trans p',v,m',F,c',e',by rw[K t a',U],?_,?_⟩,?_⟩
  ·
   obtain⟨p2,c2,y,n',_⟩:=F.di;have e3:o[t]? =f[t]? :=K t a';rw[e3,h']at y;simp at y;obtain⟨rfl,s',rfl⟩:=y;have l':o[d]? =f[d]? :=K d Z;apply fE
   intro j;rw[<-g'];by_cases P:j<b.length
   .have G:aU f (((AA d n):Addr).add j)=some (.pointer (some ⟨b[j].b,0,none⟩)):=O.cell (by rw[aL,aj P];rfl);have S:j<v.length:=ag
    have m:aU o (((AA d n):Addr).add j)=some (.pointer (some ⟨v[j].b,0,none⟩)):=n'.cell (by rw[aL,aj S];rfl);rw[gZ]at G m;have:aU o (AA d (n+j))=aU f (AA d (n+j)):=by unfold aU;rw[l']
    rw[this,G]at m;simp at m;rw[aL,aL,aj P,aj S];simp[m]
   .rw[cV (by rw[aD];omega),cV (by rw[aD];omega)]
  .rintro a e;cases e;rw[K d Z,j' _ rfl]
  .show A.length - Int.toNat ((k:Int)+1)<A.length - Int.toNat (k:Int);omega
 .have Q: ¬(k:Int)<(L.length:Int):=ag
  simp only[Q,bu,ar,aQ];have e:kA A k=nG A:=by
   unfold kA nG;rw[bE ag,dE ag,List.append_nil]
  rw[e]at C;exact hk f F1 C b'

end fu
end
section
open Go.fV Go.kU
namespace iB
open mi
variable {h h':ai} {b:Nat} {X:Ft} {R:fO} {p q:ct} {c d i:Nat} {L:List E} {s:BS}
variable {l:ct} {g a:Nat} {f:List IV} {S:Nat->Prop} {O k:Int} {x:It}
def Bh(h:ai)(b:Nat)(X:Ft)(s:BS):Prop:= ∃L,Bx h b X s L/\okB s L
theorem Bh.frame{Q:Nat->Prop}(H:Bh h b X s)(F:Fr Q h h')(e: ∀y,X.M y\/X.D y->¬Q y):Bh h' b X s:=by
 obtain⟨L,H,o⟩:=H;exact⟨L,H.frame F e,o⟩
theorem Bh.on(H:Bh h b X s)(F:Fr No h h'):Bh h' b X s:=H.frame F bX
theorem Bh.lt(H:Bh h b X s)(y:Nat)(e:X.M y\/X.D y):y<h.size:=by
 obtain⟨L,H,o⟩:=H;exact H.lt y e
theorem Mm.G8(H:Mm h b X s L l g f a S)(o:okB s L):L.length<1000/\f.length<=16:=by
 have e:=o.pm.length_eq;rw[aD]at e;have:=o.le;have:=H.len;omega
def jB(s:BS)(O:Int)(d:cG)(t:Nat):Int:=if xo O d.length (t:Int)=true then(if s.items.length≥16 then 15 else 0)else 1
def Bi(s:BS)(O:Int)(d:cG)(t:Nat):Int:=if jB s O d t=0 then(s.next:Int)else 0
def Ha(s:BS)(O:Int)(d:cG)(t:Nat):BS:=if jB s O d t=0 then { s with items:=s.items++ [⟨s.next,O,d,t⟩],next:=s.next+1 } else s
theorem Bj{B:cG}{l' m:Nat}(t:Nat)(A':k=(t:Int))(H:Bh h b X s)(hr:Row h p (bc B))(J:l'=B.length)(hl:B.length<=1000000)(K':s.next<=1000000000)(v: ∀h' X',Bh h' b X' (Ha s O B t)->bw X h X' h'->R (.T #[.I (Bi s O B t),.I (jB s O B t)]) h'):
  Cl 221 #[.P b 0,.I O,.L p l' m,.U k] h R:=by
 subst A';subst J;obtain⟨L,⟨l,g,f,a,S,H⟩,o⟩:=H;obtain⟨hL,L'⟩:=H.G8 o;have J':=H.len;refine AZ.walk (gp H ⟨_,rfl,?_⟩);simp only[cX,ar,aQ];refine⟨_,au H.di,sF hr rfl ag λz P C o2 f2 g2=>⟨_,_,_,_,_,_,rfl,?_⟩⟩;refine aI.new λu h7 I' f' f7=>aI.ld f' (fM λj f8=>⟨_,rfl,?_⟩)
 have U:Fr No h j:=f2.tt (f7.tt f8);have A:=H.on U;have z2:=f2.1;have z7:=f7.1;have z8:=f8.1;have l1:=aA f';unfold Ha Bi at v;cases n:xo O B.length (t:Int)with
 |false=>
  have e:jB s O B t=1:=by unfold jB;rw[n];rfl
  rw[e]at v;simp only[dZ,bm];exact v j X ⟨L,⟨l,g,f,a,S,A⟩,o⟩ (bw.gT U)
 |true=>
  simp only[cX,ar,aQ];refine⟨_,_,_,au A.di,?_⟩;by_cases k':s.items.length≥16
  .have q:(f.length:Int)≥16:=ag
   have e:jB s O B t=15:=by unfold jB;rw[n,af rfl,af k']
   rw[e]at v;simp only[q,bF,bm];exact v j X ⟨L,⟨l,g,f,a,S,A⟩,o⟩ (bw.gT U)
  .have q: ¬(f.length:Int)≥16:=ag
   have e:jB s O B t=0:=by unfold jB;rw[n,af rfl,ae k']
   rw[e]at v;simp only[bm]at v;simp only[q,bu,ar,aQ];have j':aI.at j u (s.next:Int) O P B.length C (t:Int):=f8.get f' id;refine⟨_,_,_,au A.di,aI.ld j' ?_⟩;refine cT ⟨cB (A.on (Fr.push (S:=λ_=>False) j _)).di rfl,?_⟩;have E:Fr No j (j.push (.C #[.I (s.next:Int),.I O,.L P B.length C,.U (t:Int)] 117)):=Fr.push _ _;have r9:Row (j.push (.C #[.I (s.next:Int),.I O,.L P B.length C,.U (t:Int)] 117)) (Sa j.size 0) [.I (s.next:Int),.I O,.L P B.length C,.U (t:Int)]:=ju;generalize j.push (.C #[.I (s.next:Int),.I O,.L P B.length C,.U (t:Int)] 117)=h9 at E r9⊢;have H9:=A.on E;have z':aI.at h9 u (s.next:Int) O P B.length C (t:Int):=E.get j' id;refine dR tI uI H9.own r9 rfl (λo' hv=>by simp at hv;rcases hv with rfl|rfl|rfl|rfl<;>rfl) ag ag λQ u' G n' _ D x'=>⟨_,_,_,rfl,?_⟩
   have z9:=E.1;have O':=D.1;have lb:=aA H.di;have E':=D.get H9.di H.bl;refine bk E' bU λa' a1 a2 a3=> ?_
   have V:Fr (λy=>y=b) G a':=Fr.of_eq a2 a3;refine⟨_,au a1,bk a1 bU λr d1 d2 d3=> ?_⟩;have Z:Fr (λy=>y=b) a' r:=Fr.of_eq d2 d3;have m': ∀y,h.size<=y->¬aP l y:=λy hy hx=>by have:=H.own.dI hx;omega
   have y':aI.at G u (s.next:Int) O P B.length C (t:Int):=D.get z' (m' u ag);have i':aI.at r u (s.next:Int) O P B.length C (t:Int):=(d3 u ag).trans ((a3 u ag).trans y');have p':cg.Al r a S L:=((H9.al.frame D (λy hy hx=>H.ls y hx hy)).frame V (λy hy e=>H.bs (e▸hy))).frame Z (λy hy e=>H.bs (e▸hy));refine⟨_,au d1,_,au i',?_⟩;rw[I7]at n;have B':cg.may (s.next:Int) (t:Int)=true:=cg.mS.2 ⟨bW o.yM,ag,n.2.2.2.2⟩;refine cg.I5 p' ag _ _ ag (λ_ I c' q' e' F=>⟨_,rfl,?_⟩) (λhf=>by rw[B']at hf;cases hf);have nS: ∀y,h.size<=y->¬S y:=λy hy w=>by have:=H.al.lt w;omega
   refine⟨_,au (F.get i' (nS u ag)),?_⟩;have F9:Fr No h h9:=U.tt E;have P':G.size<=r.size:=ag
   have r':Fr (aP l) h G:=Fr.no F9 D;have s':Fr (λy=>aP l y\/y=b) h r:=((r'.mono (λ_ _ hx=> .inl hx)).tt (V.mono (λ_ _ hx=> .inr hx))).tt (Z.mono (λ_ _ hx=> .inr hx));have T:Fr X.M h I:=((s'.mono (λy _ hx=>(H.m y).2 (hx.elim (λh=> .inr (.inl h)) .inl))).tt (F.mono (λy _ hx=>(H.m y).2 (.inr (.inr hx)))));have b': ∀y,aP P y->h.size<=y/\y<z.size:=λy hy=>⟨g2 y hy,o2.dI hy⟩
   have K: ∀y,aP Q y->aP l y\/z.size<=y:=λy hy=>(x' y hy).imp id (λh1=>ag)
   have H': ∀y,aP Q y->y<r.size:=λy hy=>by have:=n'.dI hy;omega
   have G':Own I P B.length C 1 (bc B):=by
    have t':Fr X.M z I:=by
     refine⟨iJ T.1 F.1,λy hy J=> ?_⟩;have e1:I[y]? =r[y]? :=F.2 y ag (λhx=>J ((H.m y).2 (.inr (.inr hx))));have e2:r[y]? =a'[y]? :=Z.2 y ag (λe=>J ((H.m y).2 (.inl e)));have e3:a'[y]? =G[y]? :=V.2 y ag (λe=>J ((H.m y).2 (.inl e)));have e4:G[y]? =h9[y]? :=D.2 y ag (λe=>J ((H.m y).2 (.inr (.inl e))));have e5:h9[y]? =z[y]? :=(f7.tt (f8.tt E)).2 y ag id;rw[e1,e2,e3,e4,e5]
    exact o2.frame t' (λy hy M=>iJ (H.lt y (.inl M)) (b' y hy))
   have w': ∀y,X.D y\/aP P y->y<I.size:=λy hy=>hy.elim (λh1=>cK (H.G0 y h1) T.1) (λh1=>iJ (b' y h1) F.1)
   have v':f.flatMap gI++ [.I (s.next:Int),.I O,.L P B.length C,.U (t:Int)]=(f++ [(⟨s.next,O,⟨P,C,B⟩,t⟩:IV)]).flatMap gI:=by rw[cS];simp
   have ln:(f++ [(⟨s.next,O,⟨P,C,B⟩,t⟩:IV)]).length=f.length+1:=by rw[aB];rfl
   have g': ∀y,aP Q y->y≠b:=λy hy e=>(K y hy).elim (λh1=>H.bl (e▸h1)) (λh1=>ag)
   have d': ∀y,c' y->X.M y\/r.size<=y:=λy hy=>(e' y hy).imp (λh1=>(H.m y).2 (.inr (.inr h1))) id
   refine v I ⟨λy=>y=b\/aP Q y\/c' y,λy=>X.D y\/aP P y⟩ ⟨_,⟨Q,u',f++ [⟨s.next,O,⟨P,C,B⟩,t⟩],a,c',⟨?_,?_,q',?_,?_,λ_=>ff,λhx=>g' b hx rfl,?_,?_,?_,w'⟩⟩,?_⟩ ⟨T,?_,?_,λ_=> .inl⟩
   .have F':=F.get d1 H.bs;rw[F'];dsimp only;rw[ln,bJ ag ag];rfl
   .rw[ln,<-v'];exact((n'.frame V g').frame Z g').frame F (λy hy w=>(K y hy).elim (λh1=>H.ls y h1 w) (λh1=>nS y ag w))
   .rw[ba,H.abs];rfl
   .intro o' hv;rcases bH.1 hv with hv|hv
    .exact((H.EE o' hv).frame T (λy hd M=>H.vx y M hd)).mono (λy=> .inl)
    .obtain rfl:=bP.1 hv;exact BV.kT G' (λy=> .inr)
   .intro w;exact(e' b w).elim H.bs (λh1=>ag)
   .intro y hy w;rcases e' y w with h1|h1
    .exact(K y hy).elim (λz=>H.ls y z h1) (λz=>nS y ag h1)
    .have:=H' y hy;omega
   .rintro y hy (hd|hd)
    .rcases hy with rfl|hy|hy
     .exact H.vx _ ((H.m _).2 (.inl rfl)) hd
     .exact(K y hy).elim (λh1=>H.vx _ ((H.m _).2 (.inr (.inl h1))) hd) (λh1=>bW (H.G0 y hd))
     .exact(d' y hy).elim (λh1=>H.vx _ h1 hd) (λh1=>bW (H.G0 y hd))
    .have D':=b' y hd;rcases hy with rfl|hy|hy
     .omega
     .exact(K y hy).elim (λh1=>m' y D'.1 h1) (λh1=>ag)
     .exact(d' y hy).elim (λh1=>bW (H.lt y (.inl h1))) (λh1=>ag)
   .have C':(s.next:Int)∉keys L:=by
     intro M;obtain⟨e,he,ek⟩:=bt.1 M;obtain⟨x,hx,rfl⟩:=bt.1 (o.pm.mem_iff.1 he);have:=(o.it x hx).2.1;have ek:(x.num:Int)=(s.next:Int):=ek;omega
    refine⟨?_,?_,?_,?_,?_⟩
    .show(s.items++ [_]).length<=16;rw[aB,dL];omega
    .unfold cg.AW;rw[ku C'];refine(mR _ _).trans ?_;show List.Perm (((s.next:Int),(t:Int))::L) ((s.items++ [(⟨s.next,O,B,t⟩:It)]).map It.kv);rw[ba];exact(List.Perm.cons _ o.pm).trans (eH _ _).symm
    .intro x hx;rcases bH.1 hx with hx|hx
     .have:=o.it x hx;exact⟨this.1,by show x.num<s.next+1;omega,this.2.2⟩
     .obtain rfl:=bP.1 hx;exact⟨by show 1<=s.next;have:=o.yM;omega,by show s.next<s.next+1;omega,n.2.2.1,n.2.2.2.1,n.1,n.2.1,by have:=n.2.2.2.2;show t<=_;omega⟩
    .show((s.items++ [_]).map It.num).Pairwise (· < ·);rw[ba,List.pairwise_append];refine⟨o.inc,bU,λy hy M' hz=> ?_⟩;simp at hz;subst hz;obtain⟨x,hx,rfl⟩:=bt.1 hy;exact(o.it x hx).2.1
    .show s.next+1=1+(s.items++ [_]).length+s.taken+s.sY+s.over;rw[aB,dL];have:=o.yM;omega
   .rintro y (rfl|hy|hy)
    .exact .inl ((H.m _).2 (.inl rfl))
    .exact(K y hy).imp (λh1=>(H.m _).2 (.inr (.inl h1))) (λh1=>ag)
    .exact(d' y hy).imp id (λh1=>ag)
   .rintro y (hy|hy)
    .exact .inl hy
    .exact .inr (b' y hy).1
def ou(s:BS)(num O:Int):Int:=match yL s.items num with|none=>4|some i=>(match s.items[i]? with|some x=>if x.owner=O then 0 else 13|none=>4)
def nH(s:BS)(num O:Int):BS:=if ou s num O=0 then { s with items:=qJ s.items num,sY:=s.sY+1 } else s
theorem Mm.field{s':BS}(H:Mm h b X s L l g f a S)(r:s'.items=s.items)(o:h'[b]? =some (.C #[.L l f.length g,.I (s'.next:Int),.I (s'.taken:Int),.I (s'.sY:Int),.I (s'.over:Int),.P a 0] 101 (0,0)))(F:Fr (λy=>y=b) h h'):Mm h' b X s' L l g f a S/\bw X h X h':=by
 have n: ∀y,X.D y->y≠b:=λy m e=>H.vx b ((H.m b).2 (.inl rfl)) (e▸m)
 refine⟨⟨o,H.own.frame F (λy j e=>H.bl (e▸j)),H.al.frame F (λy j e=>H.bs (e▸j)),H.abs.trans r.symm,λx t=>(H.EE x t).frame F (λy m e=>n y m e),H.m,H.bl,H.bs,H.ls,H.vx,λy j=>cK (H.G0 y j) F.1⟩,bw.vq (F.mono (λy _ e=>(H.m y).2 (.inl e)))⟩
theorem EH(H:Mm h b X s L l g f a S)(e:s.items[i]? =some x): ∃v,f[i]? =some v/\v.abs=x:=by
 rw[<-H.abs,aL]at e;cases j:f[i]? with
 |none=>rw[j]at e;cases e
 |some v=>rw[j]at e;exact⟨v,rfl,aX e⟩
theorem wg{I:List It}(e:(I.map It.num).Pairwise (· < ·))(H:I[i]? =some x):(qJ I (x.num:Int)).length+1=I.length:=by
 have j:=(az.1 H).1;rw[<-pk e H];unfold vU;rw[aB,bA,bN];omega
theorem okB.del{t o:Nat}(e:okB s L)(H:s.items[i]? =some x)(j:t+c+o=s.taken+s.sY+s.over+1):okB ⟨qJ s.items (x.num:Int),s.next,t,c,o⟩ (fY L (x.num:Int)):=by
 refine e.sub cU (A5 e.pm) ?_;have:=wg e.inc H;have:=e.yM;omega
theorem xy{num:Int}(H:Bh h b X s)(j':s.next<=1000000000)(j: ∀h' A,Bh h' b A (nH s num O)->bw X h A h'->R (.I (ou s num O)) h'):
  Cl 144 #[.P b 0,.I num,.I O] h R:=by
 obtain⟨L,⟨l,g,f,a,S,H⟩,o⟩:=H;obtain⟨Z,k'⟩:=H.G8 o;have i':=H.len;have g':=o.le;refine vT.walk (gp H ⟨_,rfl,?_⟩);simp only[cX,ar,aQ];refine ic H ag λB F=>⟨_,rfl,?_⟩
 have m:=H.on F;unfold nH at j;cases n:yL s.items num with
 |none=>
  have e:ou s num O=4:=by unfold ou;rw[n]
  rw[e]at j;have ev:rU s.items num= -1:=by unfold rU;rw[n]
  rw[ev,gi];exact j B X ⟨L,⟨l,g,f,a,S,m⟩,o⟩ (bw.gT F)
 |some i=>
  obtain⟨x,r,y⟩:=A6 n;have ev:rU s.items num=(i:Int):=by unfold rU;rw[n]
  have hi:=(az.1 r).1;obtain⟨v,C,D⟩:=EH H r;have q: ¬(i:Int)<0:=ag
  rw[ev];simp only[q,bu,ar,aQ,aH];obtain⟨ab,e',rfl⟩:=m.own.addr ag;have hc:=(m.own.gB iE C).2.1;refine⟨_,_,_,au m.di,ag,ax.2 ⟨v.owner,hc,?_⟩⟩;have E:v.owner=x.owner:=by rw[<-D];rfl
  by_cases t:x.owner=O
  .have e:ou s num O=0:=by unfold ou;rw[n];dsimp only;rw[r];dsimp only;rw[af t]
   rw[e]at j;simp only[bm]at j;rw[ae (by rw[E,t];simp)];refine Am m ag Z C λV J G s3 _=>⟨_,_,_,_,_,_,rfl,?_⟩
   obtain⟨b',a',c',P,I,u⟩:=G;refine⟨_,au u.di,bk u.di bU λw K M Q=> ?_⟩;have U:Fr (λd'=>d'=b) V w:=Fr.of_eq M Q;have f':=o.yM;have vn:(v.num:Int)=num:=by rw[<-y,<-D];rfl
   have T:vU s.items i=qJ s.items num:=by rw[<-y];exact pk o.inc r
   obtain⟨z,s4⟩:=u.field (s':=⟨qJ s.items num,s.next,s.taken,s.sY+1,s.over⟩) (h':=w) T.symm (by
    rw[K];dsimp only;rw[bJ ag ag];rfl) U
   rw[vn]at z;refine j w J ⟨fY L num,⟨b',a',c',P,I,z⟩,?_⟩ ((bw.gT F).trans (s3.trans s4));have:=o.del (t:=s.taken) (c:=s.sY+1) (o:=s.over) r ag;rwa[y]at this
  .have e:ou s num O=13:=by unfold ou;rw[n];dsimp only;rw[r];dsimp only;rw[ae t]
   rw[e]at j;rw[af (by rw[E];simpa using t)];exact j B X ⟨L,⟨_,g,f,a,S,m⟩,o⟩ (bw.gT F)
theorem vV(H:Bh h b X s)(q':s.next<=1000000000)(k1:s.items= []->∀h',Bh h' b X s->Fr No h h'->R (.T #[.agg #[.I 0,.I 0,.Z,.U 0],.I 4]) h')(k2: ∀x r,s.items=x::r->∀h' C (v:IV),v.abs=x->Bh h' b C { s with items:=r,taken:=s.taken+1 } ->bw X h C h'->v.v.ok h' C.D->R (.T #[v.agg,.I 0]) h'):
  Cl 76 #[.P b 0] h R:=by
 obtain⟨L,⟨l,g,f,a,S,H⟩,t⟩:=H;obtain⟨hL,r'⟩:=H.G8 t;have a':=H.len;have p':=t.le;have o':=t.yM;refine yJ.walk (aI.box λB V n' z I=> ?_);have j:=H.on I;refine gp j ⟨_,rfl,?_⟩;simp only[cX,ar,aQ];refine⟨_,_,_,au j.di,?_⟩;cases n:s.items with
 |nil=>
  have i':f.length=0:=by rw[a',n];rfl
  rw[af (by rw[i'];rfl)];refine aI.set z λh6 D E G=>aI.ld D ?_
  have U:Fr (λy=>y=B) V h6:=Fr.of_eq E G;have l1:=aA z;have nX: ∀y,X.M y\/X.D y->y≠B:=λy o e=>by have:=H.lt y o;omega
  exact k1 n h6 ⟨L,⟨l,g,f,a,S,j.frame U nX⟩,t⟩ (I.fresh U (λy e=>ag))
 |cons x r=>
  have s':0<f.length:=by rw[a',n];simp
  rw[ae (by simp only[df];omega)];have K:s.items[0]? =some x:=by rw[n];rfl
  obtain⟨v,hv,c'⟩:=EH j K;refine⟨_,au j.di,bk j.di bU λZ a1 P Q=> ?_⟩;have g':Fr (λy=>y=b) V Z:=Fr.of_eq P Q;obtain⟨f',k'⟩:=j.field (s':= { s with taken:=s.taken+1 }) (h':=Z) rfl (by
   rw[a1];dsimp only;rw[bJ ag ag];rfl) g'
  refine Am (i:=0) f' (by show s.items.length<=100;omega) hL hv λJ m A M m'=>⟨_,_,_,_,_,_,rfl,?_⟩
  have l1:=aA z;have lb:=aA H.di;have j':aI.at J B 0 0 none 0 0 0:=M.fr.get ((Q B ag).trans z) (λhm=>bW (H.lt B (.inl hm)));refine aI.set j' λw D E G=>aI.ld D ?_
  have F:Fr (λy=>y=B) J w:=Fr.of_eq E G;have d': ∀y,m.M y\/m.D y->y≠B:=M.apart (Q:=λy=>y=B) (λy o e=>bW (H.lt y o)) (λy e=>by rw[e,P];exact l1);have vn:(v.num:Int)=(x.num:Int):=by rw[<-c'];rfl
  have T:vU s.items 0=r:=by unfold vU;rw[n];rfl
  have ed:qJ s.items (x.num:Int)=r:=by rw[<-pk t.inc K];exact T
  rw[vn]at A;have b':=t.del (t:=s.taken+1) (c:=s.sY) (o:=s.over) K ag;rw[ed]at b';have e':Bx w b m { s with items:=r,taken:=s.taken+1 } (fY L (x.num:Int)):=by
   have:({ ({ s with taken:=s.taken+1 } :BS)with items:=vU ({ s with taken:=s.taken+1 } :BS).items 0 } :BS)= { s with items:=r,taken:=s.taken+1 } :=by
    show(⟨vU s.items 0,_,_,_,_⟩:BS)=_;rw[T]
   rw[this]at A;exact A.frame F d'
  have u:bw X h m J:=(bw.gT I).trans (k'.trans M);have l':bw X h m w:=by
   refine⟨⟨db u.fr.1 F.1,λy o hn=> ?_⟩,u.hN,u.ji,u.mz⟩;rw[F.2 y (cK o u.fr.1) (λe=>ag)];exact u.fr.2 y o hn
  exact k2 x r n w m v c' ⟨_,e',b'⟩ l' (m'.frame F (λy hd e=>d' y (.inr hd) e))
theorem wh(A:Nat)(H':k=(A:Int))(H:Bh h b X s)(b1:s.next<=1000000000)
  (hk: ∀h' o p' c' (m:List IV) D,Bh h' b o { s with items:=s.items.filter (λx=>decide ((A:Int)<(x.fS:Int))),over:=s.over+m.length } ->bw X h o h'->Own h' p' m.length c' 4 (m.flatMap gI)->(∀y∈m,y.v.ok h' o.D)->(∀y,aP p' y->h.size<=y/\¬(o.M y\/o.D y))->
   (m.map IV.abs).map It.kv=D->jH D->D.Perm ((s.items.filter (λx=>decide ((x.fS:Int)<=(A:Int)))).map It.kv)->(∀y∈m,y.abs∈s.items)->R (.L p' m.length c') h'):
  Cl 40 #[.P b 0,.U k] h R:=by
 subst H';obtain⟨L,⟨l,g,f,a,S,H⟩,u⟩:=H;obtain⟨hL,b2⟩:=H.G8 u;have I':=u.le;have a5:=u.yM;have T:=H.al.sorted;have C:=H.al.nodup;refine yK.walk (gp H ⟨_,rfl,aG.of λa4 hJ=> ?_⟩);simp only[bm];refine⟨_,au H.di,cg.EC H.al ag _ λh3 p3 c3 A3 o3 g3 Z=>⟨_,_,_,rfl,?_⟩⟩;generalize hD:cg.due L (A:Int)=D at o3⊢;have P:L=D++cg.rest L (A:Int):=by rw[<-hD];exact(List.takeWhile_append_dropWhile).symm
 have M3:Mm h3 b X s (cg.rest L (A:Int)) l g f a S:=by
  refine⟨Z.get H.di H.bs,H.own.frame Z (λy j hs=>H.ls y j hs),A3,H.abs,λx n=>(H.EE x n).frame Z (λy hd hs=>H.vx y ((H.m y).2 (.inr (.inr hs))) hd),H.m,H.bl,H.bs,H.ls,H.vx,λy j=>cK (H.G0 y j) Z.1⟩
 have s3:bw X h X h3:=bw.vq (Z.mono (λy _ hs=>(H.m y).2 (.inr (.inr hs))));have Dl:D.length<=16:=by
  have h1:=cf List.length P;rw[aB]at h1;have:=u.pm.length_eq;rw[aD]at this;omega
 have U':(keys D).Nodup:=by
  rw[P]at C;unfold keys at C⊢;rw[ba,fh]at C;exact C.1
 have dr: ∀e∈D,e.1∉keys (cg.rest L (A:Int)):=by
  intro e he z;rw[P]at C;unfold keys at C z;rw[ba,fh]at C;exact C.2.2 e.1 (bz he) e.1 z rfl
 have V':(cg.rest L (A:Int)).length<1000:=by
  have h1:=cf List.length P;rw[aB]at h1;omega
 refine⟨λop ol oc o' G=> ∃(k:Nat)(o:Ft)(m:List IV),o'=(k:Int)/\k<=D.length/\ol=m.length/\m.length=k/\Bx G b o { s with items:=oH s.items (keys (D.take k)),over:=s.over+k } (cg.rest L (A:Int))/\bw X h o G/\Fr (λy=>h.size<=y\/X.M y) h3 G/\Own G op ol oc 4 (m.flatMap gI)/\(∀y∈m,y.v.ok G o.D)/\
   (∀y,aP op y->h.size<=y/\¬(o.M y\/o.D y)/\¬aP p3 y)/\(∀y,aP p3 y->¬(o.M y\/o.D y))/\Row G p3 (cg.kc D)/\(m.map IV.abs).map It.kv=D.take k/\(∀y∈m,y.abs∈s.items),λ_ _ _ o' _=>D.length - o'.toNat,
   ⟨0,X, [],rfl,ag,rfl,rfl,?_,s3,Fr.refl _ _,.nil rfl rfl rfl rfl,(λy j=>by cases j),(λy ⟨a,e,_⟩=>by cases e),(λy j n=>iJ (g3 y j) (H.lt y n)),o3.iz,rfl,λy j=>by cases j⟩,?_⟩
 .have:({ s with items:=oH s.items (keys (D.take 0)),over:=s.over+0 } :BS)=s:=by
   show(⟨oH s.items [],_,_,_,_⟩:BS)=s;rw[OW];rfl
  rw[this];exact⟨l,g,f,a,S,M3⟩
 clear M3 A3;rintro op ol oc _ G ⟨k,o,m,rfl,a7,rfl,y',B,st,fg,A',hd,F,s',r3,g',v'⟩;by_cases J':k<D.length
 .have q:(k:Int)<((D.length:Nat):Int):=ag
  simp only[q,bF,bm];have M:D[k]? =some D[k]:=aj J';generalize D[k]=e at M;have u':=aZ M;have aU:(cg.kc D)[k]? =some (.I e.1):=by
   unfold cg.kc keys;rw[aL,aL,M];rfl
  obtain⟨pa,rfl⟩:=r3.some (λE=>by rw[E]at aU;cases aU);have D':=r3.cell aU;refine⟨⟨by first|trivial|omega,by first|trivial|omega⟩,ax.2 ⟨e.1,by rw[aH,cE];exact D',?_⟩⟩;obtain⟨b4,b3,b5,J,S',d'⟩:=B;have m':({ s with items:=oH s.items (keys (D.take k)),over:=s.over+k } :BS).items=oH s.items (keys (D.take k)):=rfl;have rl:(oH s.items (keys (D.take k))).length<=16:=db (cM _ _) I';refine ic d' (by rw[m'];omega) λh5 f5=>⟨_,rfl,?_⟩
  rw[m'];have M5:=d'.on f5;have G':e∈L:=by rw[P];exact dG _ u'
  obtain⟨x,n,w'⟩:=bt.1 (u.pm.mem_iff.1 G');have b':(x.num:Int)=e.1:=by rw[<-w'];rfl
  have K':e.1∉keys (D.take k):=by
   intro z;obtain⟨e',F',ek⟩:=bt.1 z;obtain⟨Q',hj⟩:=bL F';rw[cZ]at hj;split at hj
   .rename_i a6;have h1:(keys D)[Q']? =some e.1:=by unfold keys;rw[aL,hj,<-ek];rfl
    have h2:(keys D)[k]? =some e.1:=by unfold keys;rw[aL,M];rfl
    have:=(fa (by unfold keys;rw[aD];omega) U').1 (h1.trans h2.symm);omega
   .cases hj
  have O':x∈oH s.items (keys (D.take k)):=bj.2 ⟨n,av (by rw[b'];exact K')⟩;cases f':yL (oH s.items (keys (D.take k))) e.1 with
  |none=>exact absurd b' (OV f' x O')
  |some i=>
   obtain⟨x',k',b0⟩:=A6 f';have M':x'∈s.items:=(bj.1 (aZ k')).1;obtain rfl:x'=x:=uniq u.inc M' n ag;have ev:rU (oH s.items (keys (D.take k))) e.1=(i:Int):=by unfold rU;rw[f']
   rw[ev];obtain⟨v,hv,j'⟩:=EH M5 k';refine Am M5 (by rw[m'];omega) V' hv λh6 t B6 s6 v6=>⟨_,_,_,_,_,_,rfl,?_⟩
   have vn:(v.num:Int)=e.1:=by rw[<-b',<-j'];rfl
   rw[vn,ku (dr e u')]at B6;have P':((oH s.items (keys (D.take k))).map It.num).Pairwise (· < ·):=u.inc.sublist (cU.map _);have L':keys (D.take (k+1))=keys (D.take k)++ [e.1]:=by unfold keys;rw[bO,M,ba];rfl
   have E':vU (oH s.items (keys (D.take k))) i=oH s.items (keys (D.take (k+1))):=by
    rw[pk P' k',b',OX,L']
   have o5:=A'.frame f5 bX;have n': ∀y,aP op y->¬(t.M y\/t.D y):=λy j=>λn=>s6.apart (Q:=aP op) (λa' hz r=>(F a' r).2.1 hz) (λa' r=>o5.dI r) y n j
   have o6:=o5.frame s6.fr (λy j z=>(F y j).2.1 (.inl z));refine jn tI uI o6 rfl (λw hw=>by simp at hw;rcases hw with rfl|rfl|rfl|rfl<;>rfl) ag ag λp8 c8 h8 o8 K g8=>⟨_,_,_,rfl,?_⟩
   have B8:Bx h8 b t _ _:=B6.frame K (λy j r=>n' y r j);obtain⟨T',R',Z',a8,S8,U⟩:=B8;refine⟨_,au U.di,bk U.di bU λh9 a1 a2 a3=> ?_⟩;have f9:Fr (λy=>y=b) h8 h9:=Fr.of_eq a2 a3;obtain⟨M9,s9⟩:=U.field (s':=⟨oH s.items (keys (D.take (k+1))),s.next,s.taken,s.sY,s.over+(k+1)⟩) (h':=h9) E'.symm (by
    rw[a1];dsimp only;rw[bJ ag ag];rfl) f9
   have b6:t.M b:=(U.m b).2 (.inl rfl);have B': ∀y,aP p8 y->h.size<=y/\¬(t.M y\/t.D y)/\¬aP (some pa) y:=by
    intro y j;rcases g8 y j with h1|h1
    .exact⟨(F y h1).1,n' y h1,(F y h1).2.2⟩
    .have z6:=s6.fr.1;have z5:=f5.1;have zg:=st.fr.1;refine⟨ag,λn=>bW (B6.lt y n),λn=> ?_⟩;have:=jh r3 (by intro E;rw[E]at aU;cases aU) n;omega
   have Q:bw o G t h6:=(bw.gT f5).trans s6;have t': ∀y,aP (some pa) y->¬(t.M y\/t.D y):=λy j n=>Q.apart (Q:=aP (some pa)) (λa' hz r=>s' a' r hz) (λa' r=>jh r3 (by intro E;rw[E]at aU;cases aU) r) y n j
   have I:bw X h t h6:=st.trans Q;have r': ∀y,y<h.size->¬X.M y->h9[y]? =h6[y]? :=by
    intro y j z;have zz:=I.fr.1;have b7:=K.1;rw[f9.2 y ag (λE=>(I.hN b b6).elim (λh1=>z (E▸h1)) (λh1=>ag)),K.2 y ag (λr=>bW ((F y r).1))]
   have X':bw X h t h9:=by
    refine⟨⟨iJ I.fr.1 K.1,λy j hn=> ?_⟩,I.hN,I.ji,I.mz⟩;rw[r' y j hn];exact I.fr.2 y j hn
   have a0: ∀y,aP p8 y->y≠b:=λy j E=>(B' y j).2.1 (.inl (E▸b6))
   have C':m.flatMap gI++([.I (v.num:Int),.I v.owner,.L v.v.p v.v.b.length v.v.c,.U (v.fS:Int)]:List Value)=(m++ [v]).flatMap gI:=by rw[cS];simp
   have ln:(m++ [v]).length=m.length+1:=by rw[aB];rfl
   rw[bJ ag ag];refine⟨⟨k+1,t,m++ [v],ag,ag,ln.symm,by rw[ln,y'],⟨T',R',Z',a8,S8,M9⟩,X',?_,?_,?_,B',t',?_,?_,?_⟩,?_⟩
   .refine⟨sQ fg.1 Q.fr.1 K.1,λy j hn=> ?_⟩;have l':y<h.size:=Nat.lt_of_not_le (λn=>hn (.inl n));have i': ¬X.M y:=λn=>hn (.inr n)
    rw[r' y l' i',I.fr.2 y l' i',s3.fr.2 y l' i']
   .rw[<-C'];exact o8.frame f9 a0
   .intro w hw;have z': ∀q':IV,q'.v.ok h6 t.D->q'.v.ok h9 t.D:=λq' hu=>(hu.frame K (λy j r=>n' y r (.inr j))).frame f9 (λy j E=>U.vx b b6 (E▸j))
    rcases bH.1 hw with hw|hw
    .exact z' w (((hd w hw).frame Q.fr (λy j z=>d'.vx y z j)).mono (λy j=>Q.mz y j))
    .obtain rfl:=bP.1 hw;exact z' w v6
   .refine((r3.frame Q.fr (λJ V z=>s' _ ⟨J,V,rfl⟩ (.inl z))).frame K (λJ V r=>(F _ r).2.2 ⟨J,V,rfl⟩)).frame f9 (λJ V E=>t' _ ⟨J,V,rfl⟩ (.inl (by have E:J.block=b:=E;rw[E];exact b6)))
   .rw[ba,ba,g',bO,M];simp[j',w']
   .intro w hw;rcases bH.1 hw with hw|hw
    .exact v' w hw
    .obtain rfl:=bP.1 hw;rw[j'];exact n
   .show D.length - Int.toNat ((k:Int)+1)<D.length - Int.toNat (k:Int);omega
 .have q: ¬(k:Int)<((D.length:Nat):Int):=ag
  simp only[q,bu,ar,aQ];obtain rfl:k=D.length:=ag
  subst hJ;rw[fv]at B g';have e1:oH s.items (keys D)=s.items.filter (λx=>decide ((A:Int)<(x.fS:Int))):=by rw[<-hD];exact OY u T C
  rw[e1]at B;have a9:D.length+(s.items.filter (λx=>decide ((A:Int)<(x.fS:Int)))).length=s.items.length:=by
   have h1:=cf List.length P;rw[aB,(Dd (now:=(A:Int)) u T).length_eq,aD,u.pm.length_eq,aD]at h1;omega
  refine hk G o op oc m D ⟨_,by rw[y'];exact B,?_⟩ st A' hd (λy j=>⟨(F y j).1,(F y j).2.1⟩) g' ?_ ?_ v'
  .exact u.sub cU (Dd u T) ag
  .rw[<-hD,(gv T).1];exact gk _ T
  .rw[<-hD];exact OZ u T

end iB
end
section
variable {h:ai} {R:fO}
variable {t:Nat} {r e:Bool} {d f j k E a o:Int} {g i b c:ByteArray}
theorem Pf.walk(n:bf h (.map #[] 0) λB H=>bf H (.C #[.map (some B)] 93) λl m=>R (.P l 0) m):Cl 14 #[] h R:=aS [] Tryz.func14 n
theorem yQ.walk(H: ∃T,Cc h t 0 (.map T)/\R (.B (!T.isNone)) h):Cl 136 #[.P t 0] h R:=aS [] Tryz.func136 H
theorem Ci.walk{n:Int}(H:if(decide (n≥0))then R (.B (decide (n<=2))) h else R (.B false) h):Cl 140 #[.I n] h R:=aS [] Tryz.func140 H
theorem Jf.walk(u:bf h (.C #[.B r,.U d,.U f,.S g,.S i,.I j,.I k] 184) λB n=>aw.LD n (AA B 0) λx y z A C=>Cl 29 #[.agg #[.B x,.U y,.U z,.S A,.S C]] n λv H=> ∃s,v=.B s/\if s then aw.LD H (AA B 0) λD F G I J=> ∃(m:Bool),BP Tryz.prog 29 (.agg #[.B D,.U F,.U G,.S I,.S J]) (.agg #[.B false,.U 0,.U 0,.S ij,.S ij]) m/\if(!m)then Hi H B 5 λw=>Cl 140 #[.I w] H λV l=> ∃T,V=.B T/\if T then∃p,Cc l B 6 (.I p)/\if(decide (p≥1))then∃q,Cc l B 6 (.I q)/\R (.B (decide (q<=1099511627776))) l else R (.B false) l else R (.B false) l else R (.B false) H else R (.B false) H):Cl 137 #[.agg #[.B r,.U d,.U f,.S g,.S i,.I j,.I k]] h R:=aS [] Tryz.func137 u
theorem Bl.walk(Q:bf h (.C #[.B r,.U d,.U f,.S g,.S i,.I j,.I k] 184) λB O=>Cl 136 #[.P t 0] O λo' l=> ∃L,o'=.B L/\if(!L)then R (.I 6) l else∃T,Cc l t 0 (.map T)/\aw.LD l (AA B 0) λp q s u v=> ∃w x y z A C D F,iK Tryz.prog 91 (.map T) (.agg #[.B p,.U q,.U s,.S u,.S v]) true l (.T #[.agg #[.B w,.U x,.U y,.S z,.S A,.I C,.I D],.B F])/\bf l (.C #[.B false,.U 0,.U 0,.S ij,.S ij,.I 0,.I 0] 184) λM m=>kN (.map T) l m/\dN (AA B 0) [.B p,.U q,.U s,.S u,.S v] 0 m/\Cc m t 0 (.map T)/\bV.ST m (AA M 0) w x y z A C D λn=>bV.LD n (AA B 0) λS U V X Z a' b'=>Cl 137 #[.agg #[.B S,.U U,.U V,.S X,.S Z,.I a',.I b']] n λp' H=> ∃G,p'=.B G/\if(!G)then R (.I 1) H else if F then R (.I 11) H else∃I,Cc H t 0 (.map I)/\∃J:Int,Se Tryz.prog #[91] 3 (.map I) H (.I J)/\if(decide (J≥8))then R (.I 15) H else∃K,Cc H t 0 (.map K)/\aw.LD H (AA B 0) λc' d' e' f' g'=>bV.LD H (AA B 0) λh' i' j' k' l' m' n'=>aT Tryz.prog (Instr.mapUpdate 91 (.map K) (.agg #[.B c',.U d',.U e',.S f',.S g']) (.agg #[.B h',.U i',.U j',.S k',.S l',.I m',.I n'])) H λ_ P=>R (.I 0) P):Cl 94 #[.P t 0,.agg #[.B r,.U d,.U f,.S g,.S i,.I j,.I k]] h R:=aS [(11,λ_=>pN 13),(34,λ_=>pN 8)] Tryz.func94 Q
theorem Bm.walk(S:bf h (.C #[.B e,.U E,.U a,.S b,.S c] 29) λp P=>bf P (.C #[.B false,.U 0,.U 0,.S ij,.S ij,.I 0,.I 0] 184) λB Q=>Cl 136 #[.P t 0] Q λF' H=> ∃w,F'=.B w/\if(!w)then bV.ST H (AA B 0) false 0 0 ij ij 0 0 λq=>bV.LD q (AA B 0) λU a' e' i' m' q' u'=>R (.T #[.agg #[.B U,.U a',.U e',.S i',.S m',.I q',.I u'],.I 6]) q else∃T,Cc H t 0 (.map T)/\aw.LD H (AA p 0) λx y z A C=> ∃D F G I J K L M,iK Tryz.prog 91 (.map T) (.agg #[.B x,.U y,.U z,.S A,.S C]) true H (.T #[.agg #[.B D,.U F,.U G,.S I,.S J,.I K,.I L],.B M])/\bf H (.C #[.B false,.U 0,.U 0,.S ij,.S ij,.I 0,.I 0] 184) λn m=>kN (.map T) H m/\dN (AA p 0) [.B x,.U y,.U z,.S A,.S C] 0 m/\Cc m t 0 (.map T)/\bV.ST m (AA n 0) D F G I J K L λl=>if(!M)then bV.ST l (AA B 0) false 0 0 ij ij 0 0 λs=>bV.LD s (AA B 0) λV b' f' j' n' r' v'=>R (.T #[.agg #[.B V,.U b',.U f',.S j',.S n',.I r',.I v'],.I 4]) s else∃O,Cc l n 6 (.I O)/\if(O !=o)then bV.ST l (AA B 0) false 0 0 ij ij 0 0 λu=>bV.LD u (AA B 0) λX c' g' k' o' s' w'=>R (.T #[.agg #[.B X,.U c',.U g',.S k',.S o',.I s',.I w'],.I 13]) u else bV.LD l (AA n 0) λy' z' A' B' C' D' E'=>bV.ST l (AA B 0) y' z' A' B' C' D' E' λv=>bV.LD v (AA B 0) λZ d' h' l' p' t' x'=>R (.T #[.agg #[.B Z,.U d',.U h',.S l',.S p',.I t',.I x'],.I 0]) v):Cl 138 #[.P t 0,.agg #[.B e,.U E,.U a,.S b,.S c],.I o] h R:=aS [(11,λ_=>pN 12)] Tryz.func138 S
theorem wi.walk(F:bf h (.C #[.B e,.U E,.U a,.S b,.S c] 29) λB l=>aw.LD l (AA B 0) λG I K L M=>Cl 138 #[.P t 0,.agg #[.B G,.U I,.U K,.S L,.S M],.I o] l λv z=> ∃m n p q s u w T,v=.T #[.agg #[.B m,.U n,.U p,.S q,.S s,.I u,.I w],.I T]/\bf z (.C #[.B false,.U 0,.U 0,.S ij,.S ij,.I 0,.I 0] 184) λy A=>bV.ST A (AA y 0) m n p q s u w λH=>aG (λ(C:ai)=>R (.I T) C) (λJ=>if(T==0)then∃x,Cc H t 0 (.map x)/\aw.LD H (AA B 0) λO P Q S U=>aT Tryz.prog (Builtin.delete_ #[91,29] 0 #[.map x,.agg #[.B O,.U P,.U Q,.S S,.S U]]) H λV D=>V=.T #[]/\J D else J H)):Cl 95 #[.P t 0,.agg #[.B e,.U E,.U a,.S b,.S c],.I o] h R:=aS [(7,.join []),(8,λ_=>pN 6)] Tryz.func95 F
theorem wj.walk{p:Int}(P:bf h (.C #[.B e,.U E,.U a,.S b,.S c] 29) λn G=>aG (λ(Q:Bool) (l:ai)=>if Q then R (.I 1) l else aw.LD l (AA n 0) λS U V X Z=>Cl 138 #[.P t 0,.agg #[.B S,.U U,.U V,.S X,.S Z],.I o] l λm' K=> ∃w x y z A C D T,m'=.T #[.agg #[.B w,.U x,.U y,.S z,.S A,.I C,.I D],.I T]/\bf K (.C #[.B false,.U 0,.U 0,.S ij,.S ij,.I 0,.I 0] 184) λB L=>bV.ST L (AA B 0) w x y z A C D λq=>aG (λ(M:ai)=>R (.I T) M) (λm=>if(T==0)then aJ q (AA B 5) (.I p) λH=> ∃F,Cc H t 0 (.map F)/\aw.LD H (AA n 0) λa' b' c' d' e'=>bV.LD H (AA B 0) λf' g' h' i' j' k' l'=>aT Tryz.prog (Instr.mapUpdate 91 (.map F) (.agg #[.B a',.U b',.U c',.S d',.S e']) (.agg #[.B f',.U g',.U h',.S i',.S j',.I k',.I l'])) H λ_ O=>m O else m q)) (λJ=>Cl 136 #[.P t 0] G λn' s=> ∃u,n'=.B u/\if u then Cl 140 #[.I p] s λo' I=> ∃v,o'=.B v/\J (!v) I else J false s)):Cl 97 #[.P t 0,.agg #[.B e,.U E,.U a,.S b,.S c],.I o,.I p] h R:=aS [(4,.join [(17,.one (.bool))]),(15,.join []),(18,λ_=>pN 7)] Tryz.func97 P
theorem yR.walk(O:bf h (.C #[.B e,.U E,.U a,.S b,.S c] 29) λm L=>bf L (.C #[.B false,.U 0,.U 0,.S ij,.S ij,.I 0,.I 0] 184) λB M=>Cl 136 #[.P t 0] M λo' H=> ∃K,o'=.B K/\if(!K)then bV.ST H (AA B 0) false 0 0 ij ij 0 0 λp=>bV.LD p (AA B 0) λP S V Z b' d' f'=>R (.T #[.agg #[.B P,.U S,.U V,.S Z,.S b',.I d',.I f'],.B false]) p else∃T,Cc H t 0 (.map T)/\aw.LD H (AA m 0) λu v w x y=> ∃z A C D F G I J,iK Tryz.prog 91 (.map T) (.agg #[.B u,.U v,.U w,.S x,.S y]) true H (.T #[.agg #[.B z,.U A,.U C,.S D,.S F,.I G,.I I],.B J])/\bf H (.C #[.B false,.U 0,.U 0,.S ij,.S ij,.I 0,.I 0] 184) λn l=>kN (.map T) H l/\dN (AA m 0) [.B u,.U v,.U w,.S x,.S y] 0 l/\Cc l t 0 (.map T)/\bV.ST l (AA n 0) z A C D F G I λq=>bV.LD q (AA n 0) λh' i' j' k' l' m' n'=>bV.ST q (AA B 0) h' i' j' k' l' m' n' λs=>bV.LD s (AA B 0) λQ U X a' c' e' g'=>R (.T #[.agg #[.B Q,.U U,.U X,.S a',.S c',.I e',.I g'],.B J]) s):Cl 118 #[.P t 0,.agg #[.B e,.U E,.U a,.S b,.S c]] h R:=aS [(11,λ_=>pN 12)] Tryz.func118 O

end
section
namespace gO
open jG
variable {h H:ai} {R:fO} {b:Nat} {X:Ft}
structure Rg where
 e:Ev
 lV:Int
 own:Int
abbrev Rg.zero:Rg:=⟨.zero,0,0⟩
abbrev Rg.val(r:Rg):Value:=.agg #[.bool r.e.lE,.int .u64 r.e.node,.int .u64 r.e.gL,.string r.e.host,.string r.e.jZ,.int .i64 r.lV,.int .i64 r.own]
abbrev Rg.at(h:ai)(b:Nat)(r:Rg):Prop:=bV.at h b r.e.lE r.e.node r.e.gL r.e.host r.e.jZ r.lV r.own
abbrev Rg.pair(r:Rg):Ev×Value:=(r.e,r.val)
abbrev rX(x y:Rg):Prop:=oU x.e y.e=true
theorem qo:oR Tryz.prog 91 lC Rg.zero.val:=oR.of 29 184 dA key dA
structure Nd (h:ai) (b:Nat) (X:Ft) (L:List Rg) (m:Nat):Prop where
 di:h[b]? =some (.cells #[.map (some m)] 93 (0,0))
 map:jM h m lC (L.map Rg.pair)
 fm: ∀c,X.M c↔c=b\/c=m
 d: ∀c,¬X.D c
 ne:b≠m
 so:L.Pairwise rX
def Tb(h:ai)(b:Nat)(X:Ft)(L:List Rg):Prop:= ∃m,Nd h b X L m
variable {L : List Rg} {m : Nat}
theorem Nd.frame{Q:Nat->Prop}(a:Nd h b X L m)(f:Fr Q h H)(c: ∀y,X.M y\/X.D y->¬Q y):Nd H b X L m:=
 ⟨f.get a.di (c b (.inl ((a.fm b).2 (.inl rfl)))),a.map.frame f (c m (.inl ((a.fm m).2 (.inr rfl)))),a.fm,a.d,a.ne,a.so⟩
theorem Nd.on(a:Nd h b X L m)(f:Fr No h H):Nd H b X L m:=a.frame f bX
theorem Tb.frame{Q:Nat->Prop}(a:Tb h b X L)(f:Fr Q h H)(c: ∀y,X.M y\/X.D y->¬Q y):Tb H b X L:=by
 obtain⟨m,a⟩:=a;exact⟨m,a.frame f c⟩
theorem Tb.on(a:Tb h b X L)(f:Fr No h H):Tb H b X L:=a.frame f bX
theorem Tb.lt(a:Tb h b X L)(y:Nat)(hy:X.M y\/X.D y):y<h.size:=by
 obtain⟨m,a⟩:=a;rcases hy with hy|hy
 .rcases(a.fm y).1 hy with rfl|rfl
  .exact aA a.di
  .exact a.map.lt
 .exact absurd hy (a.d y)
def jb(L:List Rg)(x:Ev):Option Rg:=L.find? (λr=>decide (r.e=x))
theorem Jg{x:Ev}{r:Rg}(h:jb L x=some r):r∈L/\r.e=x:=⟨List.mem_of_find?_eq_some h,cR (List.find?_some h)⟩
theorem Jh{x:Ev}:jb L x=none↔ ∀r∈L,r.e≠x:=by unfold jb;simp
theorem Ml(L:List Rg)(x:Ev):sR (L.map Rg.pair) x=(jb L x).map Rg.val:=by
 unfold sR jb;rw[List.find?_map];cases h:L.find? ((λe:Ev×Value=>decide (e.1=x)) ∘ Rg.pair)with
 |none=>have:L.find? (λr=>decide (r.e=x))=none:=h;rw[this];rfl
 |some r=>have:L.find? (λr=>decide (r.e=x))=some r:=h;rw[this];rfl
def Cj(r:Rg):List Rg->List Rg
 | []=> [r]
 |x::l=>if oU x.e r.e=true then x::Cj r l else r::x::l
theorem sL(r:Rg): ∀L:List Rg,(Cj r L).Perm (r::L)
 | []=> .refl _
 |x::l=>by
  unfold Cj;split
  .exact((sL r l).cons x).trans (List.Perm.swap r x l)
  .exact .refl _
theorem Hc{r x:Rg}:x∈Cj r L↔x=r\/x∈L:=by rw[(sL r L).mem_iff,bg]
theorem Pg(r:Rg)(L:List Rg):(Cj r L).length=L.length+1:=by rw[(sL r L).length_eq];rfl
theorem Kv{r:Rg}: ∀{L:List Rg},L.Pairwise rX->(∀x∈L,x.e≠r.e)->(Cj r L).Pairwise rX
 | [],_,_=>List.pairwise_singleton _ _
 |x::l,h,d=>by
  obtain⟨c,f⟩:=dU.1 h;unfold Cj;split
  .rename_i a;refine dU.2 ⟨λy hy=> ?_,Kv f (λy hy=>d y (cv _ hy))⟩;rcases Hc.1 hy with rfl|hy
   .exact a
   .exact c y hy
  .rename_i a;have e:oU r.e x.e=true:=(Ix (d x bU)).resolve_left a;refine dU.2 ⟨λy hy=> ?_,h⟩;rcases bg.1 hy with rfl|hy
   .exact e
   .exact Iw e (c y hy)
def Mn(L:List Rg)(x:Ev):List Rg:=L.filter (λr=> !decide (r.e=x))
def Ji(L:List Rg)(x:Ev)(p:Int):List Rg:=L.map (λr=>if r.e=x then { r with lV:=p } else r)
def iW(r:Rg):Bool:=dt r.e && (!decide (r.e=Ev.zero) && (decide (r.lV≥0) && decide (r.lV<=2) && (decide (r.own≥1) && decide (r.own<=1099511627776))))
def jB(L:List Rg)(r:Rg):Int:=if iW r=false then 1 else if(jb L r.e).isSome=true then 11 else if L.length≥8 then 15 else 0
def Ck(L:List Rg)(r:Rg):List Rg:=if jB L r=0 then Cj r L else L
def jS(L:List Rg)(x:Ev)(o:Int):Int:=match jb L x with|none=>4|some r=>if r.own=o then 0 else 13
def Bo(L:List Rg)(x:Ev)(o:Int):List Rg:=if jS L x o=0 then Mn L x else L
def Mo(L:List Rg)(x:Ev)(o p:Int):Int:=if 0<=p/\p<=2 then jS L x o else 1
def Hd(L:List Rg)(x:Ev)(o p:Int):List Rg:=if Mo L x o p=0 then Ji L x p else L
theorem Bp(L:List Rg)(r:Rg):(iW r=false/\jB L r=1)\/(iW r=true/\(jb L r.e).isSome=true/\jB L r=11)\/(iW r=true/\jb L r.e=none/\L.length≥8/\jB L r=15)\/(iW r=true/\jb L r.e=none/\L.length<8/\jB L r=0):=by
 unfold jB;cases c:iW r with
 |false=>exact .inl ⟨rfl,bU⟩
 |true=>
  cases d:jb L r.e with
  |some x=>exact .inr (.inl ⟨rfl,rfl,bU⟩)
  |none=>
   by_cases a:L.length≥8
   .exact .inr (.inr (.inl ⟨rfl,rfl,a,by simp[a]⟩))
   .exact .inr (.inr (.inr ⟨rfl,rfl,ag,by simp[a]⟩))
theorem gp(a:Nd h b X L m)(c:R (.B true) h):Cl 136 #[.P b 0] h R:=yQ.walk ⟨_,au a.di,c⟩
theorem jj(d: ∀H b X,Tb H b X []->Nb h X H->R (.P b 0) H):Cl 14 #[] h R:=by
 refine Pf.walk (cT (cT ?_));have f:Fr No h (h.push (.map #[] 0)):=Fr.push _ _;have M:=jM.push (α:=Ev) h lC;have z:(h.push (.map #[] 0)).size=h.size+1:=cY _;generalize h.push (.map #[] 0)=a at f M z⊢;have F:Fr No a (a.push (.C #[.map (some h.size)] 93)):=Fr.push _ _;refine d _ a.size ⟨λc=>c=a.size\/c=h.size,λ_=>False⟩ ⟨h.size,bZ,M.frame F id,λc=>ff,λ_=>id,ag,.nil⟩ ⟨f.tt F,λc hc=> ?_⟩;rcases hc with hc|hc
 .rcases hc with rfl|rfl<;>omega
 .exact hc.elim
theorem yh{n:Int}(a:R (.B (decide (n≥0) && decide (n<=2))) h):Cl 140 #[.I n] h R:=by
 refine Ci.walk ?_;by_cases q:n≥0
 .simp only[q,bF,bm,eu]at a⊢;exact a
 .simp only[q,bu,ar,aQ,fI]at a⊢;exact a
theorem fM(r:Rg)(f: hH h R (.B (iW r))):Cl 137 #[r.val] h R:=by
 refine Jf.walk (bV.box λb n E i j=> ?_);have l: ∀{g:ai}{K:Bool->Int->Int->ByteArray->ByteArray->Prop},r.at g b->K r.e.lE r.e.node r.e.gL r.e.host r.e.jZ->aw.LD g (AA b 0) K:=λa f=>⟨_,au a,_,au a,_,au a,_,au a,_,au a,f⟩
 refine l i (jG.fM r.e λk F=>⟨_,rfl,?_⟩);have c:=F.get i id;have K:=f k (j.tt F);unfold iW at K;by_cases q:dt r.e=true
 .rw[af q];rw[q,eu]at K;refine l c ⟨_,yA (y:=.zero) (x:=r.e) rfl rfl,?_⟩;by_cases d:r.e=.zero
  .rw[av d,dy];rw[av d]at K;exact K
  .rw[aC d,gi];rw[aC d,dZ,eu]at K;refine⟨_,au c,yh ⟨_,rfl,?_⟩⟩;by_cases Q:(decide (r.lV≥0) && decide (r.lV<=2))=true
   .rw[af Q];rw[Q,eu]at K;refine⟨_,au c,?_⟩;by_cases e:r.own≥1
    .rw[af (av e)];rw[av e,eu]at K;exact⟨_,au c,K⟩
    .rw[ae (cR e)];rw[aC e,fI]at K;exact K
   .rw[ae Q];have Q:(decide (r.lV≥0) && decide (r.lV<=2))=false:=by simpa using Q
    rw[Q,fI]at K;exact K
 .rw[ae q];have q:dt r.e=false:=by simpa using q
  rw[q,fI]at K;exact K
theorem Ub{g:ai}{b:Nat}{r:Rg}{K:Bool->Int->Int->ByteArray->ByteArray->Prop}(a:r.at g b)(c:K r.e.lE r.e.node r.e.gL r.e.host r.e.jZ):aw.LD g (AA b 0) K:=
 ⟨_,au a,_,au a,_,au a,_,au a,_,au a,c⟩
theorem look(c:Nd h b X L m)(x:Ev):iK Tryz.prog 91 (.map (some m)) (lC x) true h (.T #[((jb L x).getD .zero).val,.B (jb L x).isSome]):=by
 have:=Lb qo c.map x;rw[Ml]at this;cases a:jb L x with
 |none=>rw[a]at this;exact this
 |some r=>rw[a]at this;exact this
theorem Fr.put{a d g:ai}{c:Nat}(f:Fr No a d)(l:g.size=d.size)(j: ∀x,x≠c->g[x]? =d[x]?)(k:a.size<=c):Fr No a g:=
 f.fresh (S:=λy=>y=c) ⟨ag,λy _ i=>j y i⟩ (λy e=>ag)
theorem ic(d:Tb h b X L)(x:Ev)(r: hH h R (.T #[((jb L x).getD .zero).val,.B (jb L x).isSome])):
  Cl 118 #[.P b 0,lC x] h R:=by
 obtain⟨m,d⟩:=d;refine yR.walk (aw.box λu y E c e=>bV.box λB z v i g=> ?_);have F:=e.tt g;have c:=g.get c id;have a:=d.on F;refine gp a ⟨_,rfl,?_⟩;rw[dy];refine⟨_,au a.di,aw.ld c ⟨_,_,_,_,_,_,_,_,look a x,bV.box λk C w q f=> ?_⟩⟩;refine⟨f.2 m a.map.lt id,aw.held (f.get c id),au (f.get a.di id),bV.set q λl A S o=>bV.ld A ?_⟩;have p:(Rg.zero).at l B:=by
  have:=f.get i id;have s:B≠k:=by have:=aA i;omega
  unfold Rg.at bV.at;rw[o B s];exact this
 have Z:=F.1;have D:=f.1;refine bV.set p λn j t O=>bV.ld j (r n ?_)
 exact Fr.put (Fr.put (F.tt f) S o ag) t O (bW e.1)
theorem xu(j:Tb h b X L)(x:Ev)(o:Int)(I: hH h R (.T #[(if jS L x o=0 then(jb L x).getD .zero else .zero).val,.I (jS L x o)])):
  Cl 138 #[.P b 0,lC x,.I o] h R:=by
 obtain⟨m,j⟩:=j;refine Bm.walk (aw.box λK P q g u=>bV.box λB Q t w F=> ?_);have v:=u.tt F;have g:=F.get g id;have c:=j.on v;refine gp c ⟨_,rfl,?_⟩;rw[dy];refine⟨_,au c.di,aw.ld g ⟨_,_,_,_,_,_,_,_,look c x,bV.box λD T M G f=> ?_⟩⟩;refine⟨f.2 m c.map.lt id,aw.held (f.get g id),au (f.get c.di id),bV.set G λn k S z=> ?_⟩;have p:(Rg.zero).at n B:=by
  have:=f.get w id;have J:B≠D:=by have:=aA w;omega
  unfold Rg.at bV.at;rw[z B J];exact this
 have Z:=u.1;have U:=F.1;have C:=Fr.put (v.tt f) S z ag;have l: ∀(r:Rg)(e:Int),(if jS L x o=0 then(jb L x).getD .zero else .zero)=r->jS L x o=e->∀a,r.at a B->a.size=n.size->(∀y,y≠B->a[y]? =n[y]?)->R (.T #[r.val,.I e]) a:=by
  intro r e q t a _ s O;rw[<-q,<-t];exact I a (Fr.put C s O ag)
 cases d:jb L x with
 |none=>
  have E:jS L x o=4:=by unfold jS;rw[d]
  rw[af (by rfl)];exact bV.set p λa A s O=>bV.ld A (l .zero 4 (by rw[E,dy]) E a A s O)
 |some r=>
  rw[d]at k;rw[ae bU];refine⟨_,au k,?_⟩;by_cases i:r.own=o
  .have E:jS L x o=0:=by unfold jS;rw[d];exact af i
   rw[ae (cR i)];exact bV.ld k (bV.set p λa A s O=>bV.ld A (l r 0 (by rw[E,af rfl,d];rfl) E a A s O))
  .have E:jS L x o=13:=by unfold jS;rw[d];exact ae i
   rw[af (cR i)];exact bV.set p λa A s O=>bV.ld A (l .zero 13 (by rw[E,dy]) E a A s O)
theorem Nd.put{l:List Rg}{d:ai}(a:Nd h b X L m)(M:jM d m lC (l.map Rg.pair))(j:d.size=h.size)(g: ∀c,c≠m->d[c]? =h[c]?)(so:l.Pairwise rX):Nd d b X l m/\bw X h X d:=by
 have f:Fr X.M h d:=⟨ag,λc _ i=>g c (λe=>i ((a.fm c).2 (.inr e)))⟩;refine⟨⟨?_,M,a.fm,a.d,a.ne,so⟩,bw.vq f⟩;rw[g b a.ne];exact a.di
theorem He(L:List Rg)(x:Ev):wR (L.map Rg.pair) x=(Mn L x).map Rg.pair:=by
 unfold wR Mn;rw[dO];rfl
theorem QY{x:Ev}(s:L.Pairwise rX):(Mn L x).Pairwise rX:=s.sublist cU
theorem QZ{x:Ev}{p:Int}(s:L.Pairwise rX):(Ji L x p).Pairwise rX:=by
 unfold Ji;rw[fF];refine s.imp fun {u v} a=> ?_
 have e: ∀r:Rg,(if r.e=x then { r with lV:=p } else r:Rg).e=r.e:=λr=>by split<;>rfl
 show oU _ _=true;rw[e,e];exact a
theorem Hf{x:Ev}{p:Int}{r:Rg}: ∀{L:List Rg},L.Pairwise rX->r∈L->r.e=x->(Ji L x p).Perm ({ r with lV:=p } ::Mn L x)
 | [],_,h,_=>by cases h
 |y::l,s,h,e=>by
  obtain⟨c,i⟩:=dU.1 s;unfold Ji Mn;rw[cb,cu];rcases bg.1 h with rfl|h
  .rw[af e,ae (by simp[e])];refine List.Perm.cons _ ?_;have d: ∀z∈l,z.e≠x:=λz a E=>by
    have:=c z a;rw[rX,e,E,x9]at this;cases this
   have g:l.map (λr=>if r.e=x then({ r with lV:=p } :Rg)else r)=l:=by
    conv=>rhs;rw[<-List.map_id l]
    exact fb (λz a=>ae (d z a))
   have E:l.filter (λr=> !decide (r.e=x))=l:=by
    rw[cz];intro z a;simp[d z a]
   rw[g,E]
  .have f:y.e≠x:=λE=>by
    have:=c r h;rw[rX,e,E,x9]at this;cases this
   rw[ae f,af (by simp[f])];exact((Hf i h e).cons y).trans (List.Perm.swap _ _ _)
theorem Bj(g:Tb h b X L)(r:Rg)(hl:L.length<=8)(o: ∀H,Tb H b X (Ck L r)->bw X h X H->R (.I (jB L r)) H):
  Cl 94 #[.P b 0,r.val] h R:=by
 obtain⟨m,g⟩:=g;refine Bl.walk (bV.box λB h1 e1 n l=> ?_);have f:=g.on l;refine gp f ⟨_,rfl,?_⟩;rw[dy];refine⟨_,au f.di,Ub (r:=r) n ⟨_,_,_,_,_,_,_,_,look f r.e,bV.box λC h3 e3 G F=> ?_⟩⟩;have u:=F.get n id;refine⟨F.2 m f.map.lt id,gH u (λj a' a=> ?_),au (F.get f.di id),bV.set G λD Z T O=> ?_⟩
 .rw[bK]
  match j,a with
  |0,a=>simpa using a
  |1,a=>simpa using a
  |2,a=>simpa using a
  |3,a=>simpa using a
  |4,a=>simpa using a
 have z1:=l.1;have z:=Fr.put (l.tt F) T O ag;have v:r.at D B:=by
  have J:B≠C:=by have:=aA n;omega
  unfold Rg.at bV.at;rw[O B J];exact u
 refine bV.ld v (fM r λs p=>⟨_,rfl,?_⟩);have i:=z.tt p;have c:=g.on i;have w:=p.get v id;have k:Ck L r=L->R (.I (jB L r)) s:=λe=>o s (by rw[e];exact⟨m,c⟩) (bw.gT i)
 rcases Bp L r with⟨Q,q⟩|⟨Q,d,q⟩|⟨Q,d,S,q⟩|⟨Q,d,S,q⟩
 .rw[Q,gi];rw[q]at k;exact k (by unfold Ck;rw[q];rfl)
 .rw[Q,dy,af d];rw[q]at k;exact k (by unfold Ck;rw[q];rfl)
 .rw[Q,dy,ae (by rw[d];simp)];refine⟨_,au c.di,_,NH qo c.map,?_⟩;rw[aD,gi];rw[q]at k;exact k (by unfold Ck;rw[q];rfl)
 .rw[Q,dy,ae (by rw[d];simp)];refine⟨_,au c.di,_,NH qo c.map,?_⟩;rw[aD,ae (by simp;omega)];refine⟨_,au c.di,Ub (r:=r) w (bV.ld w (Aa qo c.map (k:=r.e) λt M U P=> ?_))⟩;have E:Ck L r=Cj r L:=af q;have x:=Jh.1 d;have M:jM t m lC ((Cj r L).map Rg.pair):=by
   refine M.perm ?_;unfold FL;rw[sC (λe I=>by obtain⟨y,K,rfl⟩:=bt.1 I;exact x y K)];exact((sL r L).map Rg.pair).symm
  obtain⟨A,V⟩:=c.put M U P (Kv c.so x);rw[E,q]at o;exact o t ⟨m,A⟩ (bw.no i V)
theorem pq(c:Tb h b X L)(x:Ev)(o:Int)(j: ∀H,Tb H b X (Bo L x o)->bw X h X H->R (.I (jS L x o)) H):
  Cl 95 #[.P b 0,lC x,.I o] h R:=by
 refine wi.walk (aw.box λB u E i f=>aw.ld i (xu (c.on f) x o λv d=>⟨_,_,_,_,_,_,_,_,rfl,bV.new λr l t w e=>aG.of λJ g=> ?_⟩));have F:=f.tt (d.tt e);have p:=(d.tt e).get i id;obtain⟨m,c⟩:=c;have a:=c.on F;by_cases q:jS L x o=0
 .rw[af (cR q)];refine⟨_,au a.di,aw.ld p (FN qo a.map (k:=x) λn M s O=>⟨rfl,?_⟩)⟩;subst g;rw[He]at M;obtain⟨k,S⟩:=a.put M s O (QY a.so);exact j n (by unfold Bo;rw[af q];exact⟨m,k⟩) (bw.no F S)
 .rw[ae (cR q)];subst g;exact j l (by unfold Bo;rw[ae q];exact⟨m,a⟩) (bw.gT F)
theorem Mp(a:Tb h b X L)(x:Ev)(o p:Int)(c: ∀H,Tb H b X (Hd L x o p)->bw X h X H->R (.I (Mo L x o p)) H):
  Cl 97 #[.P b 0,lC x,.I o,.I p] h R:=by
 refine wj.walk (aw.box λB d e1 k f=>aG.of λJ g=> ?_);have D:=a;obtain⟨m,a⟩:=a;have n:=a.on f;refine gp n ⟨_,rfl,?_⟩;rw[af rfl];refine yh ⟨_,rfl,?_⟩;subst g;by_cases Q:0<=p/\p<=2
 .have E:(decide (p≥0) && decide (p<=2))=true:=by simp[Q.1,Q.2]
  have e:Mo L x o p=jS L x o:=af Q;rw[E];dsimp only;rw[dy];refine aw.ld k (xu (D.on f) x o λu j=>⟨_,_,_,_,_,_,_,_,rfl,bV.new λs P e3 y t=>aG.of λJ g=> ?_⟩);have F:=f.tt (j.tt t);have S:=(j.tt t).get k id;have G:=a.on F;rw[e]at c;by_cases q:jS L x o=0
  .rw[af (cR q)];obtain⟨r,z⟩: ∃r,jb L x=some r:=by
    cases U:jb L x with
    |none=>unfold jS at q;rw[U]at q;cases q
    |some r=>exact⟨r,rfl⟩
   rw[af q,z]at y;obtain⟨Z,C⟩:=Jg z;refine bk y bU λv A s4 O=> ?_
   have z1:=f.1;have z2:=j.1;have l:=Fr.put F s4 O ag;have i:=a.on l;have T:Ev.at v B x:=by
    have V:B≠s:=by have:=aA k;omega
    unfold Ev.at aw.at;rw[O B V];exact S
   have A:({ r with lV:=p } :Rg).at v s:=A;refine⟨_,au i.di,aw.ld T (bV.ld A (Aa qo i.map (k:=x) λw M s5 o5=> ?_))⟩;have M:jM w m lC ((Ji L x p).map Rg.pair):=by
    refine M.perm ?_;unfold FL;rw[He];have:=((Hf (p:=p) a.so Z C).map Rg.pair).symm;rw[cb]at this;have K:(x,({ r with lV:=p } :Rg).val)=({ r with lV:=p } :Rg).pair:=by rw[<-C]
    rw[show((x,Value.agg #[.B r.e.lE,.U r.e.node,.U r.e.gL,.S r.e.host,.S r.e.jZ,.I p,.I r.own]):Ev×Value)=({ r with lV:=p } :Rg).pair from K];exact this
   obtain⟨I,st⟩:=i.put M s5 o5 (QZ a.so);subst g;exact c w (by unfold Hd;rw[e,af q];exact⟨m,I⟩) (bw.no l st)
  .rw[ae (cR q)];subst g;exact c P (by unfold Hd;rw[e,ae q];exact⟨m,G⟩) (bw.gT F)
 .have E:(decide (p≥0) && decide (p<=2))=false:=by
   rw[Bool.and_eq_false_iff];by_cases d:p≥0
   .exact .inr (aC (λu=>Q ⟨d,u⟩))
   .exact .inl (aC d)
  have e:Mo L x o p=1:=ae Q;rw[E];dsimp only;rw[gi];rw[e]at c;exact c d (by unfold Hd;rw[e,dy];exact⟨m,n⟩) (bw.gT f)
end gO
end
section
variable {h:ai} {R:fO}
variable {t s S D g:Nat} {n E a v f num:Int} {d i:ct} {e:Bool} {b c:ByteArray}
theorem Jj.walk(o:bf h (.map #[] 0) λB H=>Cl 30 #[] H λV k=>Vp V λT=>Cl 30 #[] k λq l=>Vp q λp=>bf l (.C #[.map (some B),.I 1,.I 0,.I 0,.I 0,.pointer T,.pointer p] 98) λj m=>R (.P j 0) m):Cl 15 #[] h R:=aS [] Tryz.func15 o
theorem wk.walk(H: ∃T,Cc h t 0 (.map T)/\R (.B (!T.isNone)) h):Cl 58 #[.P t 0] h R:=aS [] Tryz.func58 H
theorem rY.walk(P:Cl 58 #[.P t 0] h λa' H=>Vb a' λZ=>aG (λ(x:ct) (w u:Nat) (C:ai)=>Cl 217 #[.L x w u] C λb' F=>b'=.T #[]/\R (.L x w u) F) (λJ=>if Z then∃y,Cc H t 0 (.map y)/\aT Tryz.prog (Instr.range 94 (.map y)) H λc' G=> ∃(l:Nat),c'=.P l 0/\∃(I:ct->Nat->Nat->ai->Prop)(M:ct->Nat->Nat->ai->Nat),I none 0 0 G/\∀(j:ct)(O o:Nat)(k:ai),I j O o k->aT Tryz.prog (Instr.next (.P l 0) false 0) k λV q=>(V=.T #[.B false]/\J j O o q)\/(∃(Q U:Value),V=.T #[.B true,Q,U]/\aT Tryz.prog (Instr.entry (.P l 0)) q λd' K=> ∃(z X:Value),d'=.T #[z,X]/\∃A,z=.I A/\bf K (.C #[.I A] 3) λB L=>aT Tryz.prog (Builtin.append_ #[113,113] 113 #[.L j O o,.L (Sa B 0) 1 1]) L λe' r=> ∃p m T,e'=.L p m T/\(I p m T r/\M p m T r<M j O o k))else J none 0 0 H)):Cl 180 #[.P t 0] h R:=aS [(7,.join [(3,.one (.slice))]),(11,.loop [(3,.one (.slice))]),(20,λ_=> .typed [(15,.one (.int .i64))])] Tryz.func180 P
theorem wm.walk{C:Nat}{j:Nat}(H:Hp h C 0 λF=>aN F λA=> ∃l,aU h A=some (.map l)/\∃T,iK Tryz.prog 94 (.map l) (.I n) false h (.pointer T)/\aN T λm=>aw.LD h (m.add 1) λo p q r u=>aw.LD h (AA j 0) λw x y z B=> ∃(k:Bool),BP Tryz.prog 29 (.agg #[.B o,.U p,.U q,.S r,.S u]) (.agg #[.B w,.U x,.U y,.S z,.S B]) k/\R (.B (!k)) h):Cl 181 #[.I n,.P C 0,.P j 0] h R:=aS [(3,λ_=>pN 12)] Tryz.func181 H
theorem mU.of.walk{l:Nat}{m:Nat}(C:Cl 216 #[.L d s S,.func (.func 181) #[] #[.P l 0,.P m 0]] h λV p=> ∃T,V=.I T/\if(T==(-1))then R (.L d s S) p else∃(I:Int->Int->ai->Prop)(M:Int->Int->ai->Nat),I T (wrap .i64 (T+1)) p/\∀(k:Int)(j:Int)(H:ai),I k j H->if(decide (j<(s:Int)))then aG (λ(u:Int) (q:ai)=>(I u (wrap .i64 (j+1)) q/\M u (wrap .i64 (j+1)) q<M k j H)) (λJ=>Bd j s/\aN d λA=>kK H (A.add (toNat j*1)) λw=>Cl 181 #[.I w,.P l 0,.P m 0] H λK r=>Vb K λG=>aG (λ(F:Int) (y:ai)=>J F y) (λo=>if(!G)then Bd k s/\aN d λx=>aJ r (x.add (toNat k*1)) (.I w) λz=>o (wrap .i64 (k+1)) z else o k r))else((0:Int)<=k/\k<=(s:Int))/\aT Tryz.prog (Builtin.clear_ #[113] 0 #[.L (cQ d S (toNat k) 1) (s - (toNat k)) (S - (toNat k))]) H λL B=>L=.T #[]/\((0:Int)<=k/\k<=(S:Int))/\R (.L (cQ d S 0 1) ((toNat k) - 0) (S - 0)) B):Cl 179 #[.L d s S,.func (.func 181) #[] #[.P l 0,.P m 0]] h R:=aS [(16,.loop [(5,.one (.int .i64)),(6,.one (.int .i64))]),(24,.join [(5,.one (.int .i64))]),(29,.join [(5,.one (.int .i64))])] Tryz.func179 C
theorem iF.of.walk{F:Nat}{k:Nat}(o: ∃(I:Int->ai->Prop)(m:Int->ai->Nat),I 0 h/\∀(T:Int)(H:ai),I T H->if(decide (T<(s:Int)))then Bd T s/\aN d λA=>kK H (A.add (toNat T*1)) λp=>Cl 181 #[.I p,.P F 0,.P k 0] H λV j=> ∃l,V=.B l/\if l then R (.I T) j else(I (wrap .i64 (T+1)) j/\m (wrap .i64 (T+1)) j<m T H)else R (.I (-1)) H):Cl 216 #[.L d s S,.func (.func 181) #[] #[.P F 0,.P k 0]] h R:=aS [(6,.loop [(8,.one (.int .i64))])] Tryz.func216 o
theorem yS.walk(q:bf h (.C #[.P t 0] 59) λB m=>bf m (.C #[.B e,.U E,.U a,.S b,.S c] 29) λl H=>Hp H B 0 λr=>Cl 180 #[.pointer r] H λV o=>Vl V λx w u=>Cl 179 #[.L x w u,.func (.func 181) #[] #[.P B 0,.P l 0]] o λy p=> ∃k j T,y=.L k j T/\R (.L k j T) p):Cl 139 #[.P t 0,.agg #[.B e,.U E,.U a,.S b,.S c]] h R:=aS [] Tryz.func139 q
theorem uC.walk(y:bf h (.C #[.B e,.U E,.U a,.S b,.S c] 29) λB k=>aw.LD k (AA B 0) λK L M O P=>Cl 139 #[.P t 0,.agg #[.B K,.U L,.U M,.S O,.S P]] k λV w=>Vl V λC p _=> ∃(I:Int->Int->ai->Prop)(m:Int->Int->ai->Nat),I 0 0 w/\∀(n:Int)(T:Int)(H:ai),I n T H->if(decide (T<(p:Int)))then aG (λ(o:Int) (l:ai)=>(I o (wrap .i64 (T+1)) l/\m o (wrap .i64 (T+1)) l<m n T H)) (λJ=>Bd T p/\aN C λA=>kK H (A.add (toNat T*1)) λF=> ∃q,Cc H t 0 (.map q)/\∃r,iK Tryz.prog 94 (.map q) (.I F) false H (.pointer r)/\aN r λu=>kK H (u.add 8) λG=>aG (λ(z:Int) (x:ai)=>J z x) (λj=>if(G==0)then j (wrap .i64 (n+1)) H else j n H))else R (.I n) H):Cl 100 #[.P t 0,.agg #[.B e,.U E,.U a,.S b,.S c]] h R:=aS [(8,.loop [(5,.one (.int .i64)),(12,.one (.int .i64))]),(16,.join [(5,.one (.int .i64))]),(21,.join [(5,.one (.int .i64))])] Tryz.func100 y
theorem Cn.walk(l:bf h (.C #[.B e,.U E,.U a,.S b,.S c] 29) λB k=>aw.LD k (AA B 0) λu w x y z=>Cl 29 #[.agg #[.B u,.U w,.U x,.S y,.S z]] k λV H=> ∃T,V=.B T/\if T then aw.LD H (AA B 0) λm o p q r=> ∃(j:Bool),BP Tryz.prog 29 (.agg #[.B m,.U o,.U p,.S q,.S r]) (.agg #[.B false,.U 0,.U 0,.S ij,.S ij]) j/\if(!j)then if(decide ((D:Int)≥1))then if(decide ((D:Int)<=600))then R (.B (decide (v<=1099511627776))) H else R (.B false) H else R (.B false) H else R (.B false) H else R (.B false) H):Cl 171 #[.agg #[.B e,.U E,.U a,.S b,.S c],.L i D g,.U v] h R:=aS [] Tryz.func171 l
theorem xz.walk(K:bf h (.C #[.B e,.U E,.U a,.S b,.S c] 29) λB I=>Cl 58 #[.P t 0] I λi' k=> ∃z,i'=.B z/\if(!z)then R (.T #[.I 0,.I 6]) k else aw.LD k (AA B 0) λL M O P Q=>Cl 171 #[.agg #[.B L,.U M,.U O,.S P,.S Q],.L i D g,.U v] k λj' l=> ∃A,j'=.B A/\if(!A)then R (.T #[.I 0,.I 1]) l else aw.LD l (AA B 0) λU V X Z a'=>Cl 139 #[.P t 0,.agg #[.B U,.U V,.U X,.S Z,.S a']] l λk' H=> ∃c' C b',k'=.L c' C b'/\if(decide (((C:Nat):Int)≥16))then R (.T #[.I 0,.I 15]) H else Hi H t 1 λT=> ∃F,Cc H t 1 (.I F)/\aJ H (AA t 1) (.I (wrap .i64 (F+1))) λm=> ∃j,Cc m t 0 (.map j)/\aw.LD m (AA B 0) λq r u w x=>Cl 54 #[.L i D g] m λl' o=>Vl l' λf' e' d'=>dN (AA B 0) [.B q,.U r,.U u,.S w,.S x] 0 o/\Cc o t 0 (.map j)/\bf o (.C #[.I T,.B q,.U r,.U u,.S w,.S x,.L f' e' d',.U v,.I 0,.U 0] 168) λG p=>dN (AA B 0) [.B q,.U r,.U u,.S w,.S x] 0 p/\Cc p t 0 (.map j)/\aT Tryz.prog (Instr.mapUpdate 94 (.map j) (.I T) (.P G 0)) p λ_ y=>Hp y t 5 λg'=>Cl 172 #[.pointer g',.I T,.U v] y λm' J=> ∃h',m'=.I h'/\R (.T #[.I T,.I 0]) J):Cl 122 #[.P t 0,.agg #[.B e,.U E,.U a,.S b,.S c],.L i D g,.U v] h R:=aS [(28,λ_=> .qT (.op 0 (.op 1 (.op 2 (.op 3 (.op 4 (.op 5 (.op 6 (.op 7 (.op 9 (.op 8 (.op 10 (.op 11 (.op 12 .done))))))))))))))] Tryz.func122 K
theorem xA.walk(H:if(decide (n≥1))then R (.B (decide (n<=1099511627776))) h else R (.B false) h):Cl 187 #[.I n] h R:=aS [] Tryz.func187 H
theorem uD.walk{k:Int}(hv:bf h (.C #[.B e,.U E,.U a,.S b,.S c] 29) λd' e'=>bf e' (.C #[.I 0,.B false,.U 0,.U 0,.S ij,.S ij,.Z,.U 0,.I 0,.U 0] 168) λB h'=>Cl 58 #[.P t 0] h' λe4 y=> ∃C,e4=.B C/\if(!C)then aR.ST y (AA B 0) 0 false 0 0 ij ij none 0 0 0 0 0 λz=>aR.LD z (AA B 0) λk' o' s' w' A' E' R' M' I' V' a1 a5=>R (.T #[.agg #[.I k',.B o',.U s',.U w',.S A',.S E',.L R' M' I',.U V',.I a1,.U a5],.I 6]) z else aG (λ(a9:Bool) (m:ai)=>if a9 then aR.ST m (AA B 0) 0 false 0 0 ij ij none 0 0 0 0 0 λA=>aR.LD A (AA B 0) λl' p' t' x' B' F' S' O' J' X' a2 a6=>R (.T #[.agg #[.I l',.B p',.U t',.U x',.S B',.S F',.L S' O' J',.U X',.I a2,.U a6],.I 1]) A else aw.LD m (AA d' 0) λb0 b1 b2 b3 b4=>Cl 139 #[.P t 0,.agg #[.B b0,.U b1,.U b2,.S b3,.S b4]] m λe5 i'=>Vl e5 λb5 G _=> ∃(I:Int->ai->Prop)(M:Int->ai->Nat),I 0 i'/\∀(T:Int)(H:ai),I T H->if(decide (T<(G:Int)))then Bd T G/\aN b5 λV=>kK H (V.add (toNat T*1)) λK=> ∃L,Cc H t 0 (.map L)/\∃j,iK Tryz.prog 94 (.map L) (.I K) false H (.pointer j)/\aN j λX=> ∃O,aU H (X.add 8)=some (.I O)/\if(O==0)then aN j λZ=>aJ H (Z.add 8) (.I f) λj'=>aN j λa'=>aJ j' (a'.add 9) (.U k) λo=>Hp o t 6 λb6=>Cl 172 #[.pointer b6,.I K,.U k] o λe6 p=>Vi e6 λ_=>aN j λb'=>aR.LD p b' λb7 b8 b9 c0 c1 c2 c5 c4 c3 c6 c7 c8=>bf p (.C #[.I 0,.B false,.U 0,.U 0,.S ij,.S ij,.Z,.U 0,.I 0,.U 0] 168) λl f'=>aR.ST f' (AA l 0) b7 b8 b9 c0 c1 c2 c5 c4 c3 c6 c7 c8 λq=>aN j λc'=>oL q (c'.add 6) λd1 d0 c9=>Cl 54 #[.L d1 d0 c9] q λe7 g'=> ∃U Q P,e7=.L U Q P/\aJ g' (AA l 6) (.L U Q P) λr=>aR.LD r (AA l 0) λd2 d3 d4 d5 d6 d7 e0 d9 d8 e1 e2 e3=>aR.ST r (AA B 0) d2 d3 d4 d5 d6 d7 e0 d9 d8 e1 e2 e3 λu=>aR.LD u (AA B 0) λm' q' u' y' C' G' T' P' K' Z' a3 a7=>R (.T #[.agg #[.I m',.B q',.U u',.U y',.S C',.S G',.L T' P' K',.U Z',.I a3,.U a7],.I 0]) u else(I (wrap .i64 (T+1)) H/\M (wrap .i64 (T+1)) H<M T H)else aR.ST H (AA B 0) 0 false 0 0 ij ij none 0 0 0 0 0 λw=>aR.LD w (AA B 0) λn' r' v' z' D' H' U' Q' L' a0 a4 a8=>R (.T #[.agg #[.I n',.B r',.U v',.U z',.S D',.S H',.L U' Q' L',.U a0,.I a4,.U a8],.I 4]) w) (λJ=>Cl 187 #[.I f] y λe8 x=> ∃F,e8=.B F/\if(!F)then J true x else J (decide (k>1099511627776)) x)):Cl 146 #[.P t 0,.agg #[.B e,.U E,.U a,.S b,.S c],.I f,.U k] h R:=aS [(11,.join [(19,.one (.bool))]),(21,.loop [(32,.one (.int .i64))])] Tryz.func146 hv
theorem wo.walk(z:Cl 58 #[.P t 0] h λV H=> ∃T,V=.B T/\if(!T)then R (.T #[.pointer none,.I 6]) H else∃k,Cc H t 0 (.map k)/\∃l,iK Tryz.prog 94 (.map k) (.I num) false H (.pointer l)/\if l.isNone then R (.T #[.pointer none,.I 4]) H else aG (λ(B:Bool) (j:ai)=>if B then R (.T #[.pointer none,.I 14]) j else∃w,Cc j t 0 (.map w)/\∃x,iK Tryz.prog 94 (.map w) (.I num) false j (.pointer x)/\R (.T #[.pointer x,.I 0]) j) (λJ=> ∃m,Cc H t 0 (.map m)/\∃o,iK Tryz.prog 94 (.map m) (.I num) false H (.pointer o)/\aN o λA=> ∃p,aU H (A.add 8)=some (.I p)/\if(p==0)then J true H else∃q,Cc H t 0 (.map q)/\∃r,iK Tryz.prog 94 (.map q) (.I num) false H (.pointer r)/\aN r λy=> ∃u,aU H (y.add 8)=some (.I u)/\J (u !=f) H)):Cl 154 #[.P t 0,.I num,.I f] h R:=aS [(17,.join [(20,.one (.bool))])] Tryz.func154 z
theorem wu.walk(q:Hp h t 6 λr=>Cl 81 #[.pointer r,.I n] h λV H=>Vi V λ_=> ∃T,Cc H t 0 (.map T)/\∃j,iK Tryz.prog 94 (.map T) (.I n) false H (.pointer j)/\∃k,Cc H t 0 (.map k)/\∃l,iK Tryz.prog 94 (.map k) (.I n) false H (.pointer l)/\aN j λA=>aJ H (A.add 8) (.I 0) λo=>aN l λm=>aJ o (m.add 9) (.U 0) λp=>R (.T #[]) p):Cl 61 #[.P t 0,.I n] h R:=aS [(2,λ_=>pN 18)] Tryz.func61 q
theorem tF.walk(l:Hp h t 6 λo=>Cl 81 #[.pointer o,.I n] h λV H=>Vi V λ_=>Hp H t 5 λm=>Cl 81 #[.pointer m,.I n] H λp j=>Vi p λ_=> ∃T,Cc j t 0 (.map T)/\aT Tryz.prog (Builtin.delete_ #[94,3] 0 #[.map T,.I n]) j λq k=>q=.T #[]/\R (.T #[]) k):Cl 60 #[.P t 0,.I n] h R:=aS [] Tryz.func60 l
theorem xB.walk(o:Cl 154 #[.P t 0,.I num,.I f] h λV H=> ∃p T,V=.T #[.pointer p,.I T]/\aG (λ(l:ai)=>R (.I T) l) (λJ=>if(T==0)then Cl 60 #[.P t 0,.I num] H λq j=>q=.T #[]/\∃k,Cc j t 2 (.I k)/\aJ j (AA t 2) (.I (wrap .i64 (k+1))) λm=>J m else J H)):Cl 150 #[.P t 0,.I num,.I f] h R:=aS [(7,.join [])] Tryz.func150 o
theorem rZ.walk(l:Cl 154 #[.P t 0,.I num,.I f] h λV H=> ∃m T,V=.T #[.pointer m,.I T]/\aG (λ(j:ai)=>R (.I T) j) (λJ=>if(T==0)then Cl 61 #[.P t 0,.I num] H λo k=>o=.T #[]/\J k else J H)):Cl 104 #[.P t 0,.I num,.I f] h R:=aS [(7,.join [])] Tryz.func104 l
theorem wv.walk{o:Int}(J:Cl 58 #[.P t 0] h λV m=> ∃x,V=.B x/\if(!x)then R (.Z) m else Hp m t 5 λK=>Cl 59 #[.pointer K,.U o] m λX F=>Vl X λy p L=> ∃(I:Int->ai->Prop)(M:Int->ai->Nat),I 0 F/\∀(T:Int)(H:ai),I T H->if(decide (T<(p:Int)))then Bd T p/\aN y λB=>kK H (B.add (toNat T*1)) λO=>Cl 60 #[.P t 0,.I O] H λZ q=>Z=.T #[]/\∃z,Cc q t 3 (.I z)/\aJ q (AA t 3) (.I (wrap .i64 (z+1))) λr=>(I (wrap .i64 (T+1)) r/\M (wrap .i64 (T+1)) r<M T H)else Hp H t 6 λP=>Cl 59 #[.pointer P,.U o] H λa' G=>Vl a' λQ A _=> ∃(l:Int->ai->Prop)(w:Int->ai->Nat),l 0 G/\∀(j:Int)(k:ai),l j k->if(decide (j<(A:Int)))then Bd j A/\aN Q λC=>kK k (C.add (toNat j*1)) λU=>Cl 61 #[.P t 0,.I U] k λb' u=>b'=.T #[]/\(l (wrap .i64 (j+1)) u/\w (wrap .i64 (j+1)) u<w j k)else R (.L y p L) k):Cl 39 #[.P t 0,.U o] h R:=aS [(16,.loop [(21,.one (.int .i64))]),(35,.loop [(43,.one (.int .i64))])] Tryz.func39 J
theorem wx.walk(r:bf h (.C #[.B e,.U E,.U a,.S b,.S c] 29) λB k=>aw.LD k (AA B 0) λx y z C F=>Cl 139 #[.P t 0,.agg #[.B x,.U y,.U z,.S C,.S F]] k λV q=>Vl V λo j u=> ∃(I:Int->ai->Prop)(M:Int->ai->Nat),I 0 q/\∀(T:Int)(H:ai),I T H->if(decide (T<(j:Int)))then Bd T j/\aN o λA=>kK H (A.add (toNat T*1)) λw=>Cl 60 #[.P t 0,.I w] H λG l=>G=.T #[]/\∃p,Cc l t 4 (.I p)/\aJ l (AA t 4) (.I (wrap .i64 (p+1))) λm=>(I (wrap .i64 (T+1)) m/\M (wrap .i64 (T+1)) m<M T H)else R (.L o j u) H):Cl 96 #[.P t 0,.agg #[.B e,.U E,.U a,.S b,.S c]] h R:=aS [(8,.loop [(13,.one (.int .i64))])] Tryz.func96 r
theorem xC.walk(Q:Cl 180 #[.P t 0] h λz' J=>Vl z' λy' A _=> ∃(I:ct->Nat->Nat->Int->ai->Prop)(M:ct->Nat->Nat->Int->ai->Nat),I none 0 0 0 J/\∀(j:ct)(O o:Nat)(T:Int)(H:ai),I j O o T H->if(decide (T<(A:Int)))then Bd T A/\aN y' λC=>kK H (C.add (toNat T*1)) λU=> ∃u,Cc H t 0 (.map u)/\∃w,iK Tryz.prog 94 (.map u) (.I U) false H (.pointer w)/\aN w λF=>aR.LD H F λV X Z a' b' c' f' e' d' g' h' i'=>bf H (.C #[.I 0,.B false,.U 0,.U 0,.S ij,.S ij,.Z,.U 0,.I 0,.U 0] 168) λB K=>aR.ST K (AA B 0) V X Z a' b' c' f' e' d' g' h' i' λp=>Hl p B 6 λl' k' j'=>Cl 54 #[.L l' k' j'] p λA' L=> ∃z y x,A'=.L z y x/\aJ L (AA B 6) (.L z y x) λq=>aR.LD q (AA B 0) λm' n' o' p' q' r' u' t' s' v' w' x'=>bf q (.C #[.I m',.B n',.U o',.U p',.S q',.S r',.L u' t' s',.U v',.I w',.U x'] 168) λG P=>aT Tryz.prog (Builtin.append_ #[244,244] 244 #[.L j O o,.L (Sa G 0) 1 1]) P λB' r=> ∃m l k,B'=.L m l k/\(I m l k (wrap .i64 (T+1)) r/\M m l k (wrap .i64 (T+1)) r<M j O o T H)else R (.L j O o) H):Cl 149 #[.P t 0] h R:=aS [(8,.loop [(3,.one (.slice)),(10,.one (.int .i64))])] Tryz.func149 Q

end
section
open Go.kU
namespace gY
open jG cg
variable {h h':ai} {t:Nat} {X:Ft}
structure Cp where
 num:Nat
 e:Ev
 d:cG
 fS:Nat
 ses:Int
 dl:Nat
structure CV where
 num:Nat
 b:Nat
 e:Ev
 v:BV
 fS:Nat
 ses:Int
 dl:Nat
def CV.abs(x:CV):Cp:=⟨x.num,x.e,x.v.b,x.fS,x.ses,x.dl⟩
abbrev CV.at(h:ai)(b:Nat)(x:CV):Prop:=aR.at h b (x.num:Int) x.e.lE x.e.node x.e.gL x.e.host x.e.jZ x.v.p x.v.b.length x.v.c (x.fS:Int) x.ses (x.dl:Int)
structure CF where
 L:List Cp
 next:Nat
 gF:Nat
 over:Nat
 gone:Nat
 E1:List E
 E2:List E
abbrev gI(b:Int):Value:=.int .i64 b
theorem Vv:CM Tryz.prog 3 gI:=⟨λc b h=>dA,λe c h=>dA,by
 have H:Tryz.prog.underlying 3=some (.int .i64):=dA
 exact⟨_,H,λc b=> .inr rfl⟩,λc=>by simp[Instr.sameBits]⟩
theorem qo:oR Tryz.prog 94 gI (.pointer none):=oR.of 3 169 dA Vv dA
abbrev CV.pair(x:CV):Int×Value:=((x.num:Int),.pointer (some ⟨x.b,0,none⟩))
structure Cm (h:ai) (t:Nat) (X:Ft) (s:CF) (m:Nat) (a:List CV) (A:Nat) (g:Nat->Prop) (f:Nat) (i:Nat->Prop) (l:Nat->Option Nat):Prop where
 di:h[t]? =some (.cells #[.map (some m),.int .i64 (s.next:Int),.int .i64 (s.gF:Int),.int .i64 (s.over:Int),.int .i64 (s.gone:Int),.pointer (some ⟨A,0,none⟩),.pointer (some ⟨f,0,none⟩)] 98 (0,0))
 map:jM h m gI (a.map CV.pair)
 Hh: ∀x∈a,x.at h x.b
 abs:a.map CV.abs=s.L
 EE: ∀x∈a,x.v.ok h X.D
 Jk:Al h A g s.E1
 Jl:Al h f i s.E2
 l0:l t=some 0
 l1:l m=some 1
 l2: ∀c,g c->l c=some 2
 l3: ∀c,i c->l c=some 3
 l4: ∀x∈a,l x.b=some (4+x.num)
 mm: ∀c,X.M c↔l c≠none
 dd: ∀c,X.D c->l c=none/\c<h.size
 Fs: ∀c,l c≠none->c<h.size
 so:(a.map CV.num).Pairwise (· < ·)
def Ct(h:ai)(t:Nat)(X:Ft)(s:CF):Prop:= ∃m a A g f i l,Cm h t X s m a A g f i l
variable {s s' : CF} {m A f : Nat} {a : List CV} {g i n j : Nat → Prop} {l : Nat → Option Nat}
structure Kept (h':ai) (t:Nat) (X:Ft) (s:CF) (m:Nat) (a:List CV) (A:Nat) (g:Nat->Prop) (f:Nat) (i:Nat->Prop) (k:Nat):Prop where
 di:k≠0->h'[t]? =some (.cells #[.map (some m),.int .i64 (s.next:Int),.int .i64 (s.gF:Int),.int .i64 (s.over:Int),.int .i64 (s.gone:Int),.pointer (some ⟨A,0,none⟩),.pointer (some ⟨f,0,none⟩)] 98 (0,0))
 map:k≠1->jM h' m gI (a.map CV.pair)
 Jk:k≠2->Al h' A g s.E1
 Jl:k≠3->Al h' f i s.E2
 Hh: ∀x∈a,k≠4+x.num->x.at h' x.b
 EE: ∀x∈a,x.v.ok h' X.D
theorem Cm.vY{Q:Nat->Prop}{k:Nat}(H:Cm h t X s m a A g f i l)(F:Fr Q h h')(r: ∀c,Q c->c<h.size->l c=some k):Kept h' t X s m a A g f i k:=by
 have o: ∀{c J:Nat},c<h.size->l c=some J->k≠J->¬Q c:=λd u b p=>b (by have:=r _ p d;rw[u]at this;exact(aX this).symm)
 refine⟨λb=>F.get H.di (o (aA H.di) H.l0 b),λb=>H.map.frame F (o H.map.lt H.l1 b),λb=> ?_,λb=> ?_,λx e b=>F.get (H.Hh x e) (o (aA (H.Hh x e)) (H.l4 x e) b),λx e=> ?_⟩
 .exact H.Jk.frame F (λc d=>o (H.Jk.lt d) (H.l2 c d) b)
 .exact H.Jl.frame F (λc d=>o (H.Jl.lt d) (H.l3 c d) b)
 .refine(H.EE x e).frame F (λc d p=> ?_);have:=H.dd c d;have q:=r c p this.2;rw[this.1]at q;cases q
theorem Cm.frame{Q:Nat->Prop}(H:Cm h t X s m a A g f i l)(F:Fr Q h h')(k: ∀y,X.M y\/X.D y->¬Q y):Cm h' t X s m a A g f i l:=by
 have d: ∀{c J:Nat},l c=some J->¬Q c:=λo=>k _ (.inl ((H.mm _).2 (by rw[o];simp)))
 exact⟨F.get H.di (d H.l0),H.map.frame F (d H.l1),λx e=>F.get (H.Hh x e) (d (H.l4 x e)),H.abs,λx e=>(H.EE x e).frame F (λc b=>k c (.inr b)),
  H.Jk.frame F (λc b=>d (H.l2 c b)),H.Jl.frame F (λc b=>d (H.l3 c b)),H.l0,H.l1,H.l2,H.l3,H.l4,H.mm,λc b=>⟨(H.dd c b).1,cK (H.dd c b).2 F.1⟩,λc b=>cK (H.Fs c b) F.1,H.so⟩
theorem Cm.on(H:Cm h t X s m a A g f i l)(F:Fr No h h'):Cm h' t X s m a A g f i l:=H.frame F bX
theorem Ct.frame{Q:Nat->Prop}(H:Ct h t X s)(F:Fr Q h h')(b: ∀y,X.M y\/X.D y->¬Q y):Ct h' t X s:=by
 obtain⟨m,a,A,g,f,i,l,H⟩:=H;exact⟨m,a,A,g,f,i,l,H.frame F b⟩
theorem Ct.on(H:Ct h t X s)(F:Fr No h h'):Ct h' t X s:=H.frame F bX
theorem Ct.lt(H:Ct h t X s)(y:Nat)(hy:X.M y\/X.D y):y<h.size:=by
 obtain⟨m,a,A,g,f,i,l,H⟩:=H;rcases hy with hy|hy
 .exact H.Fs y ((H.mm y).1 hy)
 .exact(H.dd y hy).2
theorem Cm.step{Q:Nat->Prop}{k:Nat}(H:Cm h t X s m a A g f i l)(F:Fr Q h h')(e: ∀c,Q c->c<h.size->l c=some k):bw X h X h':=
 bw.vq (F.mono λc d b=>(H.mm c).2 (by rw[e c b d];simp))
theorem Cm.field(H:Cm h t X s m a A g f i l)(q:s'.L=s.L)(o:s'.E1=s.E1)(p:s'.E2=s.E2)(r:h'[t]? =some (.C #[.map (some m),.I (s'.next:Int),.I (s'.gF:Int),.I (s'.over:Int),.I (s'.gone:Int),.P A 0,.P f 0] 98 (0,0)))(k:h'.size=h.size)(v: ∀x,x≠t->h'[x]? =h[x]?):Cm h' t X s' m a A g f i l/\bw X h X h':=by
 have F:Fr (λc=>c=t) h h':=⟨ag,λc _ u=>v c u⟩;have d: ∀c,c=t->c<h.size->l c=some 0:=λc e _=>by rw[e];exact H.l0
 have K:=H.vY F d;refine⟨⟨r,K.map ag,λx w=>K.Hh x w ag,H.abs.trans q.symm,K.EE,by rw[o];exact K.Jk ag,by rw[p];exact K.Jl ag,H.l0,H.l1,H.l2,H.l3,H.l4,H.mm,λc b=>by rw[k];exact H.dd c b,λc b=>by rw[k];exact H.Fs c b,H.so⟩,H.step F d⟩
def Ph(l:Nat->Option Nat)(S:Nat->Prop)[DecidablePred S](k:Nat):Nat->Option Nat:=λc=>if S c then some k else l c
theorem Cm.Jm{w:List E}(H:Cm h t X s m a A g f i l)(v:Al h' f j w)(r: ∀c,j c->i c\/h.size<=c)(F:Fr i h h')(C:s'.L=s.L)(y:s'.E1=s.E1)(B:s'.E2=w)(o:s'.next=s.next/\s'.gF=s.gF/\s'.over=s.over/\s'.gone=s.gone):
  ∃q L,Cm h' t q s' m a A g f j L/\bw X h q h'/\∀c,q.M c->X.M c\/j c:=by
 classical
 have G: ∀c,i c->c<h.size->l c=some 3:=λc b _=>H.l3 c b
 have K:=H.vY F G;have z:=F.1
 let L:=Ph l j 3
 have p: ∀{c J:Nat},l c=some J->J≠3->L c=some J:=fun {c J} k D=>by
  show(if j c then some 3 else l c)=some J;rw[ae]
  .exact k
  .intro b;rcases r c b with h3|h3
   .rw[H.l3 c h3]at k;exact D (aX k).symm
   .have:=H.Fs c (by rw[k];simp);omega
 have u: ∀c,L c≠none->l c≠none\/j c:=λc b=>by
  by_cases d:j c
  .exact .inr d
  .refine .inl ?_;have e:L c=l c:=ae d;rwa[e]at b
 have I: ∀c,l c≠none->L c≠none:=λc b=>by
  by_cases d:j c
  .have e:L c=some 3:=af d;rw[e];simp
  .have e:L c=l c:=ae d;rwa[e]
 have S:bw X h ⟨λc=>L c≠none,X.D⟩ h':=by
  refine⟨F.mono (λc b d=>(H.mm c).2 (by rw[H.l3 c d];simp)),λc b=> ?_,λc b=> .inl b,λc b=>b⟩;rcases u c b with h3|h3
  .exact .inl ((H.mm c).2 h3)
  .rcases r c h3 with h4|h4
   .exact .inl ((H.mm c).2 (by rw[H.l3 c h4];simp))
   .exact .inr h4
 refine⟨⟨λc=>L c≠none,X.D⟩,L,⟨?_,K.map ag,λx d=>K.Hh x d ag,H.abs.trans C.symm,K.EE,by rw[y];exact K.Jk ag,by rw[B];exact v,p H.l0 ag,p H.l1 ag,λc b=>p (H.l2 c b) ag,λc b=>af b,λx d=>p (H.l4 x d) ag,λc=>ff,λc b=> ?_,λc b=> ?_,H.so⟩,S,λc b=>(u c b).imp (λh=>(H.mm c).2 h) id⟩
 .rw[o.1,o.2.1,o.2.2.1,o.2.2.2];exact K.di ag
 .have:=H.dd c b;refine⟨?_,ag⟩;show(if j c then some 3 else l c)=none;rw[ae]
  .exact this.1
  .intro d;rcases r c d with h3|h3
   .rw[H.l3 c h3]at this;cases this.1
   .omega
 .rcases u c b with h3|h3
  .have:=H.Fs c h3;omega
  .exact v.lt h3
theorem Cm.Jn{w:List E}(H:Cm h t X s m a A g f i l)(v:Al h' A n w)(r: ∀c,n c->g c\/h.size<=c)(F:Fr g h h')(C:s'.L=s.L)(y:s'.E1=w)(B:s'.E2=s.E2)(o:s'.next=s.next/\s'.gF=s.gF/\s'.over=s.over/\s'.gone=s.gone):
  ∃q L,Cm h' t q s' m a A n f i L/\bw X h q h'/\∀c,q.M c->X.M c\/n c:=by
 classical
 have G: ∀c,g c->c<h.size->l c=some 2:=λc b _=>H.l2 c b
 have K:=H.vY F G;have z:=F.1
 let L:=Ph l n 2
 have p: ∀{c J:Nat},l c=some J->J≠2->L c=some J:=fun {c J} k D=>by
  show(if n c then some 2 else l c)=some J;rw[ae]
  .exact k
  .intro b;rcases r c b with h3|h3
   .rw[H.l2 c h3]at k;exact D (aX k).symm
   .have:=H.Fs c (by rw[k];simp);omega
 have u: ∀c,L c≠none->l c≠none\/n c:=λc b=>by
  by_cases d:n c
  .exact .inr d
  .refine .inl ?_;have e:L c=l c:=ae d;rwa[e]at b
 have S:bw X h ⟨λc=>L c≠none,X.D⟩ h':=by
  refine⟨F.mono (λc b d=>(H.mm c).2 (by rw[H.l2 c d];simp)),λc b=> ?_,λc b=> .inl b,λc b=>b⟩;rcases u c b with h3|h3
  .exact .inl ((H.mm c).2 h3)
  .rcases r c h3 with h4|h4
   .exact .inl ((H.mm c).2 (by rw[H.l2 c h4];simp))
   .exact .inr h4
 refine⟨⟨λc=>L c≠none,X.D⟩,L,⟨?_,K.map ag,λx d=>K.Hh x d ag,H.abs.trans C.symm,K.EE,by rw[y];exact v,by rw[B];exact K.Jl ag,p H.l0 ag,p H.l1 ag,λc b=>af b,λc b=>p (H.l3 c b) ag,λx d=>p (H.l4 x d) ag,λc=>ff,λc b=> ?_,λc b=> ?_,H.so⟩,S,λc b=>(u c b).imp (λh=>(H.mm c).2 h) id⟩
 .rw[o.1,o.2.1,o.2.2.1,o.2.2.2];exact K.di ag
 .have:=H.dd c b;refine⟨?_,ag⟩;show(if n c then some 2 else l c)=none;rw[ae]
  .exact this.1
  .intro d;rcases r c d with h3|h3
   .rw[H.l2 c h3]at this;cases this.1
   .omega
 .rcases u c b with h3|h3
  .have:=H.Fs c h3;omega
  .exact v.lt h3
theorem Cm.del{k:Int}(H:Cm h t X s m a A g f i l)(M:jM h' m gI (wR (a.map CV.pair) k))(q:h'.size=h.size)(w: ∀c,c≠m->h'[c]? =h[c]?)(v:s'.L=s.L.filter (λx=> !decide ((x.num:Int)=k)))(r:s'.E1=s.E1)(u:s'.E2=s.E2)(d:s'.next=s.next/\s'.gF=s.gF/\s'.over=s.over/\s'.gone=s.gone):
  Cm h' t X s' m (a.filter (λx=> !decide ((x.num:Int)=k))) A g f i l/\bw X h X h':=by
 have F:Fr (λc=>c=m) h h':=⟨ag,λc _ d=>w c d⟩;have p: ∀c,c=m->c<h.size->l c=some 1:=λc e _=>by rw[e];exact H.l1
 have K:=H.vY F p;have S: ∀x∈a.filter (λx=> !decide ((x.num:Int)=k)),x∈a:=λx b=>(bj.1 b).1
 refine⟨⟨?_,?_,λx b=>K.Hh x (S x b) ag,?_,λx b=>K.EE x (S x b),by rw[r];exact K.Jk ag,by rw[u];exact K.Jl ag,H.l0,H.l1,H.l2,H.l3,λx b=>H.l4 x (S x b),H.mm,λc o=>by rw[q];exact H.dd c o,λc o=>by rw[q];exact H.Fs c o,H.so.sublist (cU.map _)⟩,H.step F p⟩
 .rw[d.1,d.2.1,d.2.2.1,d.2.2.2];exact K.di ag
 .unfold wR at M;rw[dO]at M;exact M
 .rw[v,<-H.abs,dO];rfl
theorem Cm.change{x y:CV}(H:Cm h t X s m a A g f i l)(k:x∈a)(o:y.b=x.b)(v:y.num=x.num)(O:y.v=x.v)(P:y.at h' x.b)(B:h'.size=h.size)(J: ∀c,c≠x.b->h'[c]? =h[c]?)(E:s'.L=s.L.map (λz=>if z.num=x.num then y.abs else z))(C:s'.E1=s.E1)(D:s'.E2=s.E2)(d:s'.next=s.next/\s'.gF=s.gF/\s'.over=s.over/\s'.gone=s.gone):
  Cm h' t X s' m (a.map (λz=>if z.num=x.num then y else z)) A g f i l/\bw X h X h':=by
 have F:Fr (λc=>c=x.b) h h':=⟨ag,λc _ d=>J c d⟩;have w: ∀c,c=x.b->c<h.size->l c=some (4+x.num):=λc e _=>by rw[e];exact H.l4 x k
 have K:=H.vY F w;have M: ∀z∈a.map (λz=>if z.num=x.num then y else z),(z=y)\/(z∈a/\z.num≠x.num):=λz b=>by
  obtain⟨u,L,rfl⟩:=bt.1 b;by_cases e:u.num=x.num
  .rw[af e];exact .inl rfl
  .rw[ae e];exact .inr ⟨L,e⟩
 have S:(a.map (λz=>if z.num=x.num then y else z)).map CV.pair=a.map CV.pair:=by
  rw[dT];refine fb λz b=> ?_
  show CV.pair (if z.num=x.num then y else z)=z.pair;by_cases e:z.num=x.num
  .rw[af e];have:z=x:=by
    obtain⟨Q,q⟩:=bL b;obtain⟨R,r⟩:=bL k;have I:(a.map CV.num).Nodup:=H.so.imp (λh=>Nat.ne_of_lt h);have G:=(az.1 q).1;have:=(fa (l:=a.map CV.num) (i:=Q) (j:=R) (cR G) I).1 (by rw[aL,aL,q,r];simp[e]);subst this;rw[q]at r;exact aX r
   subst this;unfold CV.pair;rw[v,o]
  .rw[ae e]
 refine⟨⟨?_,?_,λz b=> ?_,?_,λz b=> ?_,by rw[C];exact K.Jk ag,by rw[D];exact K.Jl ag,H.l0,H.l1,H.l2,H.l3,λz b=> ?_,H.mm,λc p=>by rw[B];exact H.dd c p,λc p=>by rw[B];exact H.Fs c p,?_⟩,H.step F w⟩
 .rw[d.1,d.2.1,d.2.2.1,d.2.2.2];exact K.di ag
 .rw[S];exact K.map ag
 .rcases M z b with rfl|⟨b,e⟩
  .rw[o];exact P
  .exact K.Hh z b ag
 .rw[E,<-H.abs,dT,dT];refine fb λz _=> ?_
  show CV.abs (if z.num=x.num then y else z)=if z.num=x.num then y.abs else z.abs
  split<;>rfl
 .rcases M z b with rfl|⟨b,_⟩
  .rw[O];exact K.EE x k
  .exact K.EE z b
 .rcases M z b with rfl|⟨b,_⟩
  .rw[o,v];exact H.l4 x k
  .exact H.l4 z b
 .have:(a.map (λz=>if z.num=x.num then y else z)).map CV.num=a.map CV.num:=by
   rw[dT];refine fb λz _=> ?_
   show CV.num (if z.num=x.num then y else z)=z.num;split
   .rename_i e;rw[v,e]
   .rfl
  rw[this];exact H.so
theorem Cm.add{y:CV}{d k:ai}(H:Cm h t X s m a A g f i l)(u:Fr No h d)(E:y.at d y.b)(f':h.size<=y.b)(U:Row d y.v.p (bc y.v.b))(T:y.v.b.length<=y.v.c)(v: ∀c,aP y.v.p c->h.size<=c/\c≠y.b/\c<d.size)(C: ∀x∈a,x.num<y.num)(M:jM k m gI (FL (a.map CV.pair) (y.num:Int) (.P y.b 0)))(hs:k.size=d.size)(ho: ∀c,c≠m->k[c]? =d[c]?)(R:s'.L=s.L++ [y.abs])(O:s'.E1=s.E1)(P:s'.E2=s.E2)(o:s'.next=s.next/\s'.gF=s.gF/\s'.over=s.over/\s'.gone=s.gone):
  ∃w L,Cm k t w s' m (a++ [y]) A g f i L/\bw X h w k:=by
 classical
 have z1:=u.1;have G:=H.on u;have F:Fr (λc=>c=m) d k:=⟨ag,λc _ o=>ho c o⟩;have hq: ∀c,c=m->c<d.size->l c=some 1:=λc e _=>by rw[e];exact H.l1
 have K:=G.vY F hq;have g':=aA E
 let L:=Ph l (λc=>c=y.b) (4+y.num)
 have q: ∀c,c≠y.b->L c=l c:=λc b=>ae b
 have b':L y.b=some (4+y.num):=af rfl;have d': ∀{c:Nat},l c≠none->c≠y.b:=fun {c} b e=>by have:=H.Fs c b;omega
 have p: ∀{c J:Nat},l c=some J->L c=some J:=fun {c J} B=>by rw[q c (d' (by rw[B];simp))];exact B
 let D:=λc=>X.D c\/(y.v.b≠ []/\aP y.v.p c)
 have c':y.b≠m:=λe=>by have:=H.map.lt;omega
 have I: ∀c,D c->L c=none/\c<k.size:=λc b=>by
  rcases b with b|⟨_,b⟩
  .have:=H.dd c b;rw[q c ag];exact⟨this.1,ag⟩
  .have:=v c b;rw[q c this.2.1];refine⟨?_,ag⟩;cases e:l c with
   |none=>rfl
   |some J=>have:=H.Fs c (by rw[e];simp);omega
 refine⟨⟨λc=>L c≠none,D⟩,L,⟨?_,?_,λx hx=> ?_,?_,λx hx=> ?_,by rw[O];exact K.Jk ag,by rw[P];exact K.Jl ag,p H.l0,p H.l1,λc b=>p (H.l2 c b),λc b=>p (H.l3 c b),λx hx=> ?_,λc=>ff,I,λc b=> ?_,?_⟩,?_⟩
 .rw[o.1,o.2.1,o.2.2.1,o.2.2.2];exact K.di ag
 .refine M.perm ?_;unfold FL;rw[sC (λe V=>by obtain⟨x,hx,rfl⟩:=bt.1 V;have:=C x hx;show¬((x.num:Int)=(y.num:Int));omega),ba];exact(List.perm_append_comm (l₁:= [CV.pair y]) (l₂:=a.map CV.pair))
 .rcases bH.1 hx with hx|hx
  .exact K.Hh x hx ag
  .obtain rfl:=bP.1 hx;exact F.get E c'
 .rw[R,<-H.abs,ba];rfl
 .rcases bH.1 hx with hx|hx
  .exact(K.EE x hx).mono (λc b=> .inl b)
  .obtain rfl:=bP.1 hx;refine⟨U.frame F (λr e Z=> ?_),λa' c b=> .inr ⟨a',b⟩,T⟩;have d:=(v r.block ⟨r,e,rfl⟩).1;have k:=H.map.lt;have h3:r.block=m:=Z;omega
 .rcases bH.1 hx with hx|hx
  .exact p (H.l4 x hx)
  .obtain rfl:=bP.1 hx;exact b'
 .by_cases e:c=y.b
  .subst e;omega
  .rw[q c e]at b;have:=H.Fs c b;omega
 .rw[ba,List.pairwise_append];refine⟨H.so,bU,λr S e' z=> ?_⟩;obtain⟨x,hx,rfl⟩:=bt.1 S;simp at z;subst z;exact C x hx
 .refine⟨?_,λc b=> ?_,λc b=> ?_,λc b=> .inl b⟩
  .have Q:Fr (λc=>c=m) h k:=Fr.no u F;exact Q.mono (λc _ e=>(H.mm c).2 (by rw[e,H.l1];simp))
  .by_cases e:c=y.b
   .exact .inr ag
   .have b:L c≠none:=b;rw[q c e]at b;exact .inl ((H.mm c).2 b)
  .rcases b with b|⟨_,b⟩
   .exact .inl b
   .exact .inr (v c b).1
end gY
end
end Go.Proofs.YtkdgpmeojgokdaaGreatDoor
namespace Go.Proofs
open Go.Den
open IntKind (wrap)
open Int (toNat)
section
open Go.Shelf
def Tryz.Mq:Go.Shelf.Ren:=⟨fun|5=>217|8=>248|7=>247|19=>272|20=>273|10=>263|11=>264|12=>265|13=>266|14=>267|15=>268|16=>269|17=>270|18=>271|30=>280|31=>281|32=>282|33=>283|34=>284|35=>285|40=>291|n=>n,fun|23=>113|25=>3|3=>3|32=>256|22=>113|0=>0|44=>340|46=>27|4=>4|36=>374|35=>373|41=>221|5=>5|9=>9|53=>388|57=>391|63=>395|64=>396|n=>n,fun|n=>n⟩
theorem Tryz.RX : Go.Proofs.SlLaysM.n5 Tryz.prog Tryz.Mq := {
  mixed := by kernel_rfl
  f5 := ⟨Tryz.f217.name, by decide, Tryz.func217.trans (congrArg some (by kernel_rfl))⟩
  f7 := ⟨Tryz.f247.name, by decide, Tryz.func247.trans (congrArg some (by kernel_rfl))⟩
  f8 := Tryz.func248.trans (congrArg some (by kernel_rfl))
  f10 := ⟨Tryz.f263.name, by decide, Tryz.func263.trans (congrArg some (by kernel_rfl))⟩
  f11 := ⟨Tryz.f264.name, by decide, Tryz.func264.trans (congrArg some (by kernel_rfl))⟩
  f12 := ⟨Tryz.f265.name, by decide, Tryz.func265.trans (congrArg some (by kernel_rfl))⟩
  f13 := ⟨Tryz.f266.name, by decide, Tryz.func266.trans (congrArg some (by kernel_rfl))⟩
  f14 := ⟨Tryz.f267.name, by decide, Tryz.func267.trans (congrArg some (by kernel_rfl))⟩
  f15 := ⟨Tryz.f268.name, by decide, Tryz.func268.trans (congrArg some (by kernel_rfl))⟩
  f16 := ⟨Tryz.f269.name, by decide, Tryz.func269.trans (congrArg some (by kernel_rfl))⟩
  f17 := ⟨Tryz.f270.name, by decide, Tryz.func270.trans (congrArg some (by kernel_rfl))⟩
  f18 := ⟨Tryz.f271.name, by decide, Tryz.func271.trans (congrArg some (by kernel_rfl))⟩
  f19 := Tryz.func272.trans (congrArg some (by kernel_rfl))
  f20 := Tryz.func273.trans (congrArg some (by kernel_rfl))
  f30 := ⟨Tryz.f280.name, by decide, Tryz.func280.trans (congrArg some (by kernel_rfl))⟩
  f31 := Tryz.func281.trans (congrArg some (by kernel_rfl))
  f32 := Tryz.func282.trans (congrArg some (by kernel_rfl))
  f33 := ⟨Tryz.f283.name, by decide, Tryz.func283.trans (congrArg some (by kernel_rfl))⟩
  f34 := ⟨Tryz.f284.name, by decide, Tryz.func284.trans (congrArg some (by kernel_rfl))⟩
  f35 := ⟨Tryz.f285.name, by decide, Tryz.func285.trans (congrArg some (by kernel_rfl))⟩
  f40 := ⟨Tryz.f291.name, by decide, Tryz.func291.trans (congrArg some (by kernel_rfl))⟩
  t0 := Tryz.underlying0
  a0 := Tryz.isAgg0
  z0 := Tryz.sizeOf0
  v0 := Tryz.zeroValue0
  t3 := Tryz.underlying3
  a3 := Tryz.isAgg3
  z3 := Tryz.sizeOf3
  v3 := Tryz.zeroValue3
  t4 := Tryz.underlying4
  a4 := Tryz.isAgg4
  z4 := Tryz.sizeOf4
  v4 := Tryz.zeroValue4
  t5 := Tryz.underlying5
  a5 := Tryz.isAgg5
  z5 := Tryz.sizeOf5
  v5 := Tryz.zeroValue5
  t9 := Tryz.underlying9
  a9 := Tryz.isAgg9
  z9 := Tryz.sizeOf9
  v9 := Tryz.zeroValue9
  t22 := Tryz.underlying113
  a22 := Tryz.isAgg113
  z22 := Tryz.sizeOf113
  v22 := Tryz.zeroValue113
  t23 := Tryz.underlying113
  a23 := Tryz.isAgg113
  z23 := Tryz.sizeOf113
  v23 := Tryz.zeroValue113
  t25 := Tryz.underlying3
  a25 := Tryz.isAgg3
  z25 := Tryz.sizeOf3
  v25 := Tryz.zeroValue3
  t32 := Tryz.underlying256
  a32 := Tryz.isAgg256
  z32 := Tryz.sizeOf256
  v32 := Tryz.zeroValue256
  t35 := Tryz.underlying373
  a35 := Tryz.isAgg373
  z35 := Tryz.sizeOf373
  v35 := Tryz.zeroValue373
  t36 := Tryz.underlying374
  a36 := Tryz.isAgg374
  z36 := Tryz.sizeOf374
  v36 := Tryz.zeroValue374
  t41 := Tryz.underlying221
  a41 := Tryz.isAgg221
  z41 := Tryz.sizeOf221
  v41 := Tryz.zeroValue221
  t44 := Tryz.underlying340
  a44 := Tryz.isAgg340
  z44 := Tryz.sizeOf340
  v44 := Tryz.zeroValue340
  t46 := Tryz.underlying27
  a46 := Tryz.isAgg27
  z46 := Tryz.sizeOf27
  v46 := Tryz.zeroValue27
  t53 := Tryz.underlying388
  a53 := Tryz.isAgg388
  z53 := Tryz.sizeOf388
  v53 := Tryz.zeroValue388
  t57 := Tryz.underlying391
  a57 := Tryz.isAgg391
  z57 := Tryz.sizeOf391
  v57 := Tryz.zeroValue391
  t63 := Tryz.underlying395
  a63 := Tryz.isAgg395
  z63 := Tryz.sizeOf395
  v63 := Tryz.zeroValue395
  t64 := Tryz.underlying396
  a64 := Tryz.isAgg396
  z64 := Tryz.sizeOf396
  v64 := Tryz.zeroValue396 }

end
end Go.Proofs
namespace Go.Proofs.YtkdgpmeojgokdaaGreatDoor
open Go.Den
open IntKind (wrap)
open Int (toNat)
section
open Go.Sort
namespace Wj
variable {h:ai} {R:fO} {p:ct} {n c:Nat} {x:List Int}
abbrev iv(X:Int):Value:=.int .i64 X
theorem Q0(o:Own h p n c 1 (x.map iv))(I:n=x.length)(T:x.Nodup)(F:n<=60000)(E: ∀f (z:List Int),Own f p n c 1 (z.map iv)->z.Perm x->z.Pairwise (· < ·)->Fr (aP p) h f->R (.T #[]) f):
  Cl 217 #[.L p n c] h R:=by
 subst I;intro w r;cases o with
 |nil m G i D=>
  obtain rfl:=List.eq_nil_of_length_eq_zero G;refine(AnyM.slices_Sort_int_none Tryz.RX p c w).mono ?_;rintro e Z ⟨rfl,rfl⟩;exact⟨_,rfl,E _ [] (by rw[r];exact .nil m rfl i rfl) (.refl _) .nil (by rw[r];exact Fr.refl _ _),fc.refl _⟩
 |row b O C t m d g i A D=>
  subst m;subst r;have B: ∀(z:List Int)(j:Nat),j<z.length->z.toArray[j]! =z.getD j 0:=λz j H=>by
   simp[getElem!_pos,H]
  refine(AnyM.slices_Sort_int Tryz.RX b O c x w (λj H=> ?_) (aA d) ag).mono ?_
  .have H:j<x.length:=by simpa using H
   refine⟨?_,by rw[wG];exact oh d⟩;rw[lS,lM d,B x j H];exact D j _ (by rw[aL,aj H,bh,aj H];rfl)
  .rintro e Z ⟨rfl,k,u,rfl⟩;have P:=List.mergeSort_perm x λX y=>decide (X<=y)
   have S:(x.mergeSort λX y=>decide (X<=y)).Pairwise (· < ·):=by
    have U:=List.pairwise_mergeSort (le:=λ(X y:Int)=>decide (X<=y)) (λa b c g A=>by simp at g A⊢;omega) (λa b=>by simp;omega) x;have V:(x.mergeSort λX y=>decide (X<=y)).Nodup:=P.nodup_iff.2 T;exact(U.and V).imp fun {a b} h=>by have:=aV h.1;have:=h.2;omega
   generalize (x.mergeSort λX y=>decide (X<=y))=z at P S⊢;have Q:z.length=x.length:=P.length_eq;have L: ∀X,X<w.heap.size->X≠b->(w.heap.modify b (onCells (putCells (Value.int .i64) O z.toArray))++u)[X]? =w.heap[X]? :=λX s J=>by
    rw[dC (cR s),fN,ae (λe=>J e.symm)]
   have K:(w.heap.modify b (onCells (putCells (Value.int .i64) O z.toArray))++u)[b]? =some (.C (putCells (Value.int .i64) O z.toArray C) t (0,0)):=by
    rw[dC (cR (aA d)),fN,af rfl,d];rfl
   refine⟨_,rfl,E _ z (.row b O _ t rfl K g (by unfold putCells;rw[Array.size_mapIdx];exact i) (by simp[Q]) λj v H=> ?_) P S ?_,⟨rfl,rfl,rfl⟩⟩
   .rw[aL]at H;have l:j<z.length:=by
     rcases Nat.lt_or_ge j z.length with q|q
     .exact q
     .rw[cV q]at H;cases H
    rw[aj l]at H;obtain rfl:=aX H;unfold putCells;have M:O+j<C.size:=ag
    rw[Array.getElem?_mapIdx,Array.getElem?_eq_getElem M,dq,af ⟨ag,by simp;omega⟩,show O+j - O=j by omega,B z j l,bh,aj l];rfl
   .refine⟨by show _<=(w.heap.modify b _++u).size;simp,λX s F=>L X s (λe=>F ⟨_,rfl,e.symm⟩)⟩

end Wj
end
section
open Go.kU
namespace gY
open jG cg
variable {h H:ai} {R:fO} {t:Nat} {X:Ft} {s:CF} {m A d:Nat} {a:List CV} {S b:Nat→Prop} {l:Nat→Option Nat} {p:ct} {n c:Nat}
theorem WD:Tryz.prog.underlying 113=some (.slice 3):=dA
theorem gp(e:Cm h t X s m a A S d b l)(g:R (.B true) h):Cl 58 #[.P t 0] h R:=wk.walk ⟨_,au e.di,g⟩
def lD(a:List CV):List Int:=a.map (λx=>(x.num:Int))
theorem zC(e:Cm h t X s m a A S d b l):(lD a).Pairwise (· < ·):=by
 have:=e.so;rw[fF]at this;unfold lD;rw[fF];exact this.imp (λh=>ag)
theorem Bq(q:Cm h t X s m a A S d b l)(hl:a.length<=60000)(hk: ∀H P z,Own H P a.length z 1 ((lD a).map gI)->(∀y,aP P y->h.size<=y)->Fr No h H->R (.L P a.length z) H):
  Cl 180 #[.P t 0] h R:=by
 refine rY.walk (gp q ⟨_,rfl,aG.of λe' hJ=> ?_⟩);rw[af rfl];refine⟨_,cB q.di rfl,Ij qo q.map λo h1 e1 I B=>⟨_,rfl,?_⟩⟩;refine⟨λop O r g=> ∃D:List (Int×Value),O=D.length/\Own g op O r 1 ((D.map (·.1)).map gI)/\(∀y,aP op y->h.size<=y/\y≠o)/\Iter g o m gI (a.map CV.pair) D/\Fr No h g,λ_ O _ _=>a.length - O,
  ⟨[],rfl,.nil rfl rfl rfl rfl,(λy ⟨j,e,_⟩=>by cases e),I,B⟩,?_⟩
 rintro op O r g ⟨D,rfl,U,k,w,K⟩;have a':=w.le;rw[aD]at a';refine Le w (λL=> .inl ⟨rfl,?_⟩) (λj v G hm h' I s1 o1=> .inr ⟨_,_,rfl,?_⟩)
 .subst hJ;dsimp only;have M:(D.map (·.1)).Perm (lD a):=by
   have:=L.map (·.1);rw[dT]at this;exact this
  have Z:=zC q;have nd:(D.map (·.1)).Nodup:=M.nodup_iff.2 (Z.imp (λh=>ag));have b':D.length=a.length:=by rw[L.length_eq,aD]
  refine Wj.Q0 U (by rw[aD]) nd ag λh3 zs T p3 s3 F=>⟨rfl,?_⟩
  have:zs=lD a:=List.Perm.eq_of_pairwise (le:=(· < ·)) (λj f' _ _ h1 h2=>ag) s3 Z (p3.trans M);subst this;rw[b']at T⊢;exact hk h3 op r T (λy i=>(k y i).1) (K.fresh F (λy i=>(k y i).1))
 .refine Ik I ⟨_,_,rfl,_,rfl,cT ?_⟩;have F:Fr No G (G.push (.C #[.I j] 3)):=Fr.push _ _;have V:Row (G.push (.C #[.I j] 3)) (Sa G.size 0) [gI j]:=ju (cs:= [gI j]);have z3:(G.push (.C #[.I j] 3)).size=G.size+1:=cY _;generalize G.push (.C #[.I j] 3)=g3 at F V z3⊢;have J:Fr (λy=>y=o) g G:=⟨ag,λy _ hn=>o1 y hn⟩;have d':=(U.frame J (λy i e=>(k y i).2 e)).frame F (λ_ _=>id);have zf:=B.1;have u:Fr No h G:=K.fresh J (λy e=>ag);have F3:=u.tt F;have i':o<G.size:=by
   obtain⟨_,_,_,_,_,_,hr,_⟩:=I;exact aA hr
  refine dR (cs:=(D.map (·.1)).map gI) (ds:= [gI j]) tI WD d' V rfl (λv Q=>by simp at Q;subst Q;rfl) ag ag λp4 c4 g4 o4 _ E k4=>⟨_,_,_,rfl,?_⟩
  have c': ∀y,aP p4 y->h.size<=y/\y≠o:=by
   intro y i;rcases k4 y i with h5|h5
   .exact k y h5
   .have:=u.1;exact⟨ag,ag⟩
  refine⟨⟨D++ [(j,v)],bU,?_,c',?_,F3.fresh E (λy i=>(k y i).1)⟩,?_⟩
  .rw[ba,ba];exact o4
  .have g':m<h.size:=q.map.lt;exact(I.frame F id id).frame E (λi=>(k o i).2 rfl) (λi=>by have:=(k m i).1;omega)
  .have:=I.le;rw[aB,aD,dL]at this;show a.length - (D.length+1)<a.length - D.length;omega
theorem look(g:Cm h t X s m a A S d b l){x:CV}(i:x∈a):iK Tryz.prog 94 (.map (some m)) (.I (x.num:Int)) false h (.P x.b 0):=by
 have:=Kb qo g.map (x.num:Int);have e:sR (a.map CV.pair) (x.num:Int)=some (.P x.b 0):=(CP g.map.nodup).2 (bt.2 ⟨x,i,rfl⟩);rw[e]at this;exact this
theorem Q1(g:Cm h t X s m a A S d b l){n:Int}(j: ∀x∈a,(x.num:Int)≠n):iK Tryz.prog 94 (.map (some m)) (.I n) false h (.pointer none):=by
 have:=Kb qo g.map n;have e:sR (a.map CV.pair) n=none:=CO.2 (λe i=>by obtain⟨x,k,rfl⟩:=bt.1 i;exact j x k);rw[e]at this;exact this
structure Env (h:ai) (t:Nat) (m:Nat) (a:List CV) (f C:Nat) (x:Ev):Prop where
 b0:h[f]? =some (.cells #[.pointer (some ⟨t,0,none⟩)] 59 (0,0))
 b1:Ev.at h C x
 cm: ∃X s A S d b l,Cm h t X s m a A S d b l
variable {f C : Nat} {x : Ev}
theorem Pj(V:Env h t m a f C x){y:CV}(i:y∈a)(j:R (.B (!decide (y.e=x))) h):Cl 181 #[.I (y.num:Int),.P f 0,.P C 0] h R:=by
 obtain⟨X,s,A,S,d,b,l,g⟩:=V.cm;have e:=g.Hh y i;refine wm.walk ⟨_,au V.b0,ax.2 ⟨_,au g.di,_,look g i,ax.2 ⟨_,au e,_,au e,_,au e,_,au e,_,au e,?_⟩⟩⟩;exact aw.ld V.b1 ⟨_,yA (x:=y.e) (y:=x) rfl rfl,j⟩
def lh(a:List CV)(x:Ev)(n:Int):Bool:=a.any (λy=>decide ((y.num:Int)=n) && decide (y.e=x))
theorem xD(w:(lD a).Pairwise (· < ·)){y:CV}(o:y∈a):lh a x (y.num:Int)=decide (y.e=x):=by
 unfold lh;by_cases e:y.e=x
 .rw[av e,List.any_eq_true];exact⟨y,o,by simp[e]⟩
 .rw[aC e,List.any_eq_false];intro z v;simp only[aW,aY,not_and];intro r;have:z=y:=by
   obtain⟨i,g⟩:=bL v;obtain⟨j,k⟩:=bL o;have u:(lD a).Nodup:=w.imp (λh=>ag);have q:=(az.1 g).1;have:=(fa (l:=lD a) (i:=i) (j:=j) (by simpa[lD]using q) u).1 (by unfold lD;rw[aL,aL,g,k];simp[r]);subst this;rw[g]at k;exact aX k
  rw[this];exact e
theorem SN{q:List Int}(V:Env h t m a f C x)(o:Own h p n c 1 (q.map gI))(I:n=q.length)(T:n<=60000)(J: ∀k∈q,∃y∈a,k=(y.num:Int))(L: ∀i,i<n->(∀j,j<i->∀k,q[j]? =some k->lh a x k=true)->(∀k,q[i]? =some k->lh a x k=false)->R (.I (i:Int)) h)(M:(∀k∈q,lh a x k=true)->R (.I (-1)) h):
  Cl 216 #[.L p n c,.func (.func 181) #[] #[.P f 0,.P C 0]] h R:=by
 subst I;have O:(lD a).Pairwise (· < ·):=by obtain⟨X,s,A,S,d,b,l,E⟩:=V.cm;exact zC E
 refine iF.of.walk ?_;refine⟨λu g=>g=h/\∃i:Nat,u=(i:Int)/\i<=q.length/\∀j,j<i->∀k,q[j]? =some k->lh a x k=true,λu _=>q.length - u.toNat,⟨rfl,0,rfl,bQ _,λj w=>ag⟩,?_⟩;rintro _ g ⟨rfl,i,rfl,U,z⟩;by_cases B:i<q.length
 .rw[gi];have r:q[i]? =some q[i]:=aj B;generalize q[i]=k at r;obtain⟨y,D,rfl⟩:=J k (aZ r);obtain⟨P,Q,rfl⟩:=o.addr ag;have F:=o.cell (j:=i) (v:=gI (y.num:Int)) (by rw[aL,r];rfl);simp only[aH,cE];refine⟨ag,ax.2 ⟨_,F,Pj V D ⟨_,rfl,?_⟩⟩⟩;have K:=xD (x:=x) O D;by_cases e:y.e=x
  .rw[av e,dy,bJ ag ag];rw[av e]at K;refine⟨⟨rfl,i+1,ag,ag,λj w k v=> ?_⟩,by show q.length - Int.toNat ((i:Int)+1)<q.length - i;omega⟩;by_cases G:j=i
   .subst G;rw[r]at v;cases v;exact K
   .exact z j ag k v
  .rw[aC e,gi];rw[aC e]at K;exact L i B z (λk v=>by rw[r]at v;cases v;exact K)
 .rw[ae (by simp;omega)];exact M (λk r=>by
   obtain⟨j,w⟩:=bL r;exact z j (bW ((az.1 w).1)) k w)
theorem Jc{r:List Int}(V:Env h t m a f C x)(o:Own h p n c 1 (r.map gI))(L:n=r.length)(hb:n<=60000)(hs: ∀k∈r,∃y∈a,k=(y.num:Int))(hV: ∀g,Fr (aP p) h g->Env g t m a f C x)(B: ∀H M,Own H p (r.filter (lh a x)).length M 1 ((r.filter (lh a x)).map gI)->Fr (aP p) h H->R (.slice p (r.filter (lh a x)).length M) H):
  Cl 179 #[.L p n c,.func (.func 181) #[] #[.P f 0,.P C 0]] h R:=by
 subst L;have so:(lD a).Pairwise (· < ·):=by obtain⟨X,s,A,S,d,b,l,d'⟩:=V.cm;exact zC d'
 have one: ∀v∈((.I 0:Value)).cells.toList,fZ v=true:=λv hv=>by
  have:v=.I 0:=by simpa[Value.cells]using hv
  subst this;rfl
 refine mU.of.walk (SN V o rfl hb hs (λi hi G a'=>⟨_,rfl,?_⟩) (λG=>⟨_,rfl,?_⟩))
 .rw[ae (by intro h;have h:=eq_of_beq h;omega),bJ ag ag];have c':(r.take i).filter (lh a x)=r.take i:=by
   rw[cz];intro k f';obtain⟨j,z⟩:=bL f';rw[cZ]at z;split at z
   .rename_i e';exact G j e' k z
   .cases z
  have b':(r.take (i+1)).filter (lh a x)=r.take i:=by
   have B:r[i]? =some r[i]:=aj hi;rw[bO,B,gg,c'];simp[a' _ B]
  refine⟨λi' w g=> ∃(i j:Nat)(u:List Int),i'=(i:Int)/\w=(j:Int)/\i<=j/\j<=r.length/\u.length=r.length/\Own g p r.length c 1 (u.map gI)/\u.take i=(r.take j).filter (lh a x)/\(∀q,j<=q->u[q]? =r[q]?)/\Fr (aP p) h g,λ_ w _=>r.length - w.toNat,
   ⟨i,i+1,r,rfl,ag,ag,ag,rfl,o,b'.symm,λ_ _=>rfl,Fr.refl _ _⟩,?_⟩
  clear c' b' G a';rintro _ _ g ⟨i,j,u,rfl,rfl,l',z,Z,O,D,J,F⟩;have K:((r.take j).filter (lh a x)).length=i:=by rw[<-D,bA];omega
  by_cases h':j<r.length
  .rw[gi];refine aG.of λk' Q=> ?_
   have I:r[j]? =some r[j]:=aj h';generalize r[j]=k at I;obtain⟨y,hy,rfl⟩:=hs k (aZ I);obtain⟨ab,ao,rfl⟩:=O.addr ag;have g':u[j]? =some (y.num:Int):=by rw[J j (bp _)];exact I
   have cc:=O.cell (j:=j) (v:=gI (y.num:Int)) (by rw[aL,g'];rfl);simp only[aH,cE];have kn:=xD (x:=x) so hy;have T:(r.take (j+1)).filter (lh a x)=(r.take j).filter (lh a x)++(if y.e=x then [(y.num:Int)]else []):=by
    rw[bO,I,gg];congr 1
    show [(y.num:Int)].filter (lh a x)=_;rw[cu,kn];by_cases e:y.e=x<;>simp[e]
   refine⟨ag,ax.2 ⟨_,cc,Pj (hV g F) hy ⟨_,rfl,aG.of λJ1 U=> ?_⟩⟩⟩;by_cases e:y.e=x
   .rw[av e,gi];rw[af e]at T;refine⟨ag,ax.2 (O.store (by rw[aD];omega) λP E s2 q2=> ?_)⟩;subst U;subst Q;have e2:(u.map gI).set i (.I (y.num:Int))=(u.set i (y.num:Int)).map gI:=by rw[List.map_set]
    rw[e2]at E;dsimp only;rw[bJ (n:=(i:Int)+1) ag ag,bJ (n:=(j:Int)+1) ag ag];refine⟨⟨i+1,j+1,_,ag,ag,ag,ag,by rw[dQ];exact Z,E,?_,λq hq=> ?_,F.tt ⟨ag,λj' _ L=>q2 j' L⟩⟩,by show r.length - Int.toNat ((j:Int)+1)<r.length - j;omega⟩
    .rw[T,<-D,bO,List.getElem?_set_self ag];congr 1
     apply fE
     intro q;rw[cZ,cZ];split
     .rw[List.getElem?_set_ne ag]
     .rfl
    .rw[List.getElem?_set_ne ag];exact J q ag
   .rw[aC e,dy];rw[ae e,List.append_nil]at T;subst U;subst Q;dsimp only;rw[bJ (n:=(j:Int)+1) ag ag];exact⟨⟨i,j+1,u,rfl,ag,ag,ag,Z,O,by rw[T,D],λq hq=>J q ag,F⟩,by show r.length - Int.toNat ((j:Int)+1)<r.length - j;omega⟩
  .rw[ae (by simp;omega)];obtain rfl:j=r.length:=ag
   rw[fv]at D K;simp only[aH,Nat.sub_zero];refine⟨ag,CL tI one O ag λP E f2=>⟨rfl,⟨ag,bW O.le⟩,?_⟩⟩;rw[kG];rw[cE,<-List.map_take,D]at E;have:=B P c (by rw[K];exact E) (F.tt f2);rw[K]at this;exact this
 .rw[af (by rfl)];have e:r.filter (lh a x)=r:=by rw[cz];exact G
  have:=B h c (by rw[e];exact o) (Fr.refl _ _);rw[e]at this;exact this
theorem Mr(g:(lD a).Pairwise (· < ·)):(lD a).filter (lh a x)=lD (a.filter (λy=>decide (y.e=x))):=by
 unfold lD;rw[dO];congr 1
 exact eK (λy e=>xD g e)
theorem wc(i:Cm h t X s m a A S d b l)(x:Ev)(D:a.length<=60000) (hk: ∀H P v,Own H P (a.filter (λy=>decide (y.e=x))).length v 1 ((lD (a.filter (λy=>decide (y.e=x)))).map gI)->(∀y,aP P y->h.size<=y)->Fr No h H->R (.slice P (a.filter (λy=>decide (y.e=x))).length v) H):
  Cl 139 #[.P t 0,lC x] h R:=by
 refine yS.walk (cT ?_);have j:Fr No h (h.push (.C #[.P t 0] 59)):=Fr.push _ _;have B:(h.push (.C #[.P t 0] 59))[h.size]? =some (.C #[.P t 0] 59 (0,0)):=bZ;have z1:(h.push (.C #[.P t 0] 59)).size=h.size+1:=cY _;generalize h.push (.C #[.P t 0] 59)=M at j B z1⊢;refine aw.box λC Q e2 z F=>⟨_,au (F.get B id),?_⟩
 have z2:=aA z;refine Bq (i.on (j.tt F)) D λw I l3 o3 G o=>⟨_,_,_,rfl,?_⟩
 have r:=j.tt (F.tt o);have u:=i.on r;have zf:=F.1;have V:Env w t m a h.size C x:=⟨(F.tt o).get B id,o.get z id,X,s,A,S,d,b,l,u⟩;have U: ∀g,Fr (aP I) w g->Env g t m a h.size C x:=λg q=>
  ⟨q.get V.b0 (λe=>bW (G _ e)),q.get V.b1 (λe=>bW (G _ e)),X,s,A,S,d,b,l,u.frame q (λy e Z=>by
   have M:=G y Z;have Q:y<h.size:=(Ct.lt (s:=s) ⟨m,a,A,S,d,b,l,i⟩ y e);omega)⟩
 have nl:(lD a).length=a.length:=by unfold lD;rw[aD]
 refine Jc V o3 nl.symm D (λk a'=>by
  obtain⟨y,e,rfl⟩:=bt.1 a';exact⟨y,e,rfl⟩) U λT J O L=>⟨_,_,_,rfl,?_⟩
 have E:=Mr (x:=x) (zC i);have K:((lD a).filter (lh a x)).length=(a.filter (λy=>decide (y.e=x))).length:=by rw[E];unfold lD;rw[aD]
 rw[K]at O⊢;rw[E]at O;exact hk T I J O (λy e=>bW (G y e)) (r.fresh L (λy e=>bW (G y e)))
end gY
end
section
open Go.kU
namespace gY
open jG cg mi
variable {h H:ai} {R:fO} {t:Nat} {X:Ft} {s f:CF} {m A b:Nat} {x:List CV} {S a:Nat→Prop} {d:Nat→Option Nat} {n c:Nat}
variable {z:Cp} {K:ai->Prop} {L:List Cp}
def Co(L:List Cp)(n:Int):List Cp:=L.filter (λe=> !decide ((e.num:Int)=n))
def px(L:List Cp)(n:Nat)(g:Int)(D:Nat):List Cp:=L.map (λe=>if e.num=n then { e with ses:=g,dl:=D } else e)
def EI(s:CF)(n:Int):CF:= { s with L:=Co s.L n,E1:=fY s.E1 n,E2:=fY s.E2 n }
def sa(s:CF)(n:Nat):CF:= { s with L:=px s.L n 0 0,E2:=fY s.E2 (n:Int) }
theorem pj(L:List E)(k:Int):(fY L k).length<=L.length:=cM _ _
structure Small (s:CF):Prop where
 n:s.next<=50000
 l:s.L.length<=50000
 e1:s.E1.length<=50000
 e2:s.E2.length<=50000
theorem Cm.len(e:Cm h t X s m x A S b a d):x.length=s.L.length:=by rw[<-e.abs,aD]
theorem jj(P: ∀H t X,Ct H t X ⟨[],1,0,0,0, [], []⟩->Nb h X H->R (.P t 0) H):Cl 15 #[] h R:=by
 classical
 refine Jj.walk (cT ?_);have q:Fr No h (h.push (.map #[] 0)):=Fr.push _ _;have M:=jM.push (α:=Int) h gI;have Z:(h.push (.map #[] 0)).size=h.size+1:=cY _;generalize h.push (.map #[] 0)=J at q M Z⊢;refine cg.jj λA S r k G j=>⟨_,rfl,cg.jj λb a e o I i=>⟨_,rfl,cT ?_⟩⟩
 have F:Fr No e (e.push (.C #[.map (some h.size),.I 1,.I 0,.I 0,.I 0,.P A 0,.P b 0] 98)):=Fr.push _ _;have z2:=j.1;have z3:=i.1;have U:(e.push (.C #[.map (some h.size),.I 1,.I 0,.I 0,.I 0,.P A 0,.P b 0] 98)).size=e.size+1:=cY _;have B:(e.push (.C #[.map (some h.size),.I 1,.I 0,.I 0,.I 0,.P A 0,.P b 0] 98))[e.size]? =some (.C #[.map (some h.size),.I 1,.I 0,.I 0,.I 0,.P A 0,.P b 0] 98 (0,0)):=bZ;generalize e.push (.C #[.map (some h.size),.I 1,.I 0,.I 0,.I 0,.P A 0,.P b 0] 98)=u at F U B⊢;have l: ∀c,S c->J.size<=c/\c<r.size:=λc hc=>⟨G c hc,k.lt hc⟩
 have v: ∀c,a c->r.size<=c/\c<e.size:=λc hc=>⟨I c hc,o.lt hc⟩
 let d:Nat->Option Nat:=λc=>if c=e.size then some 0 else if c=h.size then some 1 else if S c then some 2 else if a c then some 3 else none
 have Q: ∀c,S c->d c=some 2:=λc hc=>by
  have:=l c hc;show(if c=e.size then some 0 else if c=h.size then some 1 else if S c then some 2 else if a c then some 3 else none)=_;rw[dy,dy,af hc]
 have T: ∀c,a c->d c=some 3:=λc hc=>by
  have V:=v c hc;show(if c=e.size then some 0 else if c=h.size then some 1 else if S c then some 2 else if a c then some 3 else none)=_;rw[dy,dy,ae (λO=>bW (l c O)),af hc]
 have w: ∀c,d c≠none->h.size<=c/\c<u.size:=λc hc=>by
  by_cases D:c=e.size
  .omega
  by_cases E:c=h.size
  .omega
  by_cases C:S c
  .have:=l c C;omega
  by_cases p:a c
  .have:=v c p;omega
  exact absurd (show(if c=e.size then some 0 else if c=h.size then some 1 else if S c then some 2 else if a c then some 3 else none)=none by rw[ae D,ae E,ae C,ae p]) hc
 refine P u e.size ⟨λc=>d c≠none,λ_=>False⟩ ⟨h.size, [],A,S,b,a,d,⟨B,(M.frame (j.tt i) id).frame F id,(λy g=>by cases g),rfl,(λy g=>by cases g),k.frame (i.tt F) bX,o.frame F bX,af rfl,?_,Q,T,(λy g=>by cases g),λc=>ff,λc hc=>hc.elim,λc hc=>(w c hc).2,.nil⟩⟩ ⟨q.tt (j.tt (i.tt F)),λc hc=> ?_⟩
 .show(if h.size=e.size then some 0 else if h.size=h.size then some 1 else if S h.size then some 2 else if a h.size then some 3 else none)=some 1;rw[dy,af rfl]
 .rcases hc with hc|hc
  .exact(w c hc).1
  .exact hc.elim
theorem RY(i:Cm h t X s m x A S b a d)(u:s.E2.length<1000000)(k:Int)(j: ∀H g l (e:Int),Cm H t g { s with E2:=fY s.E2 k } m x A S b a l->bw X h g H->R (.I e) H):
  Cl 81 #[.P b 0,.I k] h R:=by
 refine cg.pY i.Jl u k (λ_ q o F=> ?_) (λv=> ?_)
 .obtain⟨g,l,p,w,_⟩:=i.Jm (s':= { s with E2:=fY s.E2 k }) o (λc r=> .inl r) F rfl rfl rfl ⟨rfl,rfl,rfl,rfl⟩;exact j q g l 0 p w
 .have e:({ s with E2:=fY s.E2 k } :CF)=s:=by rw[ku v]
  exact j h X d 4 (by rw[e];exact i) (bw.refl _ _)
theorem Uc(i:Cm h t X s m x A S b a d)(u:s.E1.length<1000000)(k:Int)(j: ∀H g l (e:Int),Cm H t g { s with E1:=fY s.E1 k } m x A S b a l->bw X h g H->R (.I e) H):
  Cl 81 #[.P A 0,.I k] h R:=by
 refine cg.pY i.Jk u k (λ_ q o F=> ?_) (λv=> ?_)
 .obtain⟨g,l,p,w,_⟩:=i.Jn (s':= { s with E1:=fY s.E1 k }) o (λc r=> .inl r) F rfl rfl rfl ⟨rfl,rfl,rfl,rfl⟩;exact j q g l 0 p w
 .have e:({ s with E1:=fY s.E1 k } :CF)=s:=by rw[ku v]
  exact j h X d 4 (by rw[e];exact i) (bw.refl _ _)
theorem pq(e:Ct h t X s)(l:Small s)(k:Int)(r: ∀H j,Ct H t j (EI s k)->bw X h j H->R (.T #[]) H):
  Cl 60 #[.P t 0,.I k] h R:=by
 obtain⟨m,x,A,S,b,a,d,e⟩:=e;have:=l.e1;have:=l.e2;refine tF.walk ⟨_,au e.di,RY e ag k λC B E _ i v=>⟨_,rfl,_,au i.di,Uc i (by show s.E1.length<_;omega) k λD p F _ g w=>⟨_,rfl,_,au g.di,FN qo g.map (k:=k) λq M u O=>⟨rfl,?_⟩⟩⟩⟩;obtain⟨o,y⟩:=g.del (s':=EI s k) M u O rfl rfl rfl ⟨rfl,rfl,rfl,rfl⟩;exact r q p ⟨_,_,_,_,_,_,_,o⟩ (v.trans (w.trans y))
theorem uE(j:Cm h t X s m x A S b a d)(i:z∈s.L): ∃g∈x,g.abs=z:=by
 rw[<-j.abs]at i;obtain⟨g,k,e⟩:=bt.1 i;exact⟨g,k,e⟩
theorem Cm.Dn{g:CV}{ses:Int}{dl:Nat}(k:Cm h t X s m x A S b a d)(p:g∈x)(E: ∀H,Cm H t X { s with L:=px s.L g.num ses dl } m (x.map (λz=>if z.num=g.num then { g with ses:=ses,dl:=dl } else z)) A S b a d->bw X h X H->K H):
  aJ h (((AA g.b 0):Addr).add 8) (.I ses) λq=>aJ q (((AA g.b 0):Addr).add 9) (.U (dl:Int)) K:=by
 rw[gZ,gZ];have B:=k.Hh g p;refine bk B bU λq C Q O=>bk C bU λr y T M=> ?_
 have I:({ g with ses:=ses,dl:=dl } :CV).at r g.b:=y;obtain⟨w,P⟩:=k.change (s':= { s with L:=px s.L g.num ses dl }) (y:= { g with ses:=ses,dl:=dl }) p rfl rfl rfl I ag (λc v=>by rw[M c v,O c v]) (by
  show px s.L g.num ses dl=_;unfold px;refine fb λz J=> ?_
  by_cases e:z.num=g.num
  .rw[af e,af e];obtain⟨u,G,rfl⟩:=uE k J;have e:u.num=g.num:=e;have:u=g:=by
    obtain⟨i,l⟩:=bL G;obtain⟨j,o⟩:=bL p;have F:(x.map CV.num).Nodup:=k.so.imp (λh=>Nat.ne_of_lt h);have D:=(az.1 l).1;have:=(fa (l:=x.map CV.num) (i:=i) (j:=j) (cR D) F).1 (by rw[aL,aL,l,o];simp[e]);subst this;rw[l]at o;exact aX o
   rw[this];rfl
  .rw[ae e,ae e]) rfl rfl ⟨rfl,rfl,rfl,rfl⟩
 exact E r w P
theorem Kw(e:Ct h t X s)(r:Small s)(q:z∈s.L)(p: ∀H j,Ct H t j (sa s z.num)->bw X h j H->R (.T #[]) H):
  Cl 61 #[.P t 0,.I (z.num:Int)] h R:=by
 obtain⟨m,x,A,S,b,a,d,e⟩:=e;obtain⟨B,i,rfl⟩:=uE e q;have:=r.e2;refine wu.walk ⟨_,au e.di,RY e ag _ λw l y _ g u=>⟨_,rfl,_,au g.di,_,look g i,_,au g.di,_,look g i,?_⟩⟩;refine ax.2 (g.Dn (ses:=0) (dl:=0) i λo k v=>p o l ⟨_,_,_,_,_,_,_,k⟩ (u.trans v))
def yT(L:List Cp)(n:Int):Option Cp:=L.find? (λe=>decide ((e.num:Int)=n))
theorem xE{n:Int}(h:yT L n=some z):z∈L/\(z.num:Int)=n:=⟨List.mem_of_find?_eq_some h,cR (List.find?_some h)⟩
theorem Ms{n:Int}:yT L n=none↔ ∀z∈L,(z.num:Int)≠n:=by unfold yT;simp
def lF(L:List Cp)(n e:Int):Int:=match yT L n with|none=>4|some z=>if z.ses=0\/z.ses≠e then 14 else 0
theorem ic(i:Ct h t X s)(num j:Int)(k: ∀q,R (.T #[.pointer q,.I (lF s.L num j)]) h):
  Cl 154 #[.P t 0,.I num,.I j] h R:=by
 obtain⟨m,x,A,S,b,a,d,i⟩:=i;refine wo.walk (gp i ⟨_,rfl,?_⟩);rw[dy];unfold lF at k;cases p:yT s.L num with
 |none=>
  rw[p]at k;have v: ∀g∈x,(g.num:Int)≠num:=λg r=>Ms.1 p g.abs (by rw[<-i.abs];exact bz r)
  refine⟨_,au i.di,_,Q1 i v,?_⟩;rw[af (by rfl)];exact k none
 |some z=>
  rw[p]at k;dsimp only at k;obtain⟨w,rfl⟩:=xE p;obtain⟨g,r,rfl⟩:=uE i w;have L:=look i r;have C:=i.Hh g r;refine⟨_,au i.di,_,L,?_⟩;rw[ae bU];refine aG.of λJ u=>⟨_,au i.di,_,L,ax.2 ⟨_,au C,?_⟩⟩
  have bad:(g.ses=0\/g.ses≠j)->J true h:=λhb=>by
   subst u;simp only[bm];have:=k none;have e:(if g.abs.ses=0\/g.abs.ses≠j then(14:Int)else 0)=14:=af hb;rwa[e]at this
  by_cases l:g.ses=0
  .rw[af (cR l)];exact bad (.inl l)
  .rw[ae (cR l)];refine⟨_,au i.di,_,L,ax.2 ⟨_,au C,?_⟩⟩;by_cases o:g.ses=j
   .have e:(g.ses !=j)=false:=by simp[o]
    rw[e];subst u;simp only[ar,aQ];refine⟨_,au i.di,_,L,?_⟩;have E:(if g.abs.ses=0\/g.abs.ses≠j then(14:Int)else 0)=0:=ae (λhb=>by
     rcases hb with hb|hb
     .exact l hb
     .exact hb o)
    have:=k (Sa g.b 0);rwa[E]at this
   .have e:(g.ses !=j)=true:=by simpa using o
    rw[e];exact bad (.inr o)
def tG(s:CF)(n e:Int):CF:=if lF s.L n e=0 then { EI s n with gF:=s.gF+1 } else s
theorem Ct.bump(e:Ct h t X s)(p:s.gF<=100000)(j: ∀H,Ct H t X { s with gF:=s.gF+1 } ->bw X h X H->K H):
  ∃(u:Int),aU h (AA t 2)=some (.I u)/\aJ h (AA t 2) (.I (IntKind.wrap .i64 (u+1))) K:=by
 obtain⟨m,x,A,S,b,a,d,e⟩:=e;refine⟨_,au e.di,bk e.di bU λi C k o=> ?_⟩;rw[bJ ag ag]at C;obtain⟨g,l⟩:=e.field (s':= { s with gF:=s.gF+1 }) rfl rfl rfl C k o;exact j i ⟨_,_,_,_,_,_,_,g⟩ l
theorem Ct.Ud(e:Ct h t X s)(p:s.over<=100000)(j: ∀H,Ct H t X { s with over:=s.over+1 } ->bw X h X H->K H):
  ∃(u:Int),aU h (AA t 3)=some (.I u)/\aJ h (AA t 3) (.I (IntKind.wrap .i64 (u+1))) K:=by
 obtain⟨m,x,A,S,b,a,d,e⟩:=e;refine⟨_,au e.di,bk e.di bU λi C k o=> ?_⟩;rw[bJ ag ag]at C;obtain⟨g,l⟩:=e.field (s':= { s with over:=s.over+1 }) rfl rfl rfl C k o;exact j i ⟨_,_,_,_,_,_,_,g⟩ l
theorem Ct.Ue(e:Ct h t X s)(p:s.gone<=100000)(j: ∀H,Ct H t X { s with gone:=s.gone+1 } ->bw X h X H->K H):
  ∃(u:Int),aU h (AA t 4)=some (.I u)/\aJ h (AA t 4) (.I (IntKind.wrap .i64 (u+1))) K:=by
 obtain⟨m,x,A,S,b,a,d,e⟩:=e;refine⟨_,au e.di,bk e.di bU λi C k o=> ?_⟩;rw[bJ ag ag]at C;obtain⟨g,l⟩:=e.field (s':= { s with gone:=s.gone+1 }) rfl rfl rfl C k o;exact j i ⟨_,_,_,_,_,_,_,g⟩ l
theorem Jo(i:Ct h t X s)(w:Small s)(v:s.gF<=100000)(num g:Int)(l: ∀H j,Ct H t j (tG s num g)->bw X h j H->R (.I (lF s.L num g)) H):
  Cl 150 #[.P t 0,.I num,.I g] h R:=by
 refine xB.walk (ic i num g λq=>⟨_,_,rfl,aG.of λJ k=> ?_⟩);by_cases e:lF s.L num g=0
 .rw[af (cR e)];refine pq i w num λC r o y=>⟨rfl,o.bump v λu p B=> ?_⟩
  subst k;exact l u r (by unfold tG;rw[af e];exact p) (y.trans B)
 .rw[ae (cR e)];subst k;exact l h X (by unfold tG;rw[ae e];exact i) (bw.refl _ _)
def EJ(s:CF)(n e:Int):CF:=if lF s.L n e=0 then sa s n.toNat else s
theorem Jp(i:Ct h t X s)(y:Small s)(num g:Int)(l: ∀H j,Ct H t j (EJ s num g)->bw X h j H->R (.I (lF s.L num g)) H):
  Cl 104 #[.P t 0,.I num,.I g] h R:=by
 refine rZ.walk (ic i num g λq=>⟨_,_,rfl,aG.of λJ k=> ?_⟩);by_cases e:lF s.L num g=0
 .rw[af (cR e)];obtain⟨z,v⟩: ∃z,yT s.L num=some z:=by
   cases u:yT s.L num with
   |none=>unfold lF at e;rw[u]at e;cases e
   |some z=>exact⟨z,rfl⟩
  obtain⟨w,rfl⟩:=xE v;refine Kw i y w λr p o B=>⟨rfl,?_⟩
  subst k;exact l r p (by unfold EJ;rw[af e,aH];exact o) B
 .rw[ae (cR e)];subst k;exact l h X (by unfold EJ;rw[ae e];exact i) (bw.refl _ _)

end gY
end
end Go.Proofs.YtkdgpmeojgokdaaGreatDoor
