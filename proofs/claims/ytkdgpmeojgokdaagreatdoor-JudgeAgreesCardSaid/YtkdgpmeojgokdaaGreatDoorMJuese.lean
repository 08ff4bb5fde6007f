/-
  Fo is proved here: parts of xQ proof, one behind xQ other (texts of this work, merged by a program; HT xQ theorem HU not use is left out). No condition.
-/
import Derived.Test.YtkdgpmeojgokdaaGreatDoorProg
import Derived.Shelf.SortM.Plain
import Derived.Shelf.SortM.SortNone
import Derived.Ground.SlgmProg
import Derived.Test.YtkdgpmeojgokdaaGreatDoorMJuesd
set_option maxRecDepth 100000
set_option maxHeartbeats 4000000
namespace Go.Proofs.YtkdgpmeojgokdaaGreatDoor
open Go.Den
open IntKind (wrap)
open Int (toNat)
section
open Go.fW Go.kV
namespace iC
open mg
variable {h H:ai} {b:Nat} {X:Ft} {R:fM} {p q:ct} {c d i:Nat} {L:List E}
structure It where
 num:Nat
 owner:Int
 d:cG
 fR:Nat
structure IV where
 num:Nat
 owner:Int
 v:BV
 fR:Nat
def IV.abs(x:IV):It:=⟨x.num,x.owner,x.v.b,x.fR⟩
abbrev gI(x:IV):List Value:= [.int .i64 (x.num:Int),.int .i64 x.owner,x.v.val,.int .u64 (x.fR:Int)]
theorem iG(x:IV):(gI x).length=4:=rfl
theorem GY(f:List IV): ∀v∈f.flatMap gI,fV v=true:=by
 intro v k;obtain⟨a,_,e⟩:=List.mem_flatMap.1 k;simp at e;rcases e with rfl|rfl|rfl|rfl<;>rfl
abbrev IV.agg(x:IV):Value:=.agg #[.int .i64 (x.num:Int),.int .i64 x.owner,x.v.val,.int .u64 (x.fR:Int)]
theorem tI:oC Tryz.prog 99 117 4 48 (.agg #[.I 0,.I 0,.Z,.U 0]):=⟨dA,dA,rfl⟩
theorem uI:Tryz.prog.underlying 99=some (.slice 117):=dA
theorem Vm:Tryz.prog.underlying 3=some (.int .i64):=dA
structure BS where
 items:List It
 next:Nat
 taken:Nat
 sX:Nat
 over:Nat
structure Mm (h:ai) (b:Nat) (X:Ft) (s:BS) (L:List E) (j:ct) (g:Nat) (f:List IV) (a:Nat) (S:Nat->Prop):Prop where
 dh:h[b]? =some (.cells #[.slice j f.length g,.int .i64 (s.next:Int),.int .i64 (s.taken:Int),.int .i64 (s.sX:Int),.int .i64 (s.over:Int),.pointer (some ⟨a,0,none⟩)] 101 (0,0))
 own:Own h j f.length g 4 (f.flatMap gI)
 al:cg.Al h a S L
 abs:f.map IV.abs=s.items
 EH: ∀x∈f,x.v.ok h X.D
 m: ∀c,X.M c↔c=b\/aO j c\/S c
 bl: ¬aO j b
 bs: ¬S b
 ls: ∀c,aO j c->¬S c
 vw: ∀c,X.M c->¬X.D c
 GZ: ∀c,X.D c->c<h.size
def Bx(h:ai)(b:Nat)(X:Ft)(s:BS)(L:List E):Prop:= ∃j g f a S,Mm h b X s L j g f a S
variable {s : BS} {j : Option Addr} {g a : Nat} {f : List IV} {S : Nat → Prop}
theorem Mm.lt(e:Mm h b X s L j g f a S)(y:Nat)(hy:X.M y\/X.D y):y<h.size:=by
 rcases hy with hy|hy
 .rcases(e.m y).1 hy with rfl|h1|h1
  .exact aD e.dh
  .exact e.own.dL h1
  .exact e.al.lt h1
 .exact e.GZ y hy
theorem Bx.lt(e:Bx h b X s L)(y:Nat)(k:X.M y\/X.D y):y<h.size:=by
 obtain⟨j,g,f,a,S,e⟩:=e;exact e.lt y k
theorem Mm.frame{Q:Nat->Prop}(e:Mm h b X s L j g f a S)(F:Fr Q h H)(m: ∀y,X.M y\/X.D y->¬Q y):Mm H b X s L j g f a S:=
 have l: ∀y,X.M y->¬Q y:=λy k=>m y (.inl k)
 ⟨F.get e.dh (l b ((e.m b).2 (.inl rfl))),e.own.frame F (λy k=>l y ((e.m y).2 (.inr (.inl k)))),e.al.frame F (λy k=>l y ((e.m y).2 (.inr (.inr k)))),e.abs,λx n=>(e.EH x n).frame F (λy k=>m y (.inr k)),e.m,e.bl,e.bs,e.ls,e.vw,λy k=>cK (e.GZ y k) F.1⟩
theorem Bx.frame{Q:Nat->Prop}(e:Bx h b X s L)(F:Fr Q h H)(k: ∀y,X.M y\/X.D y->¬Q y):Bx H b X s L:=by
 obtain⟨j,g,f,a,S,e⟩:=e;exact⟨j,g,f,a,S,e.frame F k⟩
theorem Mm.on(e:Mm h b X s L j g f a S)(F:Fr No h H):Mm H b X s L j g f a S:=e.frame F bX
theorem Mm.len(e:Mm h b X s L j g f a S):f.length=s.items.length:=by rw[<-e.abs,aC]
theorem gr(e:Mm h b X s L j g f a S)(k:R (.B true) h):Cl 62 #[.P b 0] h R:=
 yI.walk ⟨_,au e.dh,k⟩
theorem jj(m: ∀H b X,Bx H b X ⟨[],1,0,0,0⟩ []->Fr No h H->(∀y,X.M y\/X.D y->h.size<=y)->R (.P b 0) H):Cl 16 #[] h R:=by
 refine I5.walk (cg.jj λa S k A G F=>⟨_,rfl,cS ?_⟩);have l:Fr No k (k.push (.C #[.Z,.I 1,.I 0,.I 0,.I 0,.P a 0] 101)):=Fr.push _ _;have z:=F.1;refine m _ k.size ⟨λy=>y=k.size\/aO none y\/S y,λ_=>False⟩ ⟨none,0, [],a,S,⟨bZ,.nil rfl rfl rfl rfl,A.frame l bX,rfl,(λx n=>by cases n),λ_=>ff,(λ⟨a,e,_⟩=>by cases e),λhs=> ?_,(λy ⟨a,e,_⟩=>by cases e),λ_ _=>id,λ_ hy=>hy.elim⟩⟩ (F.tt l) ?_
 .have:=A.lt hs;omega
 .rintro y ((rfl|⟨a,e,_⟩|hs)|hy)
  .exact z
  .cases e
  .exact G y hs
  .exact hy.elim
theorem sE{x w z:Int}{B:cG}{n m:Nat}(hr:Row h p (bc B))(o:n=B.length)(hl:B.length<=70368744177664)(hk: ∀H P C,Own H P B.length C 1 (bc B)->Fr No h H->(∀y,aO P y->h.size<=y)->R (.agg #[.I x,.I w,.L P B.length C,.U z]) H):
  Cl 186 #[.agg #[.I x,.I w,.L p n m,.U z]] h R:=by
 subst o;refine Cn.walk (aI.box λr h1 a' K t=>aI.box λk h2 b' O F=> ?_);have M:=F.get K id;refine⟨_,_,_,au M,gE (hr.frame (t.tt F) bX) rfl hl λQ D v o3 u G=>⟨_,_,_,rfl,?_⟩⟩;have l1:=aD K;have l2:=aD O;have k1:=u.get M id;have k2:aI.at v k 0 0 none 0 0 0:=u.get O id;have z1:=t.1;have z2:=F.1;have ne:k≠r:=ag
 refine bk k1 bU λI U a2 A=> ?_
 have k4:aI.at I r x w Q B.length D z:=U;refine aI.ld k4 ?_;have k5:aI.at I k 0 0 none 0 0 0:=(A k ne).trans k2;refine aI.set k5 λJ V d2 Z=>aI.ld V ?_
 have E:Fr (λy=>y=r\/y=k) v J:=⟨ag,λy l o=>by rw[Z y (λe=>o (.inr e)),A y (λe=>o (.inl e))]⟩;have T:Fr No h v:=t.tt (F.tt u);refine hk J Q D (o3.frame E (λy l e=>bW (G y l))) (T.fresh E (λy l=>ag)) (λy l=>bW (G y l))
def xo(o:Int)(n:Nat)(t:Int):Bool:=decide (1<=o) && decide (o<=1099511627776) && decide (1<=n) && decide (n<=600) && decide (t<=1099511627776)
theorem I6{o t:Int}{n:Nat}:xo o n t=true↔1<=o/\o<=1099511627776/\1<=n/\n<=600/\t<=1099511627776:=by simp[xo,and_assoc]
theorem fK{v x u:Int}{n m:Nat}(e: hM h R (.B (xo x n u))):
  Cl 250 #[.agg #[.I v,.I x,.L p n m,.U u]] h R:=by
 refine EG.walk (aI.box λB k E l F=>⟨_,au l,?_⟩);have e:=e k F;unfold xo at e;by_cases k:1<=x
 .rw[af (cQ k)];refine⟨_,au l,?_⟩;by_cases o:x<=1099511627776
  .rw[af (cQ o)];refine⟨_,_,_,au l,?_⟩;by_cases r:1<=n
   .rw[af (by simp;omega)];refine⟨_,_,_,au l,?_⟩;by_cases t:n<=600
    .rw[af (by simp;omega)];refine⟨_,au l,?_⟩;simpa[k,o,r,t]using e
    .rw[ae (by simp;omega)];simpa[t]using e
   .rw[ae (by simp;omega)];simpa[r]using e
  .rw[ae (cQ o)];simpa[o]using e
 .rw[ae (cQ k)];simpa[k]using e
def yM(f:List It)(num:Int):Option Nat:=f.findIdx? (λa=>decide ((a.num:Int)=num))
def rV(f:List It)(num:Int):Int:=match yM f num with|some k=>(k:Int)|none=> -1
abbrev AZ(h:ai)(b:Nat)(num:Int):Prop:=h[b]? =some (.cells #[.int .i64 num] 3 (0,0))
theorem OR{b:Nat}{num:Int}(x:IV)(hid:AZ h b num)(m: hM h R (.B (decide ((x.num:Int)=num)))):Cl 84 #[x.agg,.P b 0] h R:=by
 refine vR.walk (aI.box λB k E l F=>⟨_,au l,_,au (F.get hid (λx=>x)),?_⟩);have e:((x.num:Int)==num)=decide ((x.num:Int)=num):=by
  by_cases q:(x.num:Int)=num<;>simp[q]
 rw[e];exact m k F
theorem nE{f:List IV}{n m b:Nat}{num:Int}(D:Row h p (f.flatMap gI))(C:n=f.length)(I:f.length<=1000000000)(hid:AZ h b num)(o: hM h R (.I (rV (f.map IV.abs) num))):
  Cl 83 #[.L p n m,.func (.func 84) #[] #[.P b 0]] h R:=by
 subst C;refine fQ.find.walk ?_;refine⟨λi H=>Fr No h H/\∃k:Nat,i=(k:Int)/\k<=f.length/\∀J (l:J<f.length),J<k->(f[J].num:Int)≠num,λi _=>f.length - i.toNat,⟨Fr.refl _ _,0,rfl,ag,λJ _ l=>ag⟩,?_⟩;rintro _ v ⟨F,k,rfl,G,r⟩;have y:=D.frame F (λ_ _ x=>x);have B:AZ v b num:=F.get hid (λx=>x);by_cases w:k<f.length
 .have Q:(k:Int)<(f.length:Int):=ag
  simp only[Q,bG,bm,aH];have t:f[k]? =some f[k]:=aj w;obtain⟨a,rfl⟩:=y.some (λe=>by have:=cf List.length e;rw[dY gI 4 iG,bE]at this;omega);refine⟨⟨ag,by first|trivial|omega⟩,aw.2 (aI.D5 (y.gx iG t) ?_)⟩;refine OR f[k] B λz u=>⟨_,rfl,?_⟩
  by_cases e:(f[k].num:Int)=num
  .simp only[e,bG,bm];have:rV (f.map IV.abs) num=(k:Int):=by
    unfold rV yM;have:(f.map IV.abs).findIdx? (λa=>decide ((a.num:Int)=num))=some k:=by
     rw[cj];refine⟨by rw[aC];exact w,?_,λJ l=> ?_⟩
     .rw[List.getElem_map];exact av e
     .rw[List.getElem_map,Bool.not_eq_true];exact aB (r J ag l)
    rw[this]
   rw[this]at o;exact o z (F.tt u)
  .simp only[e,bt,ar,aP];rw[bJ ag ag];refine⟨⟨F.tt u,k+1,ag,ag,λJ l E=> ?_⟩,?_⟩
   .by_cases q:J=k
    .subst q;exact e
    .exact r J l ag
   .show f.length - Int.toNat ((k:Int)+1)<f.length - Int.toNat (k:Int);omega
 .have Q: ¬(k:Int)<(f.length:Int):=ag
  simp only[Q,bt,ar,aP];have:rV (f.map IV.abs) num= -1:=by
   unfold rV yM;have:(f.map IV.abs).findIdx? (λa=>decide ((a.num:Int)=num))=none:=by
    rw[df];intro a A;obtain⟨x,t,rfl⟩:=bp.1 A;obtain⟨J,l,rfl⟩:=List.mem_iff_getElem.1 t;exact aB (r J l ag)
   rw[this]
  rw[this]at o;exact o v F
theorem ig{num:Int}(e:Mm h b X s L j g f a S)(o:s.items.length<=1000000000)(n: hM h R (.I (rV s.items num))):Cl 64 #[.P b 0,.I num] h R:=by
 refine yJ.walk (cS ?_);have F:Fr No h (h.push (.C #[.I num] 3)):=Fr.push _ _;have k:=e.on F;have r:=e.len;refine⟨_,_,_,au k.dh,nE k.own.iF rfl ag bZ λm l=>⟨_,rfl,?_⟩⟩;rw[e.abs];exact n m (F.tt l)
theorem QM{n:Nat}(w:n<=1000000)(k: ∀P C H,Own H P 0 C 4 []->Fr No h H->(∀y,aO P y->h.size<=y)->R (.L P 0 C) H):
  Cl 131 #[.Z,.I (n:Int)] h R:=by
 refine jW.walk ?_;simp only[aG];have Q: ¬(n:Int)<0:=ag
 have m:IntKind.wrap .i64 (((0:Nat):Int) - ((0:Nat):Int))=0:=rfl;have E:IntKind.wrap .i64 ((n:Int) - 0)=(n:Int):=by rw[bJ ag ag];omega
 rw[m,E];simp only[Q,bt,ar,aP];by_cases t:n=0
 .subst t;rw[ae bU];exact k none 0 h (.nil rfl rfl rfl rfl) (Fr.refl _ _) (λy ⟨a,e,_⟩=>by cases e)
 .have u:(n:Int)>0:=ag
  simp only[u,bG,bm];refine⟨ag,?_⟩;have r:cY none 0 0 4=none:=kI _ _ _;rw[r];refine NP tI Vm ag ag ag λl H o v F=>⟨_,_,_,rfl,ag,?_⟩
  rw[kI];exact k _ l H o F (λy ⟨a,e,E⟩=>by cases e;exact Nat.le_of_eq E)
theorem Dg{E I:ct}{V M Z T:Nat}{u w:List IV}(U:Row h (Sa c 0) [.L E V M,.L I Z T])(r1:Row h E (u.flatMap gI))(e1:V=u.length)(r2:Row h I (w.flatMap gI))(e2:Z=w.length)(hl:u.length+w.length<=1000)(hk: ∀P J H,Own H P (u++w).length J 4 ((u++w).flatMap gI)->Fr No h H->(∀y,aO P y->h.size<=y)->R (.slice P (u++w).length J) H):
  Cl 82 #[.L (Sa c 0) 2 2] h R:=by
 subst e1 e2;have K: ∀{G:ai},Fr No h G->aT G (((AA c 0):Addr).add (0*1))=some (.L E u.length M):=λx=>(U.frame x bX).cell (j:=0) rfl
 have Q: ∀{G:ai},Fr No h G->aT G (((AA c 0):Addr).add (1*1))=some (.L I w.length T):=λx=>(U.frame x bX).cell (j:=1) rfl
 refine jP.walk ?_;refine⟨λv i G=>G=h/\((i=0/\v=0)\/(i=1/\v=(u.length:Int))\/(i=2/\v=((u.length+w.length:Nat):Int))),λ_ i _=>2 - i.toNat,⟨rfl,.inl ⟨rfl,rfl⟩⟩,?_⟩;rintro v i G ⟨rfl,C⟩;rcases C with⟨rfl,rfl⟩|⟨rfl,rfl⟩|⟨rfl,rfl⟩
 .rw[af (by rfl)];refine aG.of λa' B=>⟨ag,aw.2 ⟨_,_,_,K (Fr.refl _ _),aG.of λJ1 r=> ?_⟩⟩
  have e:IntKind.wrap .i64 (0+(u.length:Int))=(u.length:Int):=by rw[bJ ag ag];omega
  rw[e]at r;rw[e,ae (by simp<;>omega)];subst r;subst B;exact⟨⟨rfl,.inr (.inl ⟨rfl,rfl⟩)⟩,by show 2 - Int.toNat 1<2 - Int.toNat 0;decide⟩
 .rw[af (by rfl)];refine aG.of λa' B=>⟨ag,aw.2 ⟨_,_,_,Q (Fr.refl _ _),aG.of λJ1 r=> ?_⟩⟩
  have e:IntKind.wrap .i64 ((u.length:Int)+(w.length:Int))=((u.length+w.length:Nat):Int):=by rw[bJ ag ag];omega
  rw[e]at r;rw[e,ae (by simp<;>omega)];subst r;subst B;exact⟨⟨rfl,.inr (.inr ⟨rfl,rfl⟩)⟩,by show 2 - Int.toNat 2<2 - Int.toNat 1;decide⟩
 .rw[dy];refine QM ag λp4 c4 h4 o4 f4 g4=>⟨_,_,_,rfl,?_⟩
  refine⟨λl n t i k=>Fr No G k/\(∀y,aO l y->G.size<=y)/\((i=0/\n=0/\Own k l n t 4 [])\/(i=1/\n=u.length/\Own k l n t 4 (u.flatMap gI))\/(i=2/\n=(u++w).length/\Own k l n t 4 ((u++w).flatMap gI))),λ_ _ _ i _=>2 - i.toNat,⟨f4,g4,.inl ⟨rfl,rfl,o4⟩⟩,?_⟩;rintro l n t i k ⟨F,m,C⟩;rcases C with⟨rfl,rfl,o⟩|⟨rfl,rfl,o⟩|⟨rfl,rfl,o⟩
  .rw[af (by rfl)];refine⟨ag,aw.2 ⟨_,_,_,K F,?_⟩⟩;refine dS tI uI o (r1.frame F bX) (dY gI 4 iG u) (GY u) ag ag λp6 c6 h6 O _ z A=>⟨_,_,_,rfl,?_⟩
   rw[dp,bP]at O;rw[bP];have b':=F.1;exact⟨⟨F.fresh z m,(λy D=>(A y D).elim (m y) (λh2=>ag)),.inr (.inl ⟨rfl,rfl,O⟩)⟩,by show 2 - Int.toNat 1<2 - Int.toNat 0;decide⟩
  .rw[af (by rfl)];refine⟨ag,aw.2 ⟨_,_,_,Q F,?_⟩⟩;refine dS tI uI o (r2.frame F bX) (dY gI 4 iG w) (GY w) ag ag λp6 c6 h6 O _ z A=>⟨_,_,_,rfl,?_⟩
   rw[<-cR,<-aA]at O;rw[<-aA];have b':=F.1;exact⟨⟨F.fresh z m,(λy D=>(A y D).elim (m y) (λh2=>ag)),.inr (.inr ⟨rfl,rfl,O⟩)⟩,by show 2 - Int.toNat 2<2 - Int.toNat 1;decide⟩
  .rw[dy];exact hk l t k o F m
theorem L4{L:List E}{k:Int}(n:k∉keys L):fZ L k=L:=by
 unfold fZ;rw[cz];intro e m;have:e.1≠k:=λl=>n (l▸bz m)
 simpa using this
theorem Own.zA{h:ai}{p:ct}{f:List IV}{cap l u:Nat}(m:Row h p (f.flatMap gI))(e:l<=u)(k:u<=cap):Row h (cY p cap l 4) (((f.take u).drop l).flatMap gI):=by
 have:=m.sub (cap:=cap) (l:=l) (u:=u) (sz:=4) e k;rwa[mW gI 4 iG,mX gI 4 iG]at this
def vT(f:List It)(i:Nat):List It:=f.take i++f.drop (i+1)
theorem Ak{x:IV}(k:Mm h b X s L j g f a S)(hl:s.items.length<=100)(hL:L.length<1000)(m:f[i]? =some x)(hk: ∀H X',Bx H b X' { s with items:=vT s.items i } (fZ L (x.num:Int))->bw X h X' H->x.v.ok H X'.D->R x.agg H):
  Cl 63 #[.P b 0,.I (i:Int)] h R:=by
 have G':=k.len;have hi:=(ay.1 m).1;refine AW.walk (aI.box λB h1 E' k' f1=> ?_);have H1:=k.on f1;obtain⟨z,D,rfl⟩:=k.own.addr ag;refine⟨_,_,_,au H1.dh,ag,aw.2 (aI.D5 (by rw[aH];exact H1.own.gx iG m) (aI.new λt o F' g' f2=> ?_))⟩;have E:=H1.on f2;have B':aI.at o B 0 0 none 0 0 0:=f2.get k' id;have z1:=f1.1;have z2:=f2.1;have l1:=aD k';have l2:=aD g';have ne:t≠B:=ag
 have nX: ∀y,h.size<=y->¬(X.M y\/X.D y):=λy hy m=>by have:=k.lt y m;omega
 refine⟨_,au E.dh,_,au g',?_⟩;have h': ∀l,cg.Al l a S (fZ L (x.num:Int))->Fr S o l->
   l[b]? =some (.C #[.L (Sa z D) f.length g,.I (s.next:Int),.I (s.taken:Int),.I (s.sX:Int),.I (s.over:Int),.P a 0] 101 (0,0))/\
   Row l (Sa z D) (f.flatMap gI)/\aI.at l B 0 0 none 0 0 0/\aI.at l t (x.num:Int) x.owner x.v.p x.v.b.length x.v.c (x.fR:Int):=by
  intro l A F;have nS: ∀y,h.size<=y->¬S y:=λy hy Q=>by have:=k.al.lt Q;omega
  exact⟨F.get E.dh k.bs,E.own.iF.frame F (λa' ea Q=>k.ls _ ⟨a',ea,rfl⟩ Q),F.get B' (nS B ag),F.get g' (nS t ag)⟩
 have j': ∀l,cg.Al l a S (fZ L (x.num:Int))->Fr S o l->∀P C r,Fr No l r->Own r P (f.take i++f.drop (i+1)).length C 4 ((f.take i++f.drop (i+1)).flatMap gI)->(∀y,aO P y->l.size<=y)->
   aJ r (AA b 0) (.slice P (f.take i++f.drop (i+1)).length C) λJ=>
    ∃(s':Int),aT J (AA t 0)=some (.I s')/\∃(t':Int),aT J (AA t 1)=some (.I t')/\∃(w':ct)(v' u':Nat),aT J (AA t 2)=some (.L w' v' u')/\∃(x':Int),aT J (AA t 3)=some (.U x')/\
    aJ J (AA B 0) (.I s') λy'=>
    aJ y' (AA B 1) (.I t') λz'=>
    aJ z' (AA B 2) (.L w' v' u') λA'=>
    aJ A' (AA B 3) (.U x') λM=>
    ∃(m':Int),aT M (AA B 0)=some (.I m')/\∃(n':Int),aT M (AA B 1)=some (.I n')/\∃(q':ct)(p' o':Nat),aT M (AA B 2)=some (.L q' p' o')/\∃(r':Int),aT M (AA B 3)=some (.U r')/\
    R (.agg #[.I m',.I n',.L q' p' o',.U r']) M:=by
  intro l A F P C r n U G;obtain⟨K,_,k3,k4⟩:=h' l A F;have lb:=aD k.dh;have z7:=F.1;have z9:=n.1;refine bk (n.get K id) bU λI a1 a2 a3=> ?_
  have i2:aI.at I t (x.num:Int) x.owner x.v.p x.v.b.length x.v.c (x.fR:Int):=(a3 t ag).trans (n.get k4 id);refine aI.ld i2 ?_;have i1:aI.at I B 0 0 none 0 0 0:=(a3 B ag).trans (n.get k3 id);refine aI.set i1 λc' d1 d2 d3=>aI.ld d1 ?_
  have f':Fr (λy=>y=b) r I:=Fr.of_eq a2 a3;have b':Fr (λy=>y=B) I c':=Fr.of_eq d2 d3;have F2:Fr No h o:=f1.tt f2;have F7:Fr S h l:=Fr.no F2 F;have F9:Fr S h r:=F7.tt (n.mono (λ_ _ m=>m.elim));have d':Fr (λy=>S y\/y=b) h I:=(F9.mono (λ_ _ m=> .inl m)).tt (f'.mono (λ_ _ m=> .inr m));have e':Fr X.M h c':=by
   refine⟨db d'.1 b'.1,λy hy hn=> ?_⟩;rw[b'.2 y (cK hy d'.1) (λe=>ag),d'.2 y hy (λm=>hn ((k.m y).2 (m.elim (λh=> .inr (.inr h)) .inl)))]
  have C': ∀y,aO P y->¬S y:=λy hy Q=>by have:=G y hy;have:=k.al.lt Q;omega
  have l': ∀y,aO P y->y≠b:=λy hy e=>by have:=G y hy;omega
  have D': ∀y,aO P y->y≠B:=λy hy e=>by have:=G y hy;omega
  have i': ∀v:IV,v∈f->v.v.ok c' X.D:=λv hv=>(k.EH v hv).frame e' (λy O hm=>k.vw y hm O)
  refine hk c' ⟨λy=>y=b\/aO P y\/S y,X.D⟩ ⟨P,C,f.take i++f.drop (i+1),a,S,⟨?_,(U.frame f' l').frame b' D',?_,?_,?_,λ_=>ff,λm=>l' b m rfl,k.bs,C',?_,λy hy=>cK (k.GZ y hy) e'.1⟩⟩ ⟨e',?_,λ_=> .inl,λ_=>id⟩ (i' x (aX m))
  .rw[d3 b ag,a1];simp
  .have A9:=A.frame n bX;exact(A9.frame f' (λy hy e=>k.bs (e▸hy))).frame b' (λy hy e=>bW (k.al.lt hy))
  .show _=vT s.items i;unfold vT;rw[<-k.abs,aY,List.map_take,List.map_drop]
  .intro v hv;refine i' v ?_;rcases bH.1 hv with hv|hv
   .exact List.mem_of_mem_take hv
   .exact gl hv
  .rintro y (rfl|hy|hy) O
   .exact k.vw _ ((k.m _).2 (.inl rfl)) O
   .have:=G y hy;have:=k.GZ y O;omega
   .exact k.vw _ ((k.m _).2 (.inr (.inr hy))) O
  .rintro y (rfl|hy|hy)
   .exact .inl ((k.m _).2 (.inl rfl))
   .right;have:=G y hy;omega
   .exact .inl ((k.m _).2 (.inr (.inr hy)))
 have ew:IntKind.wrap .i64 ((i:Int)+1)=((i+1:Nat):Int):=by rw[bJ ag ag];omega
 have cap:=k.own.le;rw[ew];simp only[aH,Nat.sub_zero];refine cg.pZ E.al ag _ (λhm l A F=>⟨_,rfl,?_⟩) (λhm=>⟨_,rfl,?_⟩)
 .obtain⟨K,k2,k3,k4⟩:=h' l A F;refine⟨_,_,_,au K,ag,_,_,_,au K,ag,cS ?_⟩;have u:Fr No l (l.push (.C #[.L (cY (Sa z D) g 0 4) i g,.L (cY (Sa z D) g (i+1) 4) (f.length - (i+1)) (g - (i+1))] 99)):=Fr.push _ _;have w:=u.get K id;refine⟨au w,au w,?_⟩;have V:=k2.frame u bX;have Z:=Own.zA (l:=0) (u:=i) (cap:=g) V ag ag;have rb:=Own.zA (l:=i+1) (u:=f.length) (cap:=g) V ag ag;rw[gV]at Z;rw[fO]at rb;refine Dg ju Z (by rw[bA];omega) rb (by rw[bM]) (by rw[bA,bM];omega) λP C r U n G=>⟨_,_,_,rfl,?_⟩
  have T:=n.get w id;exact⟨au T,au T,j' l A F P C r (u.tt n) U (λy hy=>by have:=G y hy;rw[cZ]at this;omega)⟩
 .have A:cg.Al o a S (fZ L (x.num:Int)):=by
   rw[L4 hm];exact E.al
  have F:Fr S o o:=Fr.refl _ _;obtain⟨K,k2,k3,k4⟩:=h' o A F;refine⟨_,_,_,au K,ag,_,_,_,au K,ag,cS ?_⟩;have u:Fr No o (o.push (.C #[.L (cY (Sa z D) g 0 4) i g,.L (cY (Sa z D) g (i+1) 4) (f.length - (i+1)) (g - (i+1))] 99)):=Fr.push _ _;have w:=u.get K id;refine⟨au w,au w,?_⟩;have V:=k2.frame u bX;have Z:=Own.zA (l:=0) (u:=i) (cap:=g) V ag ag;have rb:=Own.zA (l:=i+1) (u:=f.length) (cap:=g) V ag ag;rw[gV]at Z;rw[fO]at rb;refine Dg ju Z (by rw[bA];omega) rb (by rw[bM]) (by rw[bA,bM];omega) λP C r U n G=>⟨_,_,_,rfl,?_⟩
  have T:=n.get w id;exact⟨au T,au T,j' o A F P C r (u.tt n) U (λy hy=>by have:=G y hy;rw[cZ]at this;omega)⟩
end iC
end
section
open Go.fW Go.kV
namespace iC
open cg (jM)
variable {L:List E} {s:BS} {i:List It} {now:Int}
variable {num:Int}
def It.kv(x:It):E:=((x.num:Int),(x.fR:Int))
structure okB (s:BS) (L:List E):Prop where
 le:s.items.length<=16
 pm:L.Perm (s.items.map It.kv)
 it: ∀x∈s.items,1<=x.num/\x.num<s.next/\1<=x.d.length/\x.d.length<=600/\1<=x.owner/\x.owner<=1099511627776/\x.fR<=1099511627776
 inc:(s.items.map It.num).Pairwise (· < ·)
 yN:s.next=1+s.items.length+s.taken+s.sX+s.over
theorem okB.nil:okB ⟨[],1,0,0,0⟩ []:=⟨bU,.refl _,bU,.nil,rfl⟩
def qL(i:List It)(num:Int):List It:=i.filter (λy=> !decide ((y.num:Int)=num))
theorem pj: ∀{i:List It}{I:Nat}{x:It},(i.map It.num).Pairwise (· < ·)->i[I]? =some x->vT i I=qL i (x.num:Int)
 | [],I,x,_,h=>by simp at h
 |y::r,0,x,H,h=>by
  simp at h;subst h;rw[cb,dV]at H;unfold vT qL;rw[cu];simp only[bG,cX,ar,aP,eV,dp,List.drop_succ_cons,gV];symm
  rw[cz];intro z c;have:=H.1 z.num (bz c);have: ¬(z.num:Int)=(y.num:Int):=ag
  simp[this]
 |y::r,I+1,x,H,h=>by
  rw[cb,dV]at H;rw[dF]at h;have a:=pj H.2 h;have d:=H.1 x.num (bz (aX h));have b: ¬(y.num:Int)=(x.num:Int):=ag
  unfold vT qL at a⊢;rw[cu];simp only[b,bt,ee,bm,gu,List.drop_succ_cons,dj];rw[a]
theorem A4(h:L.Perm (i.map It.kv)):(fZ L num).Perm ((qL i num).map It.kv):=by
 have:=h.filter (λe=> !(e.1==num));unfold fZ;refine this.trans ?_;rw[dQ];refine List.Perm.of_eq ?_;unfold qL;refine cf _ (eK ?_);intro x _;show(!((x.num:Int)==num))=_;by_cases q:(x.num:Int)=num<;>simp[q]
theorem okB.sub{I:List It}{l:List E}{t c o:Nat}(O:okB s L)(h:I.Sublist s.items)(a:l.Perm (I.map It.kv))(H:s.next=1+I.length+t+c+o):okB ⟨I,s.next,t,c,o⟩ l:=
 ⟨db h.length_le O.le,a,λx b=>O.it x (h.subset b),O.inc.sublist (h.map _),H⟩
theorem A5{I:Nat}(h:yM i num=some I): ∃x,i[I]? =some x/\(x.num:Int)=num:=by
 unfold yM at h;rw[cj]at h;obtain⟨H,a,_⟩:=h;exact⟨_,aj H,cQ a⟩
theorem OS(h:yM i num=none): ∀x∈i,(x.num:Int)≠num:=by
 unfold yM at h;rw[df]at h;intro x H;simpa using h x H
theorem uniq(h:(i.map It.num).Pairwise (· < ·)){x y:It}(H:x∈i)(b:y∈i)(e:x.num=y.num):x=y:=by
 induction i with
 |nil=>cases H
 |cons z r I=>
  rw[cb,dV]at h;rcases bf.1 H with a|Wc
  .rcases bf.1 b with E|Vn
   .rw[a,E]
   .have:=h.1 y.num (bz Vn);rw[a]at e;omega
  .rcases bf.1 b with E|Vn
   .have:=h.1 x.num (bz Wc);rw[E]at e;omega
   .exact I h.2 Wc Vn
theorem gw: ∀{L:List E},jI L->cg.due L now=L.filter (jM now)/\cg.rest L now=L.filter (λe=> !jM now e)
 | [],_=>⟨rfl,rfl⟩
 |e::r,f=>by
  have c:=dV.1 f;obtain⟨I,d⟩:=gw (L:=r) c.2;unfold cg.due at I⊢;unfold cg.rest at d⊢;by_cases b:jM now e=true
  .rw[List.takeWhile_cons,List.dropWhile_cons,cu,cu,b];simp only[bm,cX,ar,aP];rw[I,d];exact⟨rfl,rfl⟩
  .have H:jM now e=false:=by simpa using b
   have a: ∀x∈r,jM now x=false:=by
    intro x h;have h1:=c.1 x h;unfold jM at H⊢;have g:=gi H;apply aB
    rcases h1 with h1|h1<;>omega
   rw[List.takeWhile_cons,List.dropWhile_cons,cu,cu,H];simp only[ar,aP,ee,bm];refine⟨?_,?_⟩
   .symm;rw[List.filter_eq_nil_iff];intro x h;rw[a x h];simp
   .congr 1;symm;rw[cz];intro x h;rw[a x h];rfl
def oH(i:List It)(K:List Int):List It:=i.filter (λx=>decide ((x.num:Int)∉K))
theorem OT:oH i []=i:=by unfold oH;simp
theorem OU{K:List Int}{k:Int}:qL (oH i K) k=oH i (K++ [k]):=by
 unfold qL oH;rw[List.filter_filter];apply eK
 intro x _;by_cases h:(x.num:Int)=k
 .simp[h]
 .by_cases H:(x.num:Int)∈K<;>simp[h,H]
theorem OV(o:okB s L)(S:jI L)(n:(keys L).Nodup):oH s.items (keys (cg.due L now))=s.items.filter (λx=>decide (now<(x.fR:Int))):=by
 obtain⟨E,_⟩:=gw (now:=now) S;unfold oH;apply eK
 intro x b;have f:x.kv∈L:=o.pm.mem_iff.2 (bz b);by_cases a:now<(x.fR:Int)
 .simp only[a,bG,aW];intro H;rw[E]at H;obtain⟨e,d,c⟩:=bp.1 H;have h:=bj.1 d;obtain⟨y,g,rfl⟩:=bp.1 (o.pm.mem_iff.1 h.1);have:y=x:=uniq o.inc g b (by have:(y.num:Int)=(x.num:Int):=c;omega);subst this;have:=aU h.2;unfold It.kv at this;dsimp only at this;omega
 .simp only[a,bt,fk,Classical.not_not];rw[E];refine bp.2 ⟨x.kv,bj.2 ⟨f,av ?_⟩,rfl⟩;unfold It.kv;dsimp only;omega
theorem Dh(o:okB s L)(S:jI L):(cg.rest L now).Perm ((s.items.filter (λx=>decide (now<(x.fR:Int)))).map It.kv):=by
 rw[(gw (now:=now) S).2];refine(o.pm.filter _).trans (List.Perm.of_eq ?_);rw[dQ];congr 1
 apply eK
 intro x _;show(!decide ((x.fR:Int)<=now))=_;by_cases q:now<(x.fR:Int)
 .simp[q]
 .simp[q];omega
theorem OW(o:okB s L)(S:jI L):(cg.due L now).Perm ((s.items.filter (λx=>decide ((x.fR:Int)<=now))).map It.kv):=by
 rw[(gw (now:=now) S).1];refine(o.pm.filter _).trans (List.Perm.of_eq ?_);rw[dQ];rfl

end iC
end
section
variable {h:ai} {R:fM}
variable {p:Nat} {o n:Int}
theorem xp.walk(H: ∃t,Cc h p 2 (.map t)/\R (.B (!t.isNone)) h):Cl 85 #[.P p 0] h R:=aR [] Tryz.func85 H
theorem L8.walk{w:Int}{s:Int}(d:aG (λ(t:Bool) (H:ai)=>if t then R (.T #[.pointer none,.I 1]) H else bg H (.map #[] 0) λb a=>bg a (.C #[.I w,.I s,.map (some b),.I 0] 87) λB c=>R (.T #[.P B 0,.I 0]) c) (λJ=>if(decide (w<1))then J true h else if(decide (w>1048576))then J true h else if(decide (s<1))then J true h else J (decide (s>w)) h)):Cl 12 #[.I w,.I s] h R:=aR [(4,.join [(20,.one (.bool))])] Tryz.func12 d
theorem yO.walk(b:Cl 85 #[.P p 0] h λv H=> ∃t,v=.B t/\if(!t)then R (.I 6) H else aG (λ(T:Bool) (a:ai)=>if T then R (.I 1) a else R (.I 0) a) (λJ=>if(decide (o<1))then J true H else if(decide (o>1099511627776))then J true H else J (decide (n<0)) H)):Cl 65 #[.P p 0,.I o,.I n] h R:=aR [(11,.join [(11,.one (.bool))])] Tryz.func65 b
theorem xq.walk (l:Cl 65 #[.P p 0,.I o,.I n] h λv H=> ∃t,v=.I t/\if(t !=0)then R (.I t) H else aG (λ(r:Bool) (a:ai)=>if r then R (.I 15) a else aG (λ(i:ai)=>R (.I 0) i) (λj=>if(decide (n>0))then∃T,Cc a p 2 (.map T)/\∃f,iM Tryz.prog 85 (.map T) (.I o) false a (.I f)/\ba Tryz.prog (Instr.mapUpdate 85 (.map T) (.I o) (.I (wrap .i64 (f+n)))) a λ_ b=> ∃g,Cc b p 3 (.I g)/\aJ b (AA p 3) (.I (wrap .i64 (g+n))) λk=>j k else j a)) (λJ=>Hi H p 1 λm=> ∃c,Cc H p 2 (.map c)/\∃d,iM Tryz.prog 85 (.map c) (.I o) false H (.I d)/\if(decide (n>(wrap .i64 (m - d))))then J true H else Hi H p 0 λq=> ∃e,Cc H p 3 (.I e)/\J (decide (n>(wrap .i64 (q - e)))) H)):Cl 222 #[.P p 0,.I o,.I n] h R:=aR [(14,.join [(40,.one (.bool))]),(14,λ_=>pN 26),(23,.join [])] Tryz.func222 l
theorem xr.walk (c:Cl 65 #[.P p 0,.I o,.I n] h λv H=> ∃t,v=.I t/\if(t==0)then Hi H p 1 λd=> ∃T,Cc H p 2 (.map T)/\∃a,iM Tryz.prog 85 (.map T) (.I o) false H (.I a)/\if(decide (n<=(wrap .i64 (d - a))))then Hi H p 0 λe=> ∃b,Cc H p 3 (.I b)/\R (.B (decide (n<=(wrap .i64 (e - b))))) H else R (.B false) H else R (.B false) H):Cl 220 #[.P p 0,.I o,.I n] h R:=aR [(3,λ_=>pN 34)] Tryz.func220 c
theorem xt.walk(m:Cl 65 #[.P p 0,.I o,.I n] h λv H=> ∃t,v=.I t/\if(t !=0)then R (.I t) H else∃c,Cc H p 2 (.map c)/\∃d,iM Tryz.prog 85 (.map c) (.I o) false H (.I d)/\if(decide (n>d))then R (.I 7) H else∃e,Cc H p 3 (.I e)/\aJ H (AA p 3) (.I (wrap .i64 (e - n))) λb=> ∃T,Cc b p 2 (.map T)/\∃f,iM Tryz.prog 85 (.map T) (.I o) false b (.I f)/\ba Tryz.prog (Instr.mapUpdate 85 (.map T) (.I o) (.I (wrap .i64 (f - n)))) b λ_ a=> ∃g,Cc a p 2 (.map g)/\∃i,iM Tryz.prog 85 (.map g) (.I o) false a (.I i)/\aG (λ(k:ai)=>R (.I 0) k) (λJ=>if(i==0)then∃j,Cc a p 2 (.map j)/\ba Tryz.prog (Builtin.delete_ #[85,3] 0 #[.map j,.I o]) a λV l=>V=.T #[]/\J l else J a)):Cl 41 #[.P p 0,.I o,.I n] h R:=aR [(27,.join [])] Tryz.func41 m

end
section
namespace nF
theorem tm:rk Tryz.prog 85 (.I 0):=.of 3 3 .i64 dA dA dA
def gQ(h:ai)(p m:Nat)(w S A:Int)(f:Int->Int):Prop:=
 h[p]? =some (.cells #[.int .i64 w,.int .i64 S,.map (some m),.int .i64 A] 87 (0,0))/\
 ∃g:Int->Option Value,nU h m g/\∀k,(g k).getD (.int .i64 0)=.int .i64 (f k)
def Ok(w S A:Int)(f:Int->Int):Prop:=1<=S/\S<=w/\w<=1048576/\ -2000000000000<=A/\A<=w/\∀k,0<=f k/\f k<=S
variable {h : ai} {p m : Nat} {w S A : Int} {f : Int → Int} {R : Value → ai → Prop}
theorem gQ.frame{Q:Nat->Prop}{H:ai}(j:gQ h p m w S A f)(a:Fr Q h H)(b: ¬Q p)(c: ¬Q m):gQ H p m w S A f:=by
 obtain⟨d,g,e,i⟩:=j;exact⟨a.get d b,g,e.frame a c,i⟩
theorem gQ.ne(d:gQ h p m w S A f):p≠m:=by
 obtain⟨a,g,b,_⟩:=d;obtain⟨e,c,H⟩:=b.map;rintro rfl;rw[a]at H;cases H
theorem gQ.lt(H:gQ h p m w S A f):p<h.size/\m<h.size:=⟨aD H.1,by obtain⟨_,g,a,_⟩:=H;exact a.lt⟩
theorem gQ.ext{F:Int->Int}(d:gQ h p m w S A f)(a: ∀k,F k=f k):gQ h p m w S A F:=by
 obtain⟨H,g,b,c⟩:=d;exact⟨H,g,b,λk=>by rw[a];exact c k⟩
theorem gr(a:gQ h p m w S A f)(H:R (.B true) h):Cl 85 #[.P p 0] h R:=
 xp.walk ⟨some m,au a.1,H⟩
theorem look(b:gQ h p m w S A f)(o:Int):iM Tryz.prog 85 (.map (some m)) (.I o) false h (.I (f o)):=by
 obtain⟨_,g,H,a⟩:=b;have:=CM tm H o;rw[a]at this;exact this
def may(o n:Int):Bool:=decide (1<=o) && decide (o<=1099511627776) && decide (0<=n)
def jT(o n:Int):Int:=if may o n=true then 0 else 1
theorem mP{o n:Int}:may o n=true↔1<=o/\o<=1099511627776/\0<=n:=by simp[may,and_assoc]
theorem xu(d:gQ h p m w S A f)(o n:Int)(H:R (.I (jT o n)) h):Cl 65 #[.P p 0,.I o,.I n] h R:=by
 refine yO.walk (gr d ⟨true,rfl,?_⟩);simp only[aG];unfold jT may at H;by_cases a:o<1
 .simpa[a,show¬1<=o by omega]using H
 .by_cases b:o>1099511627776
  .simpa[a,b,show¬o<=1099511627776 by omega]using H
  .by_cases c:n<0
   .simpa[a,b,c,show¬0<=n by omega]using H
   .simpa[a,b,c,show 1<=o by omega,show o<=1099511627776 by omega,show 0<=n by omega]using H
def fits(w S A:Int)(f:Int->Int)(o n:Int):Bool:=may o n && decide (n<=S - f o) && decide (n<=w - A)
def RQ(w S A:Int)(f:Int->Int)(o n:Int):Int:=if may o n=true then(if fits w S A f o n=true then 0 else 15)else 1
def kK(f:Int->Int)(o n:Int):Int->Int:=λk=>if k=o then f k+n else f k
theorem OX{o n:Int}:fits w S A f o n=true↔(1<=o/\o<=1099511627776/\0<=n)/\n<=S - f o/\n<=w - A:=by
 simp[fits,mP,and_assoc]
theorem Ok.take{o n:Int}(d:Ok w S A f)(H:fits w S A f o n=true):Ok w S (A+n) (kK f o n):=by
 obtain⟨O,a,b,r,s,c⟩:=d;obtain⟨⟨g,i,j⟩,l,q⟩:=OX.1 H;refine⟨O,a,b,ag,ag,λk=> ?_⟩;have:=c k;unfold kK;split
 .rename_i e;subst e;omega
 .exact this
theorem vU(H:gQ h p m w S A f)(G:Ok w S A f)(o n:Int)(x:fits w S A f o n=true->∀d,gQ d p m w S (A+n) (kK f o n)->Fr (λc=>c=p\/c=m) h d->R (.I 0) d)(K:fits w S A f o n=false->R (.I (RQ w S A f o n)) h):
  Cl 222 #[.P p 0,.I o,.I n] h R:=by
 obtain⟨P,Q,T,U,V,O⟩:=G;have X:=O o;refine xq.walk (xu H o n ⟨_,rfl,?_⟩);unfold RQ at K;unfold jT;cases b:may o n with
 |false=>
  have:=K (by simp[fits,b]);simpa[b]using this
 |true=>
  have J:=mP.1 b;simp only[bm,bne_self_eq_false,ar,aP,aG];refine⟨S,au H.1,some m,au H.1,f o,look H o,?_⟩;rw[bJ ag ag];by_cases i:n>S - f o
  .have a:fits w S A f o n=false:=by simp[fits,show¬n<=S - f o by omega]
   have:=K a;simpa[i,b,a]using this
  .simp only[i,bt,ar,aP];refine⟨w,au H.1,A,au H.1,?_⟩;rw[bJ ag ag];by_cases j:n>w - A
   .have a:fits w S A f o n=false:=by simp[fits,show¬n<=w - A by omega]
    have:=K a;simpa[j,b,a]using this
   .have a:fits w S A f o n=true:=by simp[fits,b,show n<=S - f o by omega,show n<=w - A by omega]
    simp only[j,bt,ar,aP];by_cases l:n>0
    .simp only[l,bG,bm];refine⟨some m,au H.1,f o,look H o,?_⟩;rw[bJ ag ag];have t:=H.ne;obtain⟨z,g,C,E⟩:=H;refine nk tm C ?_;intro I D L u;have q:=(u p t).trans z;refine⟨A,au q,?_⟩;rw[bJ ag ag];refine bk q bU ?_;intro y B M v;refine x a y ⟨B,_,D.nj (v m (fY t)),λk=> ?_⟩ (Fr.of_eq ag λc r=> ?_)
     .unfold kK;by_cases s:k=o
      .simp[s]
      .simp[s,E]
     .rw[v c (λe=>r (.inl e)),u c (λe=>r (.inr e))]
    .have F:n=0:=ag
     simp only[l,bt,ar,aP];refine x a h ?_ (Fr.refl _ _);subst F;rw[Int.add_zero];exact H.ext λk=>by unfold kK;split<;>omega
theorem QN(H:gQ h p m w S A f)(d:Ok w S A f)(o n:Int)(a:R (.B (fits w S A f o n)) h):Cl 220 #[.P p 0,.I o,.I n] h R:=by
 obtain⟨e,g,i,j,k,O⟩:=d;have l:=O o;refine xr.walk (xu H o n ⟨_,rfl,?_⟩);unfold jT;unfold fits at a;cases c:may o n with
 |false=>simpa[c]using a
 |true=>
  simp only[bm,fP];refine⟨S,au H.1,some m,au H.1,f o,look H o,?_⟩;rw[bJ ag ag];by_cases b:n<=S - f o
  .simp only[b,bG,bm];refine⟨w,au H.1,A,au H.1,?_⟩;rw[bJ ag ag];simpa[c,b]using a
  .simpa[c,b]using a
def gives(f:Int->Int)(o n:Int):Bool:=may o n && decide (n<=f o)
def RR(f:Int->Int)(o n:Int):Int:=if may o n=true then(if gives f o n=true then 0 else 7)else 1
theorem Ma{o n:Int}:gives f o n=true↔(1<=o/\o<=1099511627776/\0<=n)/\n<=f o:=by simp[gives,mP,and_assoc]
theorem QO(i:gQ h p m w S A f)(U:Ok w S A f)(o n:Int)(F:gives f o n=true->∀l,gQ l p m w S (A - n) (kK f o (-n))->Fr (λc=>c=p\/c=m) h l->R (.I 0) l)(K:gives f o n=false->R (.I (RR f o n)) h):
  Cl 41 #[.P p 0,.I o,.I n] h R:=by
 obtain⟨o1,o2,o3,o4,o5,T⟩:=U;have of:=T o;refine xt.walk (xu i o n ⟨_,rfl,?_⟩);unfold RR at K;unfold jT;cases d:may o n with
 |false=>
  have:=K (by simp[gives,d]);simpa[d]using this
 |true=>
  have V:=mP.1 d;simp only[bm,bne_self_eq_false,ar,aP];refine⟨some m,au i.1,f o,look i o,?_⟩;by_cases y:n>f o
  .have a:gives f o n=false:=by simp[gives,show¬n<=f o by omega]
   have:=K a;simpa[y,d,a]using this
  .have a:gives f o n=true:=by simp[gives,d,show n<=f o by omega]
   simp only[y,bt,ar,aP];have t:=i.ne;obtain⟨z,g,L,s⟩:=i;refine⟨A,au z,?_⟩;rw[bJ ag ag];refine bk z bU ?_;intro G r X u;have B:=L.nj (u m (fY t));have P:gQ G p m w S (A - n) f:=⟨r,g,B,s⟩;refine⟨some m,au r,f o,look P o,?_⟩;rw[bJ ag ag];refine nk tm B ?_;intro q C Z v;have j:=(v p t).trans r;have E:gQ q p m w S (A - n) (kK f o (-n)):=⟨j,_,C,λk=>by
    unfold kK;by_cases b:k=o
    .simp[b,Int.sub_eq_add_neg]
    .simp[b,s]⟩
   have J:Fr (λc=>c=p\/c=m) h q:=Fr.of_eq ag λc H=>by rw[v c (λe=>H (.inr e)),u c (λe=>H (.inl e))]
   have O:=look E o;refine⟨some m,au j,kK f o (-n) o,O,?_⟩;simp only[aG];by_cases x:kK f o (-n) o=0
   .simp only[x,fP,bm];refine⟨some m,au j,?_⟩;refine xY tm C ?_;intro I M a' D;refine⟨rfl,F a I ⟨(D p t).trans j,_,M,λk=> ?_⟩ (Fr.of_eq ag λc H=> ?_)⟩
    .by_cases b:k=o
     .subst b;simp[x]
     .simp[b,s,kK]
    .rw[D c (λe=>H (.inr e)),v c (λe=>H (.inr e)),u c (λe=>H (.inl e))]
   .have Q:(kK f o (-n) o==0)=false:=by simpa using x
    simp only[Q,ar,aP];exact F a q E J
def yh(w S:Int):Bool:=decide (1<=w) && decide (w<=1048576) && decide (1<=S) && decide (S<=w)
theorem Mb:yh w S=true↔1<=w/\w<=1048576/\1<=S/\S<=w:=by simp[yh,and_assoc]
theorem jj(w S:Int){h:ai}(K:yh w S=true->∀H p m,gQ H p m w S 0 (λ_=>0)->h.size<=p->h.size<=m->Fr No h H->R (.T #[.P p 0,.I 0]) H)(k:yh w S=false->R (.T #[.pointer none,.I 1]) h):Cl 12 #[.I w,.I S] h R:=by
 refine L8.walk ?_;simp only[aG];by_cases c:w<1
 .simpa only[c,bG,bm]using k (by simp[yh,show¬1<=w by omega])
 .simp only[c,bt,ar,aP];by_cases d:w>1048576
  .simpa only[d,bG,bm]using k (by simp[yh,show¬w<=1048576 by omega])
  .simp only[d,bt,ar,aP];by_cases e:S<1
   .simpa only[e,bG,bm]using k (by simp[yh,show¬1<=S by omega])
   .simp only[e,bt,ar,aP];by_cases g:S>w
    .simpa only[g,bG,bm]using k (by simp[yh,show¬S<=w by omega])
    .simp only[g,bt,ar,aP];rintro b i rfl rfl B j rfl rfl;refine K (Mb.2 ag) _ _ h.size ⟨bZ,λ_=>none,?_,λ_=>rfl⟩ bU bU ?_
     .exact(nU.push h).frame (Fr.push (S:=λ_=>False) _ _) bU
     .exact(Fr.push (S:=λ_=>False) h _).trans (Fr.push (S:=λ_=>False) _ _) (λ_ _ a=>a) (λ_ _ a=>a)
end nF
end
section
namespace dP
open iC (It)
variable {l L:List It} {x:It} {o:Int}
def yx(l:List It):Int:=(l.map (λx=>(x.d.length:Int))).sum
def own(l:List It)(o:Int):Int:=yx (l.filter (λx=>decide (x.owner=o)))
theorem A6(p:l.Perm L):yx l=yx L:=by
 induction p with
 |nil=>rfl
 |cons x _ i=>unfold yx at i⊢;simp only[cb,List.sum_cons];omega
 |swap x y l=>unfold yx;simp only[cb,List.sum_cons];omega
 |trans _ _ a b=>exact a.trans b
theorem A7(p:l.Perm L):own l=own L:=funext λ_=>A6 (p.filter _)
theorem jU:yx (x::l)=x.d.length+yx l:=by unfold yx;rw[cb,List.sum_cons]
theorem nG:own (x::l) o=(if x.owner=o then(x.d.length:Int)else 0)+own l o:=by
 unfold own;rw[cu];split<;>rename_i h
 .rw[jU,af (aU h)]
 .rw[ae (λe=>h (av e))];omega
theorem I7:0<=yx l:=by
 induction l with
 |nil=>exact fh _
 |cons x l i=>rw[jU];omega
theorem I8:0<=own l o:=I7
theorem SE(c:x∈l):(x.d.length:Int)<=own l x.owner:=by
 obtain⟨a,b,rfl⟩:=List.append_of_mem c;rw[A7 List.perm_middle,nG,af rfl];have:=I8 (l:=a++b) (o:=x.owner);omega
abbrev sY(l:List It):Prop:=nF.Ok 4800 1600 (yx l) (own l)
theorem sY.perm(O:sY l)(p:l.Perm L):sY L:=by
 unfold sY;rw[<-A6 p,<-A7 p];exact O
theorem sY.sub(O:sY (x::l)):sY l:=by
 obtain⟨a,b,c,d,e,f⟩:=O;rw[jU]at d e;have:=I7 (l:=l);refine⟨a,b,c,ag,ag,λk=>⟨I8,?_⟩⟩;have:=(f k).2;rw[nG]at this;split at this<;>omega
theorem sY.nil:sY []:=⟨dT,dT,dT,dT,dT,λ_=>⟨fh 0,show(0:Int)<=1600 by decide⟩⟩
theorem Ko:nF.kK (own l) x.owner (x.d.length:Int)=own (x::l):=by
 funext k
 unfold nF.kK;rw[nG];by_cases e:k=x.owner
 .rw[af e,af e.symm];omega
 .rw[ae e,ae (λq=>e q.symm)];omega
theorem OY:nF.kK (own (x::l)) x.owner (-(x.d.length:Int))=own l:=by
 funext k
 unfold nF.kK;rw[nG];by_cases e:k=x.owner
 .rw[af e,af e.symm];omega
 .rw[ae e,ae (λq=>e q.symm)];omega
def Vo(x:It):Prop:=1<=x.d.length/\x.d.length<=600/\1<=x.owner/\x.owner<=1099511627776
section
variable {h H : ai} {R : Value → ai → Prop} {p m : Nat}
abbrev Pu(h:ai)(p m:Nat)(l:List It):Prop:=nF.gQ h p m 4800 1600 (yx l) (own l)
theorem Pu.perm(a:Pu h p m l)(q:l.Perm L):Pu h p m L:=by
 unfold Pu;rw[<-A6 q,<-A7 q];exact a
theorem TW{n:Int}(b:Pu h p m (x::l))(O:sY (x::l))(k:Vo x)(i:n=(x.d.length:Int))(d: ∀H,Pu H p m l->Fr (λc=>c=p\/c=m) h H->R (.I 0) H):
  Cl 41 #[.P p 0,.I x.owner,.I n] h R:=by
 subst i;have g:nF.gives (own (x::l)) x.owner (x.d.length:Int)=true:=nF.Ma.2 ⟨⟨k.2.2.1,k.2.2.2,ag⟩,SE bU⟩;refine nF.QO b O _ _ (λ_ H a f=>d H ?_ f) (λe=>by rw[g]at e;cases e);rw[OY,jU,show(x.d.length:Int)+yx l - x.d.length=yx l by omega]at a;exact a
end
end dP
end
section
variable {h:ai} {R:fM}
variable {t d D e c C s a F:Nat} {num T id A:Int} {b f S:ct}
theorem EI.walk(g:bg h (.C #[.B true,.Z] 90) λB H=>R (.P B 0) H):Cl 13 #[] h R:=aR [] Tryz.func13 g
theorem sZ.walk (n:aG (λ(v:Bool) (H:ai)=>if v then R (.T #[.pointer none,.I 6]) H else aG (λ(o:Bool) (g:ai)=>if o then R (.T #[.pointer none,.I 4]) g else Hl g t 1 λu r _=>Bd (wrap .i64 (num - 1)) r/\aN u λm=> ∃l,aT g (m.add (toNat (wrap .i64 (num - 1))*1))=some (.pointer l)/\R (.T #[.pointer l,.I 0]) g) (λj=>if(decide (num<1))then j true H else∃q k p,Cc H t 1 (.L q k p)/\j (decide (num>((k:Nat):Int))) H)) (λJ=> ∃i,Cc h t 0 (.B i)/\J (!i) h)):Cl 67 #[.P t 0,.I num] h R:=aR [(5,.join [(6,.one (.bool))]),(11,.join [(16,.one (.bool))])] Tryz.func67 n
theorem vV.walk(l:Cl 67 #[.P t 0,.I num] h λv H=> ∃g i,v=.T #[.pointer g,.I i]/\if(i==0)then aN g λk=> ∃j,aT H (k.add 2)=some (.B j)/\R (.B j) H else R (.B false) H):Cl 68 #[.P t 0,.I num] h R:=aR [] Tryz.func68 l
theorem vW.walk(o:Hl h t 1 λp i _=> ∃(I:Int->ai->Prop)(m:Int->ai->Nat),I 0 h/\∀(g:Int)(H:ai),I g H->if(decide (g<(i:Int)))then Bd g i/\aN p λl=>zW H (l.add (toNat g*1)) λj=>aN j λn=> ∃k,aT H (n.add 1)=some (.U k)/\if(k==T)then R (.pointer j) H else(I (wrap .i64 (g+1)) H/\m (wrap .i64 (g+1)) H<m g H)else R (.pointer none) H):Cl 66 #[.P t 0,.U T] h R:=aR [(6,.loop [(12,.one (.int .i64))])] Tryz.func66 o
theorem tb.walk (K:aG (λ(U:Bool) (g:ai)=>if U then R (.T #[.I 0,.I 6]) g else aG (λ(L:Bool) (i:ai)=>if L then R (.T #[.I 0,.I 1]) i else Cl 66 #[.P t 0,.U T] i λv H=> ∃n,v=.pointer n/\if(!n.isNone)then R (.T #[.I 0,.I 12]) H else∃O o M,Cc H t 1 (.L O o M)/\if(decide (((o:Nat):Int)≥8))then R (.T #[.I 0,.I 5]) H else∃Q p P,Cc H t 1 (.L Q p P)/\bg H (.C #[.I (wrap .i64 (((p:Nat):Int)+1)),.U T,.B true,.B false,.Z,.Z] 105) λB k=> ∃u r q,Cc k t 1 (.L u r q)/\bg k (.C #[.P B 0] 133) λE G=>ba Tryz.prog (Builtin.append_ #[88,88] 88 #[.L u r q,.L (Sa E 0) 1 1]) G λV I=> ∃y x w,V=.L y x w/\aJ I (AA t 1) (.L y x w) λl=> ∃z,Cc l B 0 (.I z)/\R (.T #[.I z,.I 0]) l) (λj=>if(decide (T<1))then j true g else j (decide (T>2147483648)) g)) (λJ=> ∃m,Cc h t 0 (.B m)/\J (!m) h)):Cl 42 #[.P t 0,.U T] h R:=aR [(5,.join [(7,.one (.bool))]),(11,.join [(17,.one (.bool))])] Tryz.func42 K
theorem qM.walk(q:aG (λ(r:Bool) (i:ai)=>if r then R (.T #[.I 0,.I 6]) i else Cl 66 #[.P t 0,.U T] i λv H=> ∃g,v=.pointer g/\if g.isNone then R (.T #[.I 0,.I 12]) H else aN g λn=> ∃l,aT H (n.add 2)=some (.B l)/\if l then R (.T #[.I 0,.I 7]) H else aN g λo=>aJ H (o.add 2) (.B true) λj=>aN g λp=> ∃m,aT j p=some (.I m)/\R (.T #[.I m,.I 0]) j) (λJ=> ∃k,Cc h t 0 (.B k)/\J (!k) h)):Cl 43 #[.P t 0,.U T] h R:=aR [(4,.join [(15,.one (.bool))])] Tryz.func43 q
theorem te.walk(n:Cl 67 #[.P t 0,.I num] h λv H=> ∃g i,v=.T #[.pointer g,.I i]/\if(i !=0)then R (.I i) H else aN g λk=> ∃j,aT H (k.add 2)=some (.B j)/\if(!j)then R (.I 7) H else aN g λl=>aJ H (l.add 2) (.B false) λm=>R (.I 0) m):Cl 44 #[.P t 0,.I num] h R:=aR [] Tryz.func44 n
theorem qa.walk(n:Hl h t 1 λp j _=> ∃(I:Int->ai->Prop)(m:Int->ai->Nat),I 0 h/\∀(g:Int)(H:ai),I g H->if(decide (g<(j:Int)))then Bd g j/\aN p λk=>zW H (k.add (toNat g*1)) λo=>aN o λl=>aJ H (l.add 2) (.B false) λi=>(I (wrap .i64 (g+1)) i/\m (wrap .i64 (g+1)) i<m g H)else R (.T #[]) H):Cl 48 #[.P t 0] h R:=aR [(6,.loop [(11,.one (.int .i64))])] Tryz.func48 n
theorem tf.walk (Z:bg h (.C #[.U id] 27) λB P=>Cl 67 #[.P t 0,.I num] P λs' H=> ∃g p,s'=.T #[.pointer g,.I p]/\if(p !=0)then R (.I p) H else aG (λ(a':Bool) (l:ai)=>if a' then R (.I 1) l else aN g λE=>oL l (E.add 4) λd' c' b'=>Cl 111 #[.L d' c' b',.func (.func 112) #[] #[.P B 0]] l λt' X=>Vl t' λg' f' e'=>aN g λG=>aJ X (G.add 4) (.L g' f' e') λm=>aN g λk=>oL m (k.add 4) λu r q=>Hu m B 0 λj=>Cl 54 #[.L b d D] m λu' n=>Vl u' λj' i' h'=>Cc n B 0 (.U j)/\aT n (k.add 4)=some (.L u r q)/\bg n (.C #[.U j,.L j' i' h'] 135) λO o=>Cc o B 0 (.U j)/\aT o (k.add 4)=some (.L u r q)/\ba Tryz.prog (Builtin.append_ #[102,102] 102 #[.L u r q,.L (Sa O 0) 1 1]) o λv' w=>Vl v' λm' l' k'=>Cc w B 0 (.U j)/\aN g λI=>aJ w (I.add 4) (.L m' l' k') λi=>aN g λK=>oL i (K.add 4) λ_ n' _=>aG (λ(Q:ai)=>R (.I 0) Q) (λv=>if(decide ((n':Int)>6))then aN g λL=>oL i (L.add 4) λo' z y=>((0:Int)<=1/\1<=(z:Int))/\Cl 113 #[.L (cY o' y (toNat 1) 2) (z - (toNat 1)) (y - (toNat 1))] i λw' U=>Vl w' λr' q' p'=>aN g λM=>aJ U (M.add 4) (.L r' q' p') λV=>v V else v i)) (λJ=> ∃x,Cc H B 0 (.U x)/\if(decide (x>1099511627776))then J true H else J (decide ((d:Int)>1000)) H)):Cl 73 #[.P t 0,.I num,.U id,.L b d D] h R:=aR [(13,.join [(21,.one (.bool))]),(22,λ_=>pN 14),(26,.join [])] Tryz.func73 Z
theorem qN.walk(i:bg h (.C #[.U A,.L f e c] 135) λB H=>Hu H B 0 λj=> ∃g,Cc H C 0 (.U g)/\R (.B (j==g)) H):Cl 112 #[.agg #[.U A,.L f e c],.P C 0] h R:=aR [] Tryz.func112 i
theorem th.walk(w:bg h (.C #[.U id] 27) λB r=>Cl 67 #[.P t 0,.I num] r λv i=> ∃j k,v=.T #[.pointer j,.I k]/\if(k !=0)then R (.T #[.Z,.B false]) i else aN j λo=>oL i (o.add 4) λz y x=>Cl 86 #[.L z y x,.func (.func 87) #[] #[.P B 0]] i λV H=> ∃g,V=.I g/\if(decide (g<0))then R (.T #[.Z,.B false]) H else aN j λp=>oL H (p.add 4) λG E _=>Bd g E/\aN G λq=>oL H ((q.add (toNat g*2)).add 1) λK J I=>Cl 54 #[.L K J I] H λL u=> ∃n m l,L=.L n m l/\R (.T #[.L n m l,.B true]) u):Cl 69 #[.P t 0,.I num,.U id] h R:=aR [] Tryz.func69 w
theorem qO.walk(i:bg h (.C #[.U A,.L f e c] 135) λB H=>Hu H B 0 λj=> ∃g,Cc H C 0 (.U g)/\R (.B (j==g)) H):Cl 87 #[.agg #[.U A,.L f e c],.P C 0] h R:=aR [] Tryz.func87 i
theorem rW.walk{o:Bool}(m:Cl 67 #[.P t 0,.I num] h λv H=> ∃i g,v=.T #[.pointer i,.I g]/\aG (λ(k:ai)=>R (.I g) k) (λJ=>if(g==0)then aN i λj=>aJ H (j.add 3) (.B o) λl=>J l else J H)):Cl 155 #[.P t 0,.I num,.B o] h R:=aR [(7,.join [])] Tryz.func155 m
theorem yP.walk{i:ct}{B g:Nat}(H:if(decide ((B:Int)≥1))then R (.B (decide ((B:Int)<=600))) h else R (.B false) h):Cl 210 #[.L i B g] h R:=aR [] Tryz.func210 H
theorem tj.walk(O:Cl 67 #[.P t 0,.I num] h λf' o=> ∃g k,f'=.T #[.pointer g,.I k]/\if(k !=0)then R (.I k) o else Cl 210 #[.L b d D] o λg' H=> ∃r,g'=.B r/\if(!r)then R (.I 1) H else aN g λx=> ∃u,aT H (x.add 3)=some (.B u)/\if(!u)then R (.I 7) H else aN g λj=>oL H (j.add 5) λn m l=>Cl 54 #[.L b d D] H λh' p=>Vl h' λU Q P=>aT p (j.add 5)=some (.L n m l)/\bg p (.C #[.L U Q P] 33) λG q=>aT q (j.add 5)=some (.L n m l)/\ba Tryz.prog (Builtin.append_ #[103,103] 103 #[.L n m l,.L (Sa G 0) 1 1]) q λi' I=>Vl i' λZ X V=>aN g λy=>aJ I (y.add 5) (.L Z X V) λi=>aN g λz=>oL i (z.add 5) λ_ a' _=>aG (λ(K:ai)=>R (.I 0) K) (λJ=>if(decide ((a':Int)>6))then aN g λB=>oL i (B.add 5) λb' w v=>((0:Int)<=1/\1<=(w:Int))/\Cl 189 #[.L (cY b' v (toNat 1) 1) (w - (toNat 1)) (v - (toNat 1))] i λj' L=>Vl j' λe' d' c'=>aN g λE=>aJ L (E.add 5) (.L e' d' c') λM=>J M else J i)):Cl 167 #[.P t 0,.I num,.L b d D] h R:=aR [(26,λ_=>pN 12),(30,.join [])] Tryz.func167 O
theorem tn.walk(y:Cl 67 #[.P t 0,.I num] h λv i=> ∃g j,v=.T #[.pointer g,.I j]/\aG (λ(n:Int) (H:ai)=>if(n==0)then R (.T #[.Z,.I 0,.I j]) H else aN g λo=>oL H (o.add 5) λG E _=>Bd 0 E/\aN G λp=>oL H (p.add (toNat 0*1)) λL K I=>aN g λq=>oL H (q.add 5) λM m l=>((0:Int)<=1/\1<=(m:Int))/\Cl 189 #[.L (cY M l (toNat 1) 1) (m - (toNat 1)) (l - (toNat 1))] H λV w=>Vl V λQ P O=>aN g λr=>aJ w (r.add 5) (.L Q P O) λx=>R (.T #[.L L K I,.I n,.I 0]) x) (λJ=>if(j==0)then aN g λu=> ∃B k z,aT i (u.add 5)=some (.L B k z)/\J ((k:Nat):Int) i else J 0 i)):Cl 156 #[.P t 0,.I num] h R:=aR [(9,.join [(9,.one (.int .i64))])] Tryz.func156 y
theorem iA.vX.walk{k:Nat}(z:Cl 86 #[.L S s a,.func (.func 112) #[] #[.P k 0]] h λd' n=> ∃g,d'=.I g/\if(g==(-1))then R (.L S s a) n else∃(I:Int->Int->ai->Prop)(M:Int->Int->ai->Nat),I g (wrap .i64 (g+1)) n/\∀(i:Int)(j:Int)(H:ai),I i j H->if(decide (j<(s:Int)))then aG (λ(q:Int) (o:ai)=>(I q (wrap .i64 (j+1)) o/\M q (wrap .i64 (j+1)) o<M i j H)) (λJ=>Bd j s/\aN S λr=>cp.LD H (r.add (toNat j*2)) λG O L K=>bg H (.C #[.U 0,.Z] 135) λB v=>cp.ST v (AA B 0) G O L K λp=>cp.LD p (AA B 0) λP V U Q=>Cl 112 #[.agg #[.U P,.L V U Q],.P k 0] p λe' l=>Vb e' λX=>aG (λ(E:Int) (w:ai)=>J E w) (λm=>if(!X)then cp.LD l (AA B 0) λZ c' b' a'=>Bd i s/\aN S λu=>cp.ST l (u.add (toNat i*2)) Z c' b' a' λx=>m (wrap .i64 (i+1)) x else m i l))else((0:Int)<=i/\i<=(s:Int))/\ba Tryz.prog (Builtin.clear_ #[102] 0 #[.L (cY S a (toNat i) 2) (s - (toNat i)) (a - (toNat i))]) H λf' y=>f'=.T #[]/\((0:Int)<=i/\i<=(a:Int))/\R (.L (cY S a 0 2) ((toNat i) - 0) (a - 0)) y):Cl 111 #[.L S s a,.func (.func 112) #[] #[.P k 0]] h R:=aR [(16,.loop [(5,.one (.int .i64)),(6,.one (.int .i64))]),(24,.join [(5,.one (.int .i64))]),(29,.join [(5,.one (.int .i64))])] Tryz.func111 z
theorem eY.vX.walk(l: ∃(I:Int->ai->Prop)(m:Int->ai->Nat),I 0 h/\∀(g:Int)(H:ai),I g H->if(decide (g<(s:Int)))then Bd g s/\aN S λk=>cp.LD H (k.add (toNat g*2)) λn q p o=>Cl 112 #[.agg #[.U n,.L q p o],.P F 0] H λv i=> ∃j,v=.B j/\if j then R (.I g) i else(I (wrap .i64 (g+1)) i/\m (wrap .i64 (g+1)) i<m g H)else R (.I (-1)) H):Cl 86 #[.L S s a,.func (.func 112) #[] #[.P F 0]] h R:=aR [(6,.loop [(8,.one (.int .i64))])] Tryz.func86 l
theorem eY.kept.walk(l: ∃(I:Int->ai->Prop)(m:Int->ai->Nat),I 0 h/\∀(g:Int)(H:ai),I g H->if(decide (g<(s:Int)))then Bd g s/\aN S λk=>cp.LD H (k.add (toNat g*2)) λn q p o=>Cl 87 #[.agg #[.U n,.L q p o],.P F 0] H λv i=> ∃j,v=.B j/\if j then R (.I g) i else(I (wrap .i64 (g+1)) i/\m (wrap .i64 (g+1)) i<m g H)else R (.I (-1)) H):Cl 86 #[.L S s a,.func (.func 87) #[] #[.P F 0]] h R:=aR [(6,.loop [(8,.one (.int .i64))])] Tryz.func86 l
theorem iZ.walk(l:if S.isNone then R (.Z) h else bg h (.C #[] 135) λB H=>ba Tryz.prog (Builtin.append_ #[102,102] 102 #[.L (Sa B 0) 0 0,.L S s a]) H λv k=> ∃j i g,v=.L j i g/\R (.L j i g) k):Cl 113 #[.L S s a] h R:=aR [] Tryz.func113 l
theorem mC.walk(l:if S.isNone then R (.Z) h else bg h (.C #[] 33) λB H=>ba Tryz.prog (Builtin.append_ #[103,103] 103 #[.L (Sa B 0) 0 0,.L S s a]) H λv k=> ∃j i g,v=.L j i g/\R (.L j i g) k):Cl 189 #[.L S s a] h R:=aR [] Tryz.func189 l

end
section
open Go.fW
namespace fu
open mg
variable {h H d:ai} {t:Nat} {X:Ft} {R:fM} {p q:ct} {c i:Nat}
structure AV where
 id:Nat
 v:BV
abbrev AV.enc(a:AV):List Value:= [.int .u64 (a.id:Int),a.v.val]
structure SC where
 b:Nat
 num:Nat
 token:Nat
 up:Bool
 watch:Bool
 kept:List AV
 kp:ct
 kc:Nat
 notes:List BV
 np:ct
 nc:Nat
structure fu where
 num:Nat
 token:Nat
 up:Bool
 watch:Bool
 kept:List (Nat×cG)
 notes:List (cG)
def AV.abs(a:AV):Nat×cG:=(a.id,a.v.b)
def SC.abs(s:SC):fu:=⟨s.num,s.token,s.up,s.watch,s.kept.map AV.abs,s.notes.map BV.b⟩
theorem vY{b:Type}{a:List b}{i:Nat}{v:b}(h:a[i]? =some v):a.set i v=a:=by
 apply fz
 intro j;rw[dG];split
 .rename_i e;subst e;rw[af (ay.1 h).1,h]
 .rfl
abbrev QP:=Nat->Option Nat
abbrev At(h:ai)(s:SC):Prop:=cI.at h s.b (s.num:Int) (s.token:Int) s.up s.watch s.kp s.kept.length s.kc s.np s.notes.length s.nc
structure A8 (h:ai) (l:QP) (D:Nat->Prop) (i:Nat) (s:SC):Prop where
 dh:At h s
 lb:l s.b=some (2+3*i)
 xw:Own h s.kp s.kept.length s.kc 2 (s.kept.flatMap AV.enc)
 kl: ∀c,aO s.kp c->l c=some (3+3*i)
 Co:Own h s.np s.notes.length s.nc 1 (s.notes.flatMap mB)
 nl: ∀c,aO s.np c->l c=some (4+3*i)
 kd: ∀a∈s.kept,a.v.ok h D
 nd: ∀n∈s.notes,n.ok h D
structure EJ (h:ai) (t:Nat) (l:QP) (D:Nat->Prop) (L:List SC):Prop where
 dh: ∃p c,h[t]? =some (.cells #[.bool true,.slice p L.length c] 90 (0,0))/\Own h p L.length c 1 (L.map λs=> .pointer (some ⟨s.b,0,none⟩))/\∀x,aO p x->l x=some 1
 OZ:l t=some 0
 ses: ∀i s,L[i]? =some s->A8 h l D i s
 O0: ∀c r,l c=some r->c<h.size
 GZ: ∀c,D c->c<h.size
 ap: ∀c r,l c=some r->¬D c
def tB(h:ai)(t:Nat)(X:Ft)(A:List fu)(B:List Nat):Prop:=
 ∃l L,EJ h t l X.D L/\L.map SC.abs=A/\L.map SC.b=B/\∀c,X.M c↔ ∃r,l c=some r
def Has(h:ai)(t:Nat)(X:Ft)(A:List fu):Prop:= ∃B,tB h t X A B
variable {l : QP} {D : Nat → Prop} {L : List SC} {A : List fu}
theorem A8.frame{Q:Nat->Prop}{s:SC}(b:A8 h l D i s)(f:Fr Q h H)(g: ∀c r,l c=some r->2+3*i<=r->r<=4+3*i->¬Q c)(j: ∀c,D c->¬Q c):A8 H l D i s:=
 ⟨f.get b.dh (g _ _ b.lb ag ag),b.lb,b.xw.frame f (λc e=>g c _ (b.kl c e) ag ag),b.kl,b.Co.frame f (λc e=>g c _ (b.nl c e) ag ag),b.nl,λa k=>(b.kd a k).frame f j,λn m=>(b.nd n m).frame f j⟩
theorem A8.mono{j:QP}{D':Nat->Prop}{s:SC}(b:A8 h l D i s)(f: ∀c r,l c=some r->j c=some r)(g: ∀c,D c->D' c):A8 h j D' i s:=
 ⟨b.dh,f _ _ b.lb,b.xw,λc e=>f c _ (b.kl c e),b.Co,λc e=>f c _ (b.nl c e),λa k=>(b.kd a k).mono g,λn m=>(b.nd n m).mono g⟩
theorem tB.lt{B:List Nat}(a:tB h t X A B): ∀x,X.M x\/X.D x->x<h.size:=by
 obtain⟨l,L,T,_,_,b⟩:=a;rintro x (f|hd)
 .obtain⟨r,e⟩:=(b x).1 f;exact T.O0 x r e
 .exact T.GZ x hd
theorem tB.vw{B:List Nat}(a:tB h t X A B): ∀x,X.M x->¬X.D x:=by
 obtain⟨l,L,T,_,_,b⟩:=a;intro x f;obtain⟨r,e⟩:=(b x).1 f;exact T.ap x r e
theorem tB.frame{B:List Nat}{Q:Nat->Prop}(n:tB h t X A B)(f:Fr Q h H)(m: ∀x,X.M x\/X.D x->¬Q x):tB H t X A B:=by
 obtain⟨l,L,T,e,E,j⟩:=n;obtain⟨p,c,o,O,k⟩:=T.dh;have g: ∀c r,l c=some r->¬Q c:=λc r a=>m c (.inl ((j c).2 ⟨r,a⟩))
 refine⟨l,L,⟨⟨p,c,f.get o (g t _ T.OZ),O.frame f (λx v=>g x _ (k x v)),k⟩,T.OZ,λi s u=>(T.ses i s u).frame f (λc r a _ _=>g c r a) (λc b=>m c (.inr b)),?_,?_,T.ap⟩,e,E,j⟩
 .intro c r a;exact cK (T.O0 c r a) f.1
 .intro c b;exact cK (T.GZ c b) f.1
theorem Has.lt(a:Has h t X A): ∀x,X.M x\/X.D x->x<h.size:=by obtain⟨B,a⟩:=a;exact a.lt
theorem Has.vw(a:Has h t X A): ∀x,X.M x->¬X.D x:=by obtain⟨B,a⟩:=a;exact a.vw
theorem Has.frame{Q:Nat->Prop}(a:Has h t X A)(f:Fr Q h H)(b: ∀x,X.M x\/X.D x->¬Q x):Has H t X A:=by obtain⟨B,a⟩:=a;exact⟨B,a.frame f b⟩
open Classical in
theorem EJ.TX{s s':SC}{Q E:Nat->Prop}(T:EJ h t l X.D L)(C: ∀c,X.M c↔ ∃r,l c=some r)(y:L[i]? =some s)(B:s'.b=s.b)(f:Fr Q h H)(u: ∀c,Q c->∃r,l c=some r/\2+3*i<=r/\r<=4+3*i)(dh:At H s')(K:Own H s'.kp s'.kept.length s'.kc 2 (s'.kept.flatMap AV.enc))(kn: ∀c,aO s'.kp c->l c=some (3+3*i)\/h.size<=c)(I:Own H s'.np s'.notes.length s'.nc 1 (s'.notes.flatMap mB))(nn: ∀c,aO s'.np c->l c=some (4+3*i)\/h.size<=c)(a': ∀c,aO s'.kp c->aO s'.np c->False)(w: ∀c,E c->l c=none/\c<H.size/\¬aO s'.kp c/\¬aO s'.np c)(Z: ∀a∈s'.kept,a.v.ok H (λc=>X.D c\/E c))(nd: ∀b'∈s'.notes,b'.ok H (λc=>X.D c\/E c)):
  ∃v,tB H t v ((L.map SC.abs).set i s'.abs) (L.map SC.b)/\Fr X.M h H/\(∀c,v.M c->X.M c\/h.size<=c)/\(∀c,v.D c->X.D c\/E c)/\∀c,X.D c->v.D c:=by
 let z:QP:=λc=>if h.size<=c/\aO s'.kp c then some (3+3*i)else if h.size<=c/\aO s'.np c then some (4+3*i)else l c
 have O: ∀c r,l c=some r->z c=some r:=λc r b=>by
  have:=T.O0 c r b;show(if h.size<=c/\aO s'.kp c then some (3+3*i)else if h.size<=c/\aO s'.np c then some (4+3*i)else l c)=some r;rw[ae (λm=>ag),ae (λm=>ag)];exact b
 have new: ∀c r,z c=some r->l c=some r\/(h.size<=c/\(aO s'.kp c\/aO s'.np c)):=λc r b=>by
  have b:(if h.size<=c/\aO s'.kp c then some (3+3*i)else if h.size<=c/\aO s'.np c then some (4+3*i)else l c)=some r:=b;split at b
  .rename_i m;exact .inr ⟨m.1,.inl m.2⟩
  .split at b
   .rename_i m;exact .inr ⟨m.1,.inr m.2⟩
   .exact .inl b
 have nb: ∀c,aO s'.kp c\/aO s'.np c->c<H.size:=λc k=>k.elim (λk=>K.dL k) (λk=>I.dL k)
 have S: ∀c,X.D c->¬Q c:=λc k n=>by obtain⟨r,b,_⟩:=u c n;exact T.ap c r b k
 obtain⟨p,M,P,e',F⟩:=T.dh;have U:i<L.length:=(ay.1 y).1;have c': ¬Q t:=λn=>by obtain⟨r,b,h1,g⟩:=u t n;rw[T.OZ]at b;cases b;omega
 have d': ∀x,aO p x->¬Q x:=λx n V=>by obtain⟨r,b,h1,g⟩:=u x V;rw[F x n]at b;cases b;omega
 have f':(L.set i s').map (λs=>Value.P s.b 0)=L.map (λs=>Value.P s.b 0):=by
  rw[List.map_set,B];exact vY (by rw[aL,y];rfl)
 have J:(L.set i s').map SC.b=L.map SC.b:=by
  rw[List.map_set,B];exact vY (by rw[aL,y];rfl)
 refine⟨⟨λc=> ∃r,z c=some r,λc=>X.D c\/E c⟩,⟨z,L.set i s',⟨⟨p,M,?_,?_,λx n=>O x _ (F x n)⟩,O t 0 T.OZ,?_,?_,?_,?_⟩,?_,J,λc=>ff⟩,?_,?_,λc h=>h,λc=> .inl⟩
 .rw[dB];exact f.get P c'
 .rw[f',dB];exact e'.frame f d'
 .intro j sj o;rw[dG]at o;by_cases e:i=j
  .subst e;rw[af rfl,af U]at o;obtain rfl:=aZ o;refine⟨dh,?_,K,λc k=> ?_,I,λc k=> ?_,Z,nd⟩
   .rw[B];exact O _ _ (T.ses i s y).lb
   .show(if h.size<=c/\aO s'.kp c then some (3+3*i)else if h.size<=c/\aO s'.np c then some (4+3*i)else l c)=_;rcases kn c k with h1|h1
    .have:=T.O0 c _ h1;rw[ae (λm=>ag),ae (λm=>ag)];exact h1
    .rw[af ⟨h1,k⟩]
   .show(if h.size<=c/\aO s'.kp c then some (3+3*i)else if h.size<=c/\aO s'.np c then some (4+3*i)else l c)=_;rw[ae (λm=>a' c m.2 k)];rcases nn c k with h1|h1
    .have:=T.O0 c _ h1;rw[ae (λm=>ag)];exact h1
    .rw[af ⟨h1,k⟩]
  .rw[ae e]at o;refine((T.ses j sj o).frame f (λc r b h1 g n=> ?_) S).mono O (λc=> .inl);obtain⟨r',G,h3,h4⟩:=u c n;rw[b]at G;cases G;omega
 .intro c r b;rcases new c r b with h1|⟨_,h1⟩
  .exact cK (T.O0 c r h1) f.1
  .exact nb c h1
 .rintro c (h1|h1)
  .exact cK (T.GZ c h1) f.1
  .exact(w c h1).2.1
 .rintro c r b (h1|h1)
  .rcases new c r b with g|⟨g,_⟩
   .exact T.ap c r g h1
   .have:=T.GZ c h1;omega
  .rcases new c r b with g|⟨_,g⟩
   .rw[(w c h1).1]at g;cases g
   .exact g.elim (w c h1).2.2.1 (w c h1).2.2.2
 .rw[List.map_set]
 .exact f.mono (λc _ n=>by obtain⟨r,b,_⟩:=u c n;exact(C c).2 ⟨r,b⟩)
 .rintro c ⟨r,b⟩;rcases new c r b with g|⟨g,_⟩
  .exact .inl ((C c).2 ⟨r,g⟩)
  .exact .inr g
theorem EJ.QQ{s s':SC}{Q E:Nat->Prop}(T:EJ h t l X.D L)(k: ∀c,X.M c↔ ∃r,l c=some r)(v:L[i]? =some s)(m:s'.b=s.b)(f:Fr Q h H)(u: ∀c,Q c->∃r,l c=some r/\2+3*i<=r/\r<=4+3*i)(dh:At H s')(z:Own H s'.kp s'.kept.length s'.kc 2 (s'.kept.flatMap AV.enc))(w: ∀c,aO s'.kp c->l c=some (3+3*i)\/h.size<=c)(G:Own H s'.np s'.notes.length s'.nc 1 (s'.notes.flatMap mB))(C: ∀c,aO s'.np c->l c=some (4+3*i)\/h.size<=c)(y: ∀c,aO s'.kp c->aO s'.np c->False)(e: ∀c,E c->h.size<=c/\c<H.size/\¬aO s'.kp c/\¬aO s'.np c)(K: ∀a∈s'.kept,a.v.ok H (λc=>X.D c\/E c))(B: ∀n∈s'.notes,n.ok H (λc=>X.D c\/E c)):
  ∃x,tB H t x ((L.map SC.abs).set i s'.abs) (L.map SC.b)/\bw X h x H:=by
 obtain⟨x,g,F,M,j,O⟩:=T.TX (Q:=Q) (E:=E) k v m f u dh z w G C y (λc b=>⟨by
  cases o:l c with
  |none=>rfl
  |some r=>have:=T.O0 c r o;have:=(e c b).1;omega,(e c b).2⟩) K B
 exact⟨x,g,F,M,λc b=>(j c b).imp (λh=>h) (λh=>(e c h).1),O⟩
theorem EJ.flag{s s':SC}(T:EJ h t l X.D L)(z: ∀c,X.M c↔ ∃r,l c=some r)(v:L[i]? =some s)(C:s'.b=s.b)(o:s'.kept=s.kept/\s'.kp=s.kp/\s'.kc=s.kc)(k:s'.notes=s.notes/\s'.np=s.np/\s'.nc=s.nc)(dh:At H s')(F:H.size=h.size)(E: ∀x,x≠s.b->H[x]? =h[x]?): ∃u,tB H t u ((L.map SC.abs).set i s'.abs) (L.map SC.b)/\bw X h u H:=by
 have g:=T.ses i s v;have f:Fr (λx=>x=s.b) h H:=Fr.of_eq F E;have G: ∀c,aO s.kp c->¬c=s.b:=λc j e=>by have m:=g.kl c j;rw[e,g.lb]at m;simp at m
 have I: ∀c,aO s.np c->¬c=s.b:=λc j e=>by have m:=g.nl c j;rw[e,g.lb]at m;simp at m
 have w: ∀c,X.D c->¬c=s.b:=λc j e=>T.ap c _ (e▸g.lb) j
 refine T.QQ (Q:=λx=>x=s.b) (E:=λ_=>False) z v C f (λc e=>⟨_,e▸g.lb,ag,ag⟩) dh ?_ ?_ ?_ ?_ ?_ (λc j=>j.elim) ?_ ?_
 .rw[o.1,o.2.1,o.2.2];exact g.xw.frame f G
 .rw[o.2.1];exact λc j=> .inl (g.kl c j)
 .rw[k.1,k.2.1,k.2.2];exact g.Co.frame f I
 .rw[k.2.1];exact λc j=> .inl (g.nl c j)
 .rw[o.2.1,k.2.1];exact λc m y=>by have a:=g.kl c m;have b:=g.nl c y;rw[a]at b;simp at b
 .rw[o.1];exact λa B=>((g.kd a B).frame f w).mono (λc=> .inl)
 .rw[k.1];exact λn k=>((g.nd n k).frame f w).mono (λc=> .inl)
open Classical in
theorem EJ.add{s:SC}{p:ct}{c0:Nat}{Q:Nat->Prop}(T:EJ h t l X.D L)(B: ∀c,X.M c↔ ∃r,l c=some r)(f:Fr Q h H)(y: ∀c,Q c->l c=some 0\/l c=some 1)(G:H[t]? =some (.C #[.B true,.L p (L.length+1) c0] 90 (0,0)))(E:Own H p (L.length+1) c0 1 (L.map (λs=> .P s.b 0)++ [.P s.b 0]))(J: ∀x,aO p x->l x=some 1\/h.size<=x)(K: ¬aO p s.b)(dh:At H s)(M:h.size<=s.b)(o:s.kept= []/\s.kp=none/\s.kc=0)(u:s.notes= []/\s.np=none/\s.nc=0):
  ∃z,tB H t z (L.map SC.abs++ [s.abs]) (L.map SC.b++ [s.b])/\bw X h z H:=by
 have P:=aD dh
 let v:QP:=λc=>if c=s.b then some (2+3*L.length)else if h.size<=c/\aO p c then some 1 else l c
 have O: ∀c r,l c=some r->v c=some r:=λc r b=>by
  have:=T.O0 c r b;show(if c=s.b then some (2+3*L.length)else if h.size<=c/\aO p c then some 1 else l c)=some r;rw[ae (λm=>ag),ae (λm=>ag)];exact b
 have new: ∀c r,v c=some r->l c=some r\/(h.size<=c/\(c=s.b\/aO p c)):=λc r b=>by
  have b:(if c=s.b then some (2+3*L.length)else if h.size<=c/\aO p c then some 1 else l c)=some r:=b;split at b
  .rename_i m;exact .inr ⟨ag,.inl m⟩
  .split at b
   .rename_i m;exact .inr ⟨m.1,.inr m.2⟩
   .exact .inl b
 have I: ∀c,X.D c->¬Q c:=λc C g=>(y c g).elim (λh1=>T.ap c _ h1 C) (λh1=>T.ap c _ h1 C)
 refine⟨⟨λc=> ∃r,v c=some r,X.D⟩,⟨v,L++ [s],⟨⟨p,c0,?_,?_,?_⟩,O t 0 T.OZ,?_,?_,?_,?_⟩,?_,by rw[aY];rfl,λc=>ff⟩,?_,?_,λc=> .inl,λc=>id⟩
 .rw[aA];exact G
 .rw[aA,aY];exact E
 .intro x g;show(if x=s.b then some (2+3*L.length)else if h.size<=x/\aO p x then some 1 else l x)=some 1;rw[ae (λe:x=s.b=>K (e▸g))];rcases J x g with h1|h1
  .have:=T.O0 x _ h1;rw[ae (λm=>ag)];exact h1
  .rw[af ⟨h1,g⟩]
 .intro j S n;by_cases e:j<L.length
  .rw[cO e]at n;refine((T.ses j S n).frame f (λc r b h1 k g=> ?_) I).mono O (λc h=>h);rcases y c g with h3|h3
   .rw[b]at h3;cases h3;omega
   .rw[b]at h3;cases h3;omega
  .rw[cH ag]at n;have F:j=L.length:=by
    have:=(ay.1 n).1;simp at this;omega
   subst F;simp at n;subst n;refine⟨dh,?_,?_,?_,?_,?_,?_,?_⟩
   .show(if s.b=s.b then some (2+3*L.length)else _)=_;rw[af rfl]
   .rw[o.1,o.2.1,o.2.2];exact .nil rfl rfl rfl rfl
   .rw[o.2.1];rintro c ⟨a,e,_⟩;cases e
   .rw[u.1,u.2.1,u.2.2];exact .nil rfl rfl rfl rfl
   .rw[u.2.1];rintro c ⟨a,e,_⟩;cases e
   .rw[o.1];intro a w;cases w
   .rw[u.1];intro a w;cases w
 .intro c r b;rcases new c r b with h1|⟨_,h1|h1⟩
  .exact cK (T.O0 c r h1) f.1
  .omega
  .exact E.dL h1
 .intro c h1;exact cK (T.GZ c h1) f.1
 .intro c r b h1;rcases new c r b with k|⟨k,_⟩
  .exact T.ap c r k h1
  .have:=T.GZ c h1;omega
 .rw[aY];rfl
 .exact f.mono (λc _ g=>(B c).2 ((y c g).elim (λh1=>⟨_,h1⟩) (λh1=>⟨_,h1⟩)))
 .rintro c ⟨r,b⟩;rcases new c r b with k|⟨k,_⟩
  .exact .inl ((B c).2 ⟨r,k⟩)
  .exact .inr k
theorem tA:oC Tryz.prog 102 135 2 32 (.agg #[.U 0,.Z]):=⟨dA,dA,rfl⟩
theorem uA:Tryz.prog.underlying 102=some (.slice 135):=dA
theorem hZ(a:AV):a.enc.length=2:=rfl
theorem O1(x:List AV): ∀v∈x.flatMap AV.enc,fV v=true:=by
 intro v e;obtain⟨a,_,b⟩:=List.mem_flatMap.1 e;simp at b;rcases b with rfl|rfl<;>rfl
theorem Mc{j:List AV}{n m:Nat}(k:Row h p (j.flatMap AV.enc))(s:n=j.length)(u:j.length<=1000000000)(r: ∀P C H,Own H P j.length C 2 (j.flatMap AV.enc)->Fr No h H->(∀x,aO P x->h.size<=x)->R (.L P j.length C) H):
  Cl 113 #[.L p n m] h R:=by
 subst s;refine iZ.walk ?_;cases p with
 |none=>
  have:j= []:=by
   rcases k with k|⟨a,e,_⟩
   .cases j with
    |nil=>rfl
    |cons b B=>cases k
   .cases e
  subst this;exact r none 0 h (.nil rfl rfl rfl rfl) (Fr.refl _ _) (λx ⟨a,e,_⟩=>by cases e)
 |some a=>
  simp only[hN,ar,aP];exact wQ tA uA k (dY AV.enc 2 hZ j) (O1 j) ag ag λP C H o f g=>⟨_,_,_,rfl,r P C H o f g⟩
theorem Di{xs:List BV}{n m:Nat}(j:Row h p (xs.flatMap mB))(r:n=xs.length)(s:xs.length<=1000000000)(k: ∀P C H,Own H P xs.length C 1 (xs.flatMap mB)->Fr No h H->(∀x,aO P x->h.size<=x)->R (.L P xs.length C) H):
  Cl 189 #[.L p n m] h R:=by
 subst r;refine mC.walk ?_;cases p with
 |none=>
  have:xs= []:=by
   rcases j with j|⟨a,e,_⟩
   .cases xs with
    |nil=>rfl
    |cons b B=>cases j
   .cases e
  subst this;exact k none 0 h (.nil rfl rfl rfl rfl) (Fr.refl _ _) (λx ⟨a,e,_⟩=>by cases e)
 |some a=>
  simp only[hN,ar,aP];exact wQ tN uN j (dY mB 1 nC xs) (OO xs) ag ag λP C H o f g=>⟨_,_,_,rfl,k P C H o f g⟩
abbrev rX(h:ai)(b:Nat)(id:Nat):Prop:=h[b]? =some (.cells #[.int .u64 (id:Int)] 27 (0,0))
def yQ(x:List AV)(id:Nat):Int:=match x.findIdx? (λa=>decide (a.id=id))with|some k=>(k:Int)|none=> -1
theorem G0{b id:Nat}(a:AV)(hid:rX h b id)(k: hM h R (.B (decide (a.id=id)))):Cl 112 #[.agg #[.U (a.id:Int),a.v.val],.P b 0] h R:=by
 refine qN.walk (cp.box λB g E j f=>⟨_,au j,_,au (f.get hid (λx=>x)),?_⟩);have e:((a.id:Int)==(id:Int))=decide (a.id=id):=by
  by_cases q:a.id=id
  .simp[q]
  .have: ¬(a.id:Int)=(id:Int):=ag
   simp[q,this]
 rw[e];exact k g f
theorem I9{f:List AV}{n m b id:Nat}(G:Row h p (f.flatMap AV.enc))(E:n=f.length)(M:f.length<=1000000000)(hid:rX h b id)(o: hM h R (.I (yQ f id))):
  Cl 86 #[.L p n m,.func (.func 112) #[] #[.P b 0]] h R:=by
 subst E;refine eY.vX.walk ?_;refine⟨λi H=>Fr No h H/\∃k:Nat,i=(k:Int)/\k<=f.length/\∀j (g:j<f.length),j<k->f[j].id≠id,λi _=>f.length - i.toNat,⟨Fr.refl _ _,0,rfl,ag,λj _ g=>ag⟩,?_⟩;rintro _ u ⟨F,k,rfl,K,r⟩;have y:=G.frame F (λ_ _ x=>x);have C:rX u b id:=F.get hid (λx=>x);by_cases w:k<f.length
 .have Q:(k:Int)<(f.length:Int):=ag
  simp only[Q,bG,bm,aH];have I:f[k]? =some f[k]:=aj w;obtain⟨a,rfl⟩:=y.some (λe=>by have:=cf List.length e;rw[dY AV.enc 2 hZ,bE]at this;omega);refine⟨⟨ag,by first|trivial|omega⟩,aw.2 (cp.D5 (y.gx hZ I) ?_)⟩;refine G0 f[k] C λz s=>⟨_,rfl,?_⟩
  by_cases e:f[k].id=id
  .simp only[e,bG,bm];have:yQ f id=(k:Int):=by
    unfold yQ;have:f.findIdx? (λa=>decide (a.id=id))=some k:=by
     rw[cj];exact⟨w,cQ e,λj g=>by simpa using r j ag g⟩
    rw[this]
   rw[this]at o;exact o z (F.tt s)
  .simp only[e,bt,ar,aP];rw[bJ ag ag];refine⟨⟨F.tt s,k+1,ag,ag,λj g J=> ?_⟩,?_⟩
   .by_cases q:j=k
    .subst q;exact e
    .exact r j g ag
   .show f.length - Int.toNat ((k:Int)+1)<f.length - Int.toNat (k:Int);omega
 .have Q: ¬(k:Int)<(f.length:Int):=ag
  simp only[Q,bt,ar,aP];have:yQ f id= -1:=by
   unfold yQ;have:f.findIdx? (λa=>decide (a.id=id))=none:=by
    rw[df];intro a B;obtain⟨j,g⟩:=bK B;have v:=(ay.1 g).1;rw[aj v]at g;obtain rfl:=aZ g;simpa using r j v ag
   rw[this]
  rw[this]at o;exact o u F
theorem O4{b id:Nat}(a:AV)(hid:rX h b id)(k: hM h R (.B (decide (a.id=id)))):Cl 87 #[.agg #[.U (a.id:Int),a.v.val],.P b 0] h R:=by
 refine qO.walk (cp.box λB g E j f=>⟨_,au j,_,au (f.get hid (λx=>x)),?_⟩);have e:((a.id:Int)==(id:Int))=decide (a.id=id):=by
  by_cases q:a.id=id
  .simp[q]
  .have: ¬(a.id:Int)=(id:Int):=ag
   simp[q,this]
 rw[e];exact k g f
theorem Ja{f:List AV}{n m b id:Nat}(G:Row h p (f.flatMap AV.enc))(E:n=f.length)(M:f.length<=1000000000)(hid:rX h b id)(o: hM h R (.I (yQ f id))):
  Cl 86 #[.L p n m,.func (.func 87) #[] #[.P b 0]] h R:=by
 subst E;refine eY.kept.walk ?_;refine⟨λi H=>Fr No h H/\∃k:Nat,i=(k:Int)/\k<=f.length/\∀j (g:j<f.length),j<k->f[j].id≠id,λi _=>f.length - i.toNat,⟨Fr.refl _ _,0,rfl,ag,λj _ g=>ag⟩,?_⟩;rintro _ u ⟨F,k,rfl,K,r⟩;have y:=G.frame F (λ_ _ x=>x);have C:rX u b id:=F.get hid (λx=>x);by_cases w:k<f.length
 .have Q:(k:Int)<(f.length:Int):=ag
  simp only[Q,bG,bm,aH];have I:f[k]? =some f[k]:=aj w;obtain⟨a,rfl⟩:=y.some (λe=>by have:=cf List.length e;rw[dY AV.enc 2 hZ,bE]at this;omega);refine⟨⟨ag,by first|trivial|omega⟩,aw.2 (cp.D5 (y.gx hZ I) ?_)⟩;refine O4 f[k] C λz s=>⟨_,rfl,?_⟩
  by_cases e:f[k].id=id
  .simp only[e,bG,bm];have:yQ f id=(k:Int):=by
    unfold yQ;have:f.findIdx? (λa=>decide (a.id=id))=some k:=by
     rw[cj];exact⟨w,cQ e,λj g=>by simpa using r j ag g⟩
    rw[this]
   rw[this]at o;exact o z (F.tt s)
  .simp only[e,bt,ar,aP];rw[bJ ag ag];refine⟨⟨F.tt s,k+1,ag,ag,λj g J=> ?_⟩,?_⟩
   .by_cases q:j=k
    .subst q;exact e
    .exact r j g ag
   .show f.length - Int.toNat ((k:Int)+1)<f.length - Int.toNat (k:Int);omega
 .have Q: ¬(k:Int)<(f.length:Int):=ag
  simp only[Q,bt,ar,aP];have:yQ f id= -1:=by
   unfold yQ;have:f.findIdx? (λa=>decide (a.id=id))=none:=by
    rw[df];intro a B;obtain⟨j,g⟩:=bK B;have v:=(ay.1 g).1;rw[aj v]at g;obtain rfl:=aZ g;simpa using r j v ag
   rw[this]
  rw[this]at o;exact o u F
def qL(d:ai)(p:ct)(cap b id:Nat)(e:List AV)(i j:Int)(h:ai):Prop:=
 ∃(a k:Nat)(z:List AV),i=(a:Int)/\j=(k:Int)/\a<k/\k<=e.length/\z.length=e.length/\z.take a=(e.take k).filter (λx=>decide (x.id≠id))/\z.drop k=e.drop k/\Own h p e.length cap 2 (z.flatMap AV.enc)/\Fr (aO p) d h/\rX h b id
theorem Jb{f:List AV}{cap b id k':Nat}(O:Own h p f.length cap 2 (f.flatMap AV.enc))(hn:k'=f.length)(hl:f.length<=1000000000)(hid:rX h b id)(hb: ¬aO p b)(n: ∀H,Own H p (f.filter (λx=>decide (x.id≠id))).length cap 2 ((f.filter (λx=>decide (x.id≠id))).flatMap AV.enc)->Fr (aO p) h H->rX H b id->R (.slice p (f.filter (λx=>decide (x.id≠id))).length cap) H):
  Cl 111 #[.L p k' cap,.func (.func 112) #[] #[.P b 0]] h R:=by
 subst hn;refine iA.vX.walk (I9 O.iF rfl hl hid λu F=>⟨_,rfl,?_⟩);have I:=O.frame F (λ_ _ x=>x);have y:rX u b id:=F.get hid (λx=>x);have r:Fr (aO p) h u:=F.mono (λ_ _=>False.elim);unfold yQ;cases w:f.findIdx? (λa=>decide (a.id=id))with
 |none=>
  rw[af (by rfl)];have r':f.filter (λx=>decide (x.id≠id))=f:=by
   rw[cz];intro a v;have:=df.1 w a v;simpa using this
  rw[r']at n;exact n u I r y
 |some k=>
  dsimp only;rw[ae (by simp only[dc];omega)];obtain⟨g',C,f'⟩:=cj.1 w;rw[bJ ag ag];have h':(f.take (k+1)).filter (λx=>decide (x.id≠id))=f.take k:=by
   rw[bN,aj g',gh];have e1:(f.take k).filter (λx=>decide (x.id≠id))=f.take k:=by
    rw[cz];intro a v;obtain⟨j,g⟩:=bK v;rw[da]at g;split at g
    .rename_i t';have B:j<f.length:=ag
     rw[aj B]at g;obtain rfl:=aZ g;simpa using f' j t'
    .cases g
   have e2: [f[k]].filter (λx=>decide (x.id≠id))= []:=by
    simp at C;simp[C]
   rw[e1];show f.take k++ [f[k]].filter (λx=>decide (x.id≠id))=_;rw[e2,gC]
  refine⟨qL h p cap b id f,λ_ j _=>f.length - j.toNat,⟨k,k+1,f,rfl,ag,ag,ag,rfl,h'.symm,rfl,I,r,y⟩,?_⟩;clear I y r F h' f' C g' w;rintro _ _ h2 ⟨a,j,z,rfl,rfl,B',C',j',m,G,o,J,c'⟩;by_cases B:j<f.length
  .have Q:(j:Int)<(f.length:Int):=ag
   simp only[Q,bG,bm,aH];have i':f[j]? =some f[j]:=aj B;have v':z[j]? =some f[j]:=by
    have:=cf (·[0]?) G;simpa[i']using this
   have E:(f.take (j+1)).filter (λx=>decide (x.id≠id))=(f.take j).filter (λx=>decide (x.id≠id))++if f[j].id=id then []else [f[j]]:=by
    rw[bN,i',gh];congr 1
    by_cases e:f[j].id=id<;>simp[e]
   generalize f[j]=x at*;obtain⟨ab,o',rfl⟩:=o.addr ag;refine aG.of λz' V=>⟨⟨ag,by first|trivial|omega⟩,aw.2 (cp.D5 (o.gx hZ v') (cp.new λb6 h6 A' a' T=>cp.ld a' ?_))⟩
   have d':rX h6 b id:=T.get c' (λx=>x);refine G0 x d' λU s=>⟨_,rfl,?_⟩
   have P:=T.tt s;have n':=o.frame P (λ_ _ x=>x);have e':rX U b id:=s.get d' (λx=>x);have K:=J.on P;refine aG.of λJ1 q'=> ?_
   subst q';by_cases e:x.id=id
   .simp only[e,bG,cX,ar,aP];subst V;rw[bJ ag ag];rw[af e,gC]at E;refine⟨⟨a,j+1,z,rfl,ag,ag,ag,j',by rw[E];exact m,?_,n',K,e'⟩,?_⟩
    .have:=cf (List.drop 1) G;rw[List.drop_drop,List.drop_drop]at this;exact this
    .show f.length - Int.toNat ((j:Int)+1)<f.length - Int.toNat (j:Int);omega
   .simp only[e,bt,ee,bm];have s':=s.get a' (λx=>x);rw[ae e]at E;refine cp.ld s' ⟨⟨ag,by first|trivial|omega⟩,aw.2 ?_⟩;have Z:a<z.length:=ag
    have b':=dY AV.enc 2 hZ z;refine n'.store (by rw[b'];omega) λh9 x' s9 o9=> ?_
    rw[add_add];refine x'.store (by rw[dB,b'];omega) λp' l' y' w'=> ?_
    rw[K1 hZ Z rfl]at l';subst V;rw[bJ ag ag,bJ ag ag];have M:Fr (aO (Sa ab o')) U p':=(Fr.of_eq s9 o9).tt (Fr.of_eq y' w');refine⟨⟨a+1,j+1,z.set a x,ag,ag,ag,ag,by rw[dB];exact j',?_,?_,l',K.tt M,M.get e' hb⟩,?_⟩
    .rw[E,<-m,bN,dG,af rfl,af Z,List.take_set_of_le (bu a)];rfl
    .rw[List.drop_set_of_lt ag];have:=cf (List.drop 1) G;rw[List.drop_drop,List.drop_drop]at this;exact this
    .show f.length - Int.toNat ((j:Int)+1)<f.length - Int.toNat (j:Int);omega
  .have Q: ¬(j:Int)<(f.length:Int):=ag
   simp only[Q,bt,ar,aP];obtain rfl:j=f.length:=ag
   rw[fO]at m;have u':(f.filter (λx=>decide (x.id≠id))).length=a:=by rw[<-m,bA];omega
   refine⟨ag,?_⟩;simp only[aH];refine CP tA (by intro D' hv;simp[Value.cells]at hv;rcases hv with rfl|rfl<;>rfl) o ag λh3 m' S=>⟨rfl,⟨ag,bW O.le⟩,?_⟩
   rw[mW AV.enc 2 hZ,m]at m';rw[kI,Nat.sub_zero,Nat.sub_zero];rw[u']at n;exact n h3 m' (J.tt S) (S.get c' hb)
end fu
end
section
namespace fu
variable {A:List fu} {num:Int} {s S:fu} {i:Nat} {d:cG}
structure sw (i:Nat) (s:fu):Prop where
 num:s.num=i+1
 tk:1<=s.token/\s.token<=2147483648
 kl:s.kept.length<=6
 nl:s.notes.length<=6
 kd: ∀a∈s.kept,a.1<=1099511627776/\a.2.length<=1000
 nd: ∀n∈s.notes,1<=n.length/\n.length<=600
 ki:(s.kept.map (·.1)).Nodup
structure mQ (A:List fu):Prop where
 le:A.length<=8
 at_: ∀i s,A[i]? =some s->sw i s
 tk:(A.map (·.token)).Nodup
def nW(A:List fu)(num:Int):Option fu:=if 1<=num then A[(num - 1).toNat]? else none
theorem Dj(h:nW A num=some s): ∃i:Nat,num=(i:Int)+1/\A[i]? =some s:=by
 unfold nW at h;split at h
 .exact⟨(num - 1).toNat,ag,h⟩
 .cases h
theorem qb :nW A ((i:Int)+1)=A[i]? :=by
 unfold nW;rw[ga,show((i:Int)+1 - 1).toNat=i by omega]
theorem lO(h:num<1\/num>(A.length:Int)):nW A num=none:=by
 unfold nW;split
 .rw[cU ag]
 .rfl
def lP(A:List fu)(num:Int)(s:fu):List fu:=A.set (num - 1).toNat s
def SF(A:List fu)(num:Int):Bool:=match nW A num with|some s=>s.up|none=>false
def G1(A:List fu)(t:Nat):Bool:=A.any λs=>decide (s.token=t)
def pk(A:List fu)(t:Nat):Int:=if t<1\/t>2147483648 then 1 else if G1 A t=true then 12 else if A.length≥8 then 5 else 0
def G2(A:List fu)(t:Nat):Int:=if pk A t=0 then(A.length:Int)+1 else 0
def vZ(A:List fu)(t:Nat):List fu:=if pk A t=0 then A++ [⟨A.length+1,t,true,false, [], []⟩]else A
def SG(A:List fu)(t:Nat):Int:=match A.findIdx? (λs=>decide (s.token=t))with|none=>12|some i=>match A[i]? with|some s=>if s.up=true then 7 else 0|none=>12
def O5(A:List fu)(t:Nat):Int:=match A.findIdx? (λs=>decide (s.token=t))with|none=>0|some i=>match A[i]? with|some s=>if s.up=true then 0 else(s.num:Int)|none=>0
def Md(A:List fu)(t:Nat):List fu:=match A.findIdx? (λs=>decide (s.token=t))with|none=>A|some i=>match A[i]? with|some s=>if s.up=true then A else A.set i { s with up:=true } |none=>A
def O6(A:List fu)(num:Int):Int:=match nW A num with|none=>4|some s=>if s.up=true then 0 else 7
def Dk(A:List fu)(num:Int):List fu:=match nW A num with|none=>A|some s=>if s.up=true then lP A num { s with up:=false } else A
def nH(A:List fu):List fu:=A.map λs=> { s with up:=false }
def yi(k:List (Nat×cG))(id:Nat)(d:cG):List (Nat×cG):=
 if(k.filter (λa=>decide (a.1≠id))++ [(id,d)]).length>6 then(k.filter (λa=>decide (a.1≠id))++ [(id,d)]).drop 1 else k.filter (λa=>decide (a.1≠id))++ [(id,d)]
def O7(A:List fu)(num:Int)(id:Nat)(d:cG):Int:=match nW A num with|none=>4|some _=>if id>1099511627776\/d.length>1000 then 1 else 0
def Ba(A:List fu)(num:Int)(id:Nat)(d:cG):List fu:=match nW A num with|none=>A|some s=>if id>1099511627776\/d.length>1000 then A else lP A num { s with kept:=yi s.kept id d }
def Kq(k:List (Nat×cG))(id:Nat):Option (cG):=(k.find? (λa=>decide (a.1=id))).map (·.2)
def Dm(A:List fu)(num:Int)(id:Nat):Option (cG):=match nW A num with|none=>none|some s=>Kq s.kept id
def xx(A:List fu)(num:Int):Int:=match nW A num with|none=>4|some _=>0
def kh(A:List fu)(num:Int)(o:Bool):List fu:=match nW A num with|none=>A|some s=>lP A num { s with watch:=o }
def sJ(d:cG):Bool:=decide (1<=d.length/\d.length<=600)
def Dn(A:List fu)(num:Int)(d:cG):Int:=match nW A num with|none=>4|some s=>if sJ d=true then(if s.watch=true then 0 else 7)else 1
def Dp(l:List (cG))(d:cG):List (cG):=if(l++ [d]).length>6 then(l++ [d]).drop 1 else l++ [d]
def Bb(A:List fu)(num:Int)(d:cG):List fu:=match nW A num with|none=>A|some s=>if sJ d=true/\s.watch=true then lP A num { s with notes:=Dp s.notes d } else A
def O8(A:List fu)(num:Int):Int:=match nW A num with|none=>4|some _=>0
def Kr(A:List fu)(num:Int):Int:=match nW A num with|none=>0|some s=>(s.notes.length:Int)
def Dq(A:List fu)(num:Int):cG:=match nW A num with|none=> []|some s=>s.notes.headD []
def Dr(A:List fu)(num:Int):List fu:=match nW A num with|none=>A|some s=>lP A num { s with notes:=s.notes.drop 1 }
theorem mQ.set(o:mQ A)(H:A[i]? =some s)(c:S.token=s.token)(a:sw i S):mQ (A.set i S):=by
 have b:=(ay.1 H).1;refine⟨by rw[dB];exact o.le,λj u h=> ?_,?_⟩
 .rw[dG]at h;by_cases e:i=j
  .subst e;rw[af rfl,af b]at h;obtain rfl:=aZ h;exact a
  .rw[ae e]at h;exact o.at_ j u h
 .rw[List.map_set,c,vY (by rw[aL,H];rfl)];exact o.tk
theorem mQ.lP(o:mQ A)(a:nW A num=some s)(b:S.token=s.token)(H: ∀i,sw i s->sw i S):mQ (lP A num S):=by
 obtain⟨i,rfl,h⟩:=Dj a;unfold fu.lP;rw[show((i:Int)+1 - 1).toNat=i by omega];exact o.set h b (H i (o.at_ i s h))
theorem mQ.open(o:mQ A)(t:Nat):mQ (vZ A t):=by
 unfold vZ;split
 .rename_i h;unfold pk at h;split at h
  .cases h
  rename_i l;split at h
  .cases h
  rename_i f;split at h
  .cases h
  rename_i m;refine⟨by rw[aA,dN];omega,λj u H=> ?_,?_⟩
  .by_cases e:j<A.length
   .rw[cO e]at H;exact o.at_ j u H
   .rw[cH ag]at H;have E:j=A.length:=by
     have:=(ay.1 H).1;simp at this;omega
    subst E;simp at H;subst H;exact⟨rfl,by show 1<=t/\t<=2147483648;omega,bU,bU,bU,bU,bU⟩
  .rw[aY,fi];refine⟨o.tk,bU,λa g b c e=> ?_⟩;simp at c;subst c;subst e;apply f
   unfold G1;rw[List.any_eq_true];obtain⟨s,k,e⟩:=bp.1 g;exact⟨s,k,cQ e⟩
 .exact o
theorem mQ.res(O:mQ A)(t:Nat):mQ (Md A t):=by
 unfold Md;split
 .exact O
 .split
  .rename_i s h;split
   .exact O
   .have o:=O.at_ _ s h;exact O.set h rfl ⟨o.num,o.tk,o.kl,o.nl,o.kd,o.nd,o.ki⟩
  .exact O
theorem mQ.down(O:mQ A)(num:Int):mQ (Dk A num):=by
 unfold Dk;split
 .exact O
 .rename_i s h;split
  .exact O.lP h rfl λi o=>⟨o.num,o.tk,o.kl,o.nl,o.kd,o.nd,o.ki⟩
  .exact O
theorem mQ.QR(O:mQ A):mQ (nH A):=by
 unfold nH;refine⟨by rw[aC];exact O.le,λj u h=> ?_,by rw[dU];exact O.tk⟩;rw[aL]at h;cases H:A[j]? with
 |none=>rw[H]at h;cases h
 |some s=>
  rw[H]at h;simp at h;subst h;have o:=O.at_ j s H;exact⟨o.num,o.tk,o.kl,o.nl,o.kd,o.nd,o.ki⟩
theorem O9{k:List (Nat×cG)}{id:Nat}(n:k.length<=6)(j: ∀a∈k,a.1<=1099511627776/\a.2.length<=1000)(l:(k.map (·.1)).Nodup)(f:id<=1099511627776)(g:d.length<=1000):
  (yi k id d).length<=6/\(∀a∈yi k id d,a.1<=1099511627776/\a.2.length<=1000)/\((yi k id d).map (·.1)).Nodup:=by
 have o:(k.filter (λa=>decide (a.1≠id))++ [(id,d)]).length<=7:=by
  have:=cM (λa=>decide (a.1≠id)) k;rw[aA,dN];omega
 have h: ∀a∈k.filter (λa=>decide (a.1≠id))++ [(id,d)],a.1<=1099511627776/\a.2.length<=1000:=by
  intro a ha;rcases bH.1 ha with ha|ha
  .exact j a (bj.1 ha).1
  .simp at ha;subst ha;exact⟨f,g⟩
 have c:((k.filter (λa=>decide (a.1≠id))++ [(id,d)]).map (·.1)).Nodup:=by
  rw[aY,fi];refine⟨(cT.map _).nodup l,bU,λa ha b H e=> ?_⟩;simp at H;subst H;subst e;obtain⟨x,m,e⟩:=bp.1 ha;have:=(bj.1 m).2;simp at this;exact this e
 unfold yi;split
 .refine⟨by rw[bM];omega,λa ha=>h a (gl ha),?_⟩;rw[List.map_drop];exact(List.drop_sublist _ _).nodup c
 .exact⟨ag,h,c⟩
theorem mQ.vX(O:mQ A)(num:Int)(id:Nat)(d:cG):mQ (Ba A num id d):=by
 unfold Ba;split
 .exact O
 .rename_i s h;split
  .exact O
  .rename_i H;refine O.lP h rfl λi o=> ?_
   obtain⟨k,K,a⟩:=O9 (id:=id) (d:=d) o.kl o.kd o.ki ag ag;exact⟨o.num,o.tk,k,o.nl,K,o.nd,a⟩
theorem mQ.watch(O:mQ A)(num:Int)(a:Bool):mQ (kh A num a):=by
 unfold kh;split
 .exact O
 .rename_i s h;exact O.lP h rfl λi o=>⟨o.num,o.tk,o.kl,o.nl,o.kd,o.nd,o.ki⟩
theorem Pa{l:List (cG)}(b:l.length<=6)(a: ∀n∈l,1<=n.length/\n.length<=600)(H:1<=d.length/\d.length<=600):(Dp l d).length<=6/\∀n∈Dp l d,1<=n.length/\n.length<=600:=by
 have h: ∀n∈l++ [d],1<=n.length/\n.length<=600:=by
  intro n hn;rcases bH.1 hn with hn|hn
  .exact a n hn
  .simp at hn;subst hn;exact H
 unfold Dp;split
 .exact⟨by rw[bM,aA,dN];omega,λn hn=>h n (gl hn)⟩
 .exact⟨ag,h⟩
theorem mQ.note(O:mQ A)(num:Int)(d:cG):mQ (Bb A num d):=by
 unfold Bb;split
 .exact O
 .rename_i s a;split
  .rename_i H;have h:1<=d.length/\d.length<=600:=by have:=H.1;unfold sJ at this;simpa using this
   refine O.lP a rfl λi o=> ?_
   obtain⟨k,K⟩:=Pa o.nl o.nd h;exact⟨o.num,o.tk,o.kl,k,o.kd,K,o.ki⟩
  .exact O
theorem mQ.read(O:mQ A)(num:Int):mQ (Dr A num):=by
 unfold Dr;split
 .exact O
 .rename_i s H;refine O.lP H rfl λi o=>⟨o.num,o.tk,o.kl,?_,o.kd,λn h=>o.nd n (gl h),o.ki⟩
  have:=o.nl;rw[bM];omega
theorem mQ.nil:mQ []:=⟨bU,bU,bU⟩

end fu
end
section
open Go.fW
namespace fu
open mg
variable {h H:ai} {t:Nat} {X:Ft} {R:fM} {p q:ct} {c i:Nat} {l:QP} {D:Nat→Prop} {L:List SC} {A:List fu}
variable {num:Int} {k:Nat}
theorem tP:oC Tryz.prog 88 133 1 8 (.pointer none):=⟨dA,dA,rfl⟩
theorem uP:Tryz.prog.underlying 88=some (.slice 133):=dA
theorem jj(d: ∀H t X,Has H t X []->Fr No h H->(∀x,X.M x\/X.D x->h.size<=x)->R (.P t 0) H):Cl 13 #[] h R:=by
 refine EI.walk (cS ?_);refine d _ _ ⟨λx=>x=h.size,λ_=>False⟩ ⟨[],λx=>if x=h.size then some 0 else none, [],⟨⟨none,0,bZ,.nil rfl rfl rfl rfl,λx ⟨a,e,_⟩=>by cases e⟩,bU,λi s f=>by simp at f,?_,λ_ h=>h.elim,λ_ _ _ h=>h⟩,rfl,rfl,?_⟩ (Fr.push _ _) (λx g=>g.elim (λe=>by have e:x=h.size:=e;omega) False.elim)
 .intro x r b;split at b
  .rename_i e;rw[cZ];omega
  .cases b
 .intro x;constructor
  .intro e;have e:x=h.size:=e;exact⟨0,by simp[e]⟩
  .rintro⟨r,b⟩;dsimp only at b;split at b
   .assumption
   .cases b
theorem ig(T:EJ h t l D L)(m: ∀i s,num=((i:Nat):Int)+1->L[i]? =some s->R (.T #[.P s.b 0,.I 0]) h)(K:(num<1\/num>(L.length:Int))->R (.T #[.pointer none,.I 4]) h)(u:L.length<=1000000):
  Cl 67 #[.P t 0,.I num] h R:=by
 obtain⟨p,c,f,o,v⟩:=T.dh;refine sZ.walk (aG.of λJ a=>⟨true,au f,?_⟩);subst a;simp only[cX,ar,aP];refine aG.of λJ a=> ?_
 by_cases b:num<1
 .simp only[b,bG,bm];subst a;simp only[bm];exact K (.inl b)
 .simp only[b,bt,ar,aP];refine⟨_,_,_,au f,?_⟩;by_cases d:num>(L.length:Int)
  .simp only[d,bG];subst a;simp only[bm];exact K (.inr d)
  .simp only[d,bt];subst a;simp only[ar,aP];obtain⟨i,rfl⟩: ∃i:Nat,num=(i:Int)+1:=⟨(num - 1).toNat,ag⟩;have j:i<L.length:=ag
   have g:L[i]? =some L[i]:=aj j;obtain⟨n,r,rfl⟩:=o.addr ag;have e:IntKind.wrap .i64 ((i:Int)+1 - 1)=(i:Int):=by rw[bJ ag ag];omega
   rw[e];refine⟨_,_,_,au f,ag,aw.2 ⟨_,?_,m i _ rfl g⟩⟩;rw[aH,cE];exact o.cell (by rw[aL,g];rfl)
theorem wa{k:Int}(T:Nat)(w:k=(T:Int))(g:EJ h t l D L)(F:L.length<=1000000)(K: ∀i s,L[i]? =some s->s.token=T->L.findIdx? (λs=>decide (s.token=T))=some i->R (.P s.b 0) h)(x:L.findIdx? (λs=>decide (s.token=T))=none->R (.pointer none) h):Cl 66 #[.P t 0,.U k] h R:=by
 subst w;obtain⟨p,c,v,o,G⟩:=g.dh;refine vW.walk ⟨_,_,_,au v,?_⟩;refine⟨λi H=>H=h/\∃k:Nat,i=(k:Int)/\k<=L.length/\∀j (b:j<L.length),j<k->L[j].token≠T,λi _=>L.length - i.toNat,⟨rfl,0,rfl,ag,λj _ b=>ag⟩,?_⟩;rintro _ B ⟨rfl,k,rfl,E,d⟩;by_cases n:k<L.length
 .have Q:(k:Int)<(L.length:Int):=ag
  simp only[Q,bG,bm,aH];have f:L[k]? =some L[k]:=aj n;obtain⟨y,z,rfl⟩:=o.addr ag;have u:=(g.ses k _ f).dh;refine⟨⟨ag,by first|trivial|omega⟩,aw.2 ⟨some ⟨L[k].b,0,none⟩,?_,aw.2 ⟨_,au u,?_⟩⟩⟩
  .rw[cE];exact o.cell (by rw[aL,f];rfl)
  by_cases e:L[k].token=T
  .rw[af (by rw[e];simp)];refine K k _ f e ?_;rw[cj];exact⟨n,cQ e,λj b=>by simpa using d j ag b⟩
  .rw[ae (by simp only[dc];omega)];rw[bJ ag ag];refine⟨⟨trivial,k+1,ag,ag,λj b C=> ?_⟩,?_⟩
   .by_cases q:j=k
    .subst q;exact e
    .exact d j b ag
   .show L.length - Int.toNat ((k:Int)+1)<L.length - Int.toNat (k:Int);omega
 .have Q: ¬(k:Int)<(L.length:Int):=ag
  simp only[Q,bt,ar,aP];refine x ?_;rw[df];intro a r;obtain⟨j,b⟩:=bK r;have m:=(ay.1 b).1;rw[aj m]at b;obtain rfl:=aZ b;simpa using d j m ag
theorem kB{s:SC}(a:L[i]? =some s):(L.map SC.abs)[i]? =some s.abs:=by rw[aL,a];rfl
theorem Pb(T:Nat):(L.map SC.abs).findIdx? (λs=>decide (s.token=T))=L.findIdx? (λs=>decide (s.token=T)):=by
 rw[List.findIdx?_map];rfl
theorem AT(d:Has h t X A)(o:mQ A)(a:R (.B (SF A num)) h):Cl 68 #[.P t 0,.I num] h R:=by
 obtain⟨_,l,L,T,rfl,_,j⟩:=d;have f:=o.le;rw[aC]at f;unfold SF at a;refine vV.walk (ig T (λi s e b=>⟨_,_,rfl,?_⟩) (λg=>⟨_,_,rfl,?_⟩) ag)
 .rw[af (by rfl)];subst e;rw[qb,kB b]at a;exact aw.2 ⟨_,cB (T.ses i s b).dh rfl,a⟩
 .rw[ae bU];rw[lO (by rw[aC];exact g)]at a;exact a
theorem zt{k : Int}(T : Nat)(b' : k = (T : Int))(z : Has h t X A)(ok : mQ A)(a : ∀ H n, Has H t n (vZ A T) → bw X h n H → R (.tuple #[.int .i64 (G2 A T), .int .i64 (pk A T)]) H):
    Cl 42 #[.pointer (some ⟨t, 0, none⟩), .int .u64 k] h R := by
  subst b'
  have o := z
  obtain ⟨_, l, L, g, rfl, _, hS⟩ := z
  have hl := ok.le
  rw [List.length_map] at hl
  obtain ⟨p, c, d, U, w⟩ := g.dh
  refine tb.walk (aG.of λJ j => ⟨true, cB d rfl, ?_⟩)
  subst j
  simp only [Bool.not_true, Bool.false_eq_true, if_false]
  refine aG.of λJ j => ?_
  unfold G2 vZ at a
  have O : (T < 1 ∨ T > 2147483648) → J true h := by
    intro m
    subst j
    simp only [if_true]
    have e : pk (L.map SC.abs) T = 1 := by unfold pk; rw [if_pos m]
    rw [e] at a
    exact a h X o (bw.refl _ _)
  have jf : ¬ (T < 1 ∨ T > 2147483648) → J false h := by
    intro m
    subst j
    simp only [Bool.false_eq_true, if_false]
    refine wa T rfl g (by omega) (λi s y ht E => ⟨_, rfl, ?_⟩) (λE => ⟨_, rfl, ?_⟩)
    · simp only [Option.isNone_some, Bool.not_false, if_true]
      have e : pk (L.map SC.abs) T = 12 := by
        unfold pk
        rw [if_neg m, if_pos]
        unfold G1
        rw [List.any_eq_true]
        exact ⟨s.abs, List.mem_map_of_mem (List.mem_of_getElem? y), by simp [SC.abs, ht]⟩
      rw [e] at a
      exact a h X o (bw.refl _ _)
    · simp only [Option.isNone_none, Bool.not_true, Bool.false_eq_true, if_false]
      have I : ¬ G1 (L.map SC.abs) T = true := by
        unfold G1
        rw [List.any_eq_true]
        rintro ⟨x, hx, e⟩
        obtain ⟨s, y, rfl⟩ := List.mem_map.1 hx
        have := List.findIdx?_eq_none_iff.1 E s y
        rw [show s.abs.token = s.token from rfl] at e
        rw [e] at this; cases this
      refine ⟨_, _, _, cB d rfl, ?_⟩
      by_cases B : (L.length : Int) ≥ 8
      · simp only [B, decide_true, if_true]
        have e : pk (L.map SC.abs) T = 5 := by
          unfold pk
          rw [if_neg m, if_neg I, if_pos (by rw [List.length_map]; omega)]
        rw [e] at a
        exact a h X o (bw.refl _ _)
      · simp only [B, decide_false, Bool.false_eq_true, if_false]
        have e : pk (L.map SC.abs) T = 0 := by
          unfold pk
          rw [if_neg m, if_neg I, if_neg (by rw [List.length_map]; omega)]
        rw [e] at a
        simp only [if_true] at a
        refine ⟨_, _, _, cB d rfl, ?_⟩
        rw [bJ (n := (L.length : Int) + 1) (by omega) (by omega)]
        refine cI.box λb h4 eb C f => ?_
        have g' := U.frame f (λ_ _ => id)
        refine ⟨_, _, _, cB (f.get d id) rfl, ?_⟩
        refine jn tP uP g' rfl (λi' M => by simp at M; subst M; rfl) (by omega) (by omega) ?_
        intro P c' h6 o6 r G
        refine ⟨_, _, _, rfl, ?_⟩
        have h' := aD d
        have S : ¬ aO p t := λhx => by have := w t hx; rw [g.OZ] at this; cases this
        have a' := r.get (f.get d id) S
        have Q : ¬ aO p b := λhx => by have := U.dL hx; omega
        have d' := r.get C Q
        refine bk a' (by simp) λv k1 k2 k3 => ?_
        have u : Fr (λx => x = t) h6 v := Fr.of_eq k2 k3
        have f' : ¬ b = t := λe => by omega
        have K := u.get d' f'
        refine ⟨_, cB K rfl, ?_⟩
        have F : Fr (λx => x = t ∨ aO p x) h v := (f.mono (λ_ _ => False.elim)).tt ((r.mono (λ_ _ hx => .inr hx)).tt (u.mono (λ_ _ hx => .inl hx)))
        have e' : ¬ aO P t := λhx => (G t hx).elim S (λh2 => by have := aD (f.get d id); omega)
        have Z : ∀ x, x = t ∨ aO p x → l x = some 0 ∨ l x = some 1 := by
          rintro x (rfl | hx)
          · exact .inl g.OZ
          · exact .inr (w x hx)
        have a2 : ∀ x, aO P x → l x = some 1 ∨ h.size ≤ x := by
          intro x hx
          rcases G x hx with h2 | h2
          · exact .inl (w x h2)
          · have := f.1; exact .inr (by omega)
        have a3 : ¬ aO P b := by
          intro hx
          rcases G b hx with h2 | h2
          · exact Q h2
          · have := aD C; omega
        obtain ⟨n, V, st⟩ := g.add (s := ⟨b, L.length + 1, T, true, false, [], none, 0, [], none, 0⟩) (p := P) (c0 := c') hS F Z k1 (o6.frame u (λx hx e => e' (e ▸ hx))) a2 a3 K (by show h.size ≤ b; omega) ⟨rfl, rfl, rfl⟩ ⟨rfl, rfl, rfl⟩
        have := a v n (by rw [List.length_map]; exact ⟨_, V⟩) st
        rw [List.length_map] at this
        exact this
  clear j
  by_cases h1 : T < 1
  · have : (T : Int) < 1 := by omega
    simp only [this, decide_true, if_true]
    exact O (.inl h1)
  · have : ¬ (T : Int) < 1 := by omega
    simp only [this, decide_false, Bool.false_eq_true, if_false]
    by_cases h2 : T > 2147483648
    · have : (T : Int) > 2147483648 := by omega
      simp only [this, decide_true]
      exact O (.inr h2)
    · have : ¬ (T : Int) > 2147483648 := by omega
      simp only [this, decide_false]
      exact jf (by omega)
theorem Me{k:Int}(T:Nat)(w:k=(T:Int))(f:Has h t X A)(O:mQ A)(a: ∀H x,Has H t x (Md A T)->bw X h x H->R (.T #[.I (O5 A T),.I (SG A T)]) H):
  Cl 43 #[.P t 0,.U k] h R:=by
 subst w;have g:=f;obtain⟨_,l,L,b,rfl,_,u⟩:=f;have y:=O.le;rw[aC]at y;obtain⟨p,c,v,F,C⟩:=b.dh;refine qM.walk (aG.of λJ r=>⟨true,au v,?_⟩);subst r;simp only[cX,ar,aP];unfold O5 SG Md at a;rw[Pb]at a;refine wa T rfl b ag (λi s e E d=>⟨_,rfl,?_⟩) (λd=>⟨_,rfl,?_⟩)
 .simp only[hN,ar,aP];rw[d]at a;dsimp only at a;rw[kB e]at a;dsimp only at a;have j:=(b.ses i s e).dh;refine aw.2 ⟨_,au j,?_⟩;cases m:s.up with
  |true=>
   simp only[bm];have:s.abs.up=true:=m;simp only[this,bm]at a;exact a h X g (bw.refl _ _)
  |false=>
   simp only[ar,aP];have:s.abs.up=false:=m;simp only[this,ar,aP]at a;refine aw.2 (bk j bU λo K z B=>aw.2 ?_);refine⟨_,au K,?_⟩;obtain⟨x,n,S⟩:=b.flag (s':= { s with up:=true }) u e rfl ⟨rfl,rfl,rfl⟩ ⟨rfl,rfl,rfl⟩ K z B;exact a o x ⟨_,n⟩ S
 .simp only[Option.isNone_none,bm];rw[d]at a;exact a h X g (bw.refl _ _)
theorem vP(d:Has h t X A)(O:mQ A)(a: ∀H x,Has H t x (Dk A num)->bw X h x H->R (.I (O6 A num)) H):Cl 44 #[.P t 0,.I num] h R:=by
 have f:=d;obtain⟨_,l,L,T,rfl,_,o⟩:=d;have r:=O.le;rw[aC]at r;unfold Dk O6 at a;refine te.walk (ig T (λi s e b=>⟨_,_,rfl,?_⟩) (λu=>⟨_,_,rfl,?_⟩) ag)
 .rw[ae bU];subst e;rw[qb,kB b]at a;dsimp only at a;have g:=(T.ses i s b).dh;refine aw.2 ⟨_,au g,?_⟩;cases j:s.up with
  |true=>
   have:s.abs.up=true:=j;simp only[this,bm]at a;simp only[cX,ar,aP];refine aw.2 (bk g bU λn K v w=> ?_);obtain⟨x,m,S⟩:=T.flag (s':= { s with up:=false }) o b rfl ⟨rfl,rfl,rfl⟩ ⟨rfl,rfl,rfl⟩ K v w;refine a n x ?_ S;unfold lP;rw[show((i:Int)+1 - 1).toNat=i by omega];exact⟨_,m⟩
  |false=>
   have:s.abs.up=false:=j;simp only[this,ar,aP]at a;simp only[ee,bm];exact a h X f (bw.refl _ _)
 .rw[af (by rfl)];rw[lO (by rw[aC];exact u)]at a;exact a h X f (bw.refl _ _)
theorem Be{o:Bool}(f:Has h t X A)(O:mQ A)(a: ∀H x,Has H t x (kh A num o)->bw X h x H->R (.I (xx A num)) H):Cl 155 #[.P t 0,.I num,.B o] h R:=by
 have g:=f;obtain⟨_,l,L,T,rfl,_,n⟩:=f;have u:=O.le;rw[aC]at u;unfold kh xx at a;refine rW.walk (ig T (λi s e d=>⟨_,_,rfl,?_⟩) (λv=>⟨_,_,rfl,?_⟩) ag)
 .refine aG.of λJ b=> ?_
  subst b;rw[af (by rfl)];subst e;rw[qb,kB d]at a;dsimp only at a;have r:=(T.ses i s d).dh;refine aw.2 (bk r bU λm K w y=> ?_);obtain⟨x,j,S⟩:=T.flag (s':= { s with watch:=o }) n d rfl ⟨rfl,rfl,rfl⟩ ⟨rfl,rfl,rfl⟩ K w y;refine a m x ?_ S;unfold lP;rw[show((i:Int)+1 - 1).toNat=i by omega];exact⟨_,j⟩
 .refine aG.of λJ b=> ?_
  subst b;rw[ae bU];rw[lO (by rw[aC];exact v)]at a;exact a h X g (bw.refl _ _)
def kC(A:List fu)(k:Nat):List fu:=(A.take k).map (λs=> { s with up:=false })++A.drop k
theorem G3{s:fu}(a:A[k]? =some s):(kC A k).set k { s with up:=false } =kC A (k+1):=by
 have b:=(ay.1 a).1;unfold kC;have d:((A.take k).map (λs:fu=> { s with up:=false })).length=k:=by rw[aC,bA];omega
 rw[List.set_append_right _ _ ag,d,Nat.sub_self,bN,a,aY];rw[show A.drop k=s::A.drop (k+1) by rw[cP b];congr 1;rw[aj b]at a;exact aZ a];simp
theorem Mf :(kC A k)[k]? =A[k]? :=by
 unfold kC;by_cases b:k<=A.length
 .have a:((A.take k).map (λs:fu=> { s with up:=false })).length=k:=by rw[aC,bA];omega
  rw[cH ag,a,Nat.sub_self,fp];rfl
 .rw[cU (by rw[aA,aC,bA,bM];omega),cU ag]
theorem Jc :(kC A k).length=A.length:=by unfold kC;rw[aA,aC,bA,bM];omega
theorem Jd(B:Has h t X A)(ok:mQ A)(hk: ∀H x,Has H t x (nH A)->bw X h x H->R (.T #[]) H):Cl 48 #[.P t 0] h R:=by
 have H0:=B;have hl:=ok.le;obtain⟨_,l,L,E,I,_,hS⟩:=B;obtain⟨p,c,M,w',hp⟩:=E.dh;have q':L.length=A.length:=by rw[<-I,aC]
 refine qa.walk ⟨_,_,_,au M,?_⟩;refine⟨λi H=> ∃(k:Nat)(x:Ft),i=(k:Int)/\k<=A.length/\Has H t x (kC A k)/\bw X h x H/\(∃u V,EJ H t V x.D u/\u.map SC.abs=kC A k/\(∀c,x.M c↔ ∃o',V c=some o')/\H[t]? =h[t]? /\u.map SC.b=L.map SC.b/\∀a,p=some a->H[a.block]? =h[a.block]?),λi _=>A.length - i.toNat,⟨0,X,rfl,ag,by simpa[kC]using H0,bw.refl _ _,L,l,E,by simpa[kC]using I,hS,rfl,rfl,λ_ _=>rfl⟩,?_⟩;rintro _ f ⟨k,F1,rfl,r',C,b',b,v',T,w,d',U,g',j'⟩;by_cases u':k<A.length
 .have Q:(k:Int)<(L.length:Int):=ag
  simp only[Q,bG,bm,aH];have i':k<b.length:=by have:=cf List.length w;rw[aC,Jc]at this;omega
  have g:b[k]? =some b[k]:=aj i';obtain⟨p1,c1,r,O,k'⟩:=T.dh;have h':=r;rw[U,M]at r;simp at r;obtain⟨rfl,t',rfl⟩:=r;obtain⟨d,n,rfl⟩:=O.addr ag;have f':=(T.ses k _ g).dh;refine⟨⟨ag,by first|trivial|omega⟩,aw.2 ⟨some ⟨b[k].b,0,none⟩,?_,aw.2 ?_⟩⟩
  .rw[cE];exact O.cell (by rw[aL,g];rfl)
  refine bk f' bU λo k1 k2 K=> ?_
  have z:=(T.ses k _ g).lb;obtain⟨F2,s,p'⟩:=T.flag (s':= { b[k]with up:=false }) d' g rfl ⟨rfl,rfl,rfl⟩ ⟨rfl,rfl,rfl⟩ k1 k2 K;rw[bJ ag ag];have J:(kC A k)[k]? =some b[k].abs:=by rw[<-w];exact kB g
  have e2:((b.map SC.abs).set k { b[k]with up:=false }.abs)=kC A (k+1):=by
   rw[w];rw[Mf]at J;exact G3 J
  rw[e2]at s;have a':t≠b[k].b:=λe=>by rw[<-e,T.OZ]at z;simp at z;omega
  have Z:d≠b[k].b:=λe=>by
   have:=k' d ⟨_,rfl,rfl⟩;rw[e,z]at this;simp at this;omega
  obtain⟨m',v,F,c',_,e'⟩:=id s;refine⟨⟨k+1,F2,ag,ag,⟨_,s⟩,b'.trans p',v,m',F,c',e',by rw[K t a',U],?_,?_⟩,?_⟩
  ·
   obtain⟨p2,c2,y,n',_⟩:=F.dh;have e3:o[t]? =f[t]? :=K t a';rw[e3,h']at y;simp at y;obtain⟨rfl,s',rfl⟩:=y;have l':o[d]? =f[d]? :=K d Z;apply fz
   intro j;rw[<-g'];by_cases P:j<b.length
   .have G:aT f (((AA d n):Addr).add j)=some (.pointer (some ⟨b[j].b,0,none⟩)):=O.cell (by rw[aL,aj P];rfl);have S:j<v.length:=ag
    have m:aT o (((AA d n):Addr).add j)=some (.pointer (some ⟨v[j].b,0,none⟩)):=n'.cell (by rw[aL,aj S];rfl);rw[hH]at G m;have:aT o (AA d (n+j))=aT f (AA d (n+j)):=by unfold aT;rw[l']
    rw[this,G]at m;simp at m;rw[aL,aL,aj P,aj S];simp[m]
   .rw[cU (by rw[aC];omega),cU (by rw[aC];omega)]
  .rintro a e;cases e;rw[K d Z,j' _ rfl]
  .show A.length - Int.toNat ((k:Int)+1)<A.length - Int.toNat (k:Int);omega
 .have Q: ¬(k:Int)<(L.length:Int):=ag
  simp only[Q,bt,ar,aP];have e:kC A k=nH A:=by
   unfold kC nH;rw[bF ag,dH ag,gC]
  rw[e]at C;exact hk f F1 C b'

end fu
end
section
open Go.fW Go.kV
namespace iC
open mg
variable {h h':ai} {b:Nat} {X:Ft} {R:fM} {p q:ct} {c d i:Nat} {L:List E} {s:BS}
variable {l:ct} {g a:Nat} {f:List IV} {S:Nat->Prop} {O k:Int} {x:It}
def Bf(h:ai)(b:Nat)(X:Ft)(s:BS):Prop:= ∃L,Bx h b X s L/\okB s L
theorem Bf.frame{Q:Nat->Prop}(H:Bf h b X s)(F:Fr Q h h')(e: ∀y,X.M y\/X.D y->¬Q y):Bf h' b X s:=by
 obtain⟨L,H,o⟩:=H;exact⟨L,H.frame F e,o⟩
theorem Bf.on(H:Bf h b X s)(F:Fr No h h'):Bf h' b X s:=H.frame F bX
theorem Bf.lt(H:Bf h b X s)(y:Nat)(e:X.M y\/X.D y):y<h.size:=by
 obtain⟨L,H,o⟩:=H;exact H.lt y e
theorem Mm.G5(H:Mm h b X s L l g f a S)(o:okB s L):L.length<1000/\f.length<=16:=by
 have e:=o.pm.length_eq;rw[aC]at e;have:=o.le;have:=H.len;omega
def jC(s:BS)(O:Int)(d:cG)(t:Nat):Int:=if xo O d.length (t:Int)=true then(if s.items.length≥16 then 15 else 0)else 1
def Bh(s:BS)(O:Int)(d:cG)(t:Nat):Int:=if jC s O d t=0 then(s.next:Int)else 0
def G8(s:BS)(O:Int)(d:cG)(t:Nat):BS:=if jC s O d t=0 then { s with items:=s.items++ [⟨s.next,O,d,t⟩],next:=s.next+1 } else s
theorem Bi{B:cG}{l' m:Nat}(t:Nat)(A':k=(t:Int))(H:Bf h b X s)(hr:Row h p (bc B))(J:l'=B.length)(hl:B.length<=1000000)(K':s.next<=1000000000)(v: ∀h' X',Bf h' b X' (G8 s O B t)->bw X h X' h'->R (.T #[.I (Bh s O B t),.I (jC s O B t)]) h'):
  Cl 221 #[.P b 0,.I O,.L p l' m,.U k] h R:=by
 subst A';subst J;obtain⟨L,⟨l,g,f,a,S,H⟩,o⟩:=H;obtain⟨hL,L'⟩:=H.G5 o;have J':=H.len;refine AY.walk (gr H ⟨_,rfl,?_⟩);simp only[cX,ar,aP];refine⟨_,au H.dh,sE hr rfl ag λz P C o2 f2 g2=>⟨_,_,_,_,_,_,rfl,?_⟩⟩;refine aI.new λu h7 I' f' f7=>aI.ld f' (fK λj f8=>⟨_,rfl,?_⟩)
 have U:Fr No h j:=f2.tt (f7.tt f8);have A:=H.on U;have z2:=f2.1;have z7:=f7.1;have z8:=f8.1;have l1:=aD f';unfold G8 Bh at v;cases n:xo O B.length (t:Int)with
 |false=>
  have e:jC s O B t=1:=by unfold jC;rw[n];rfl
  rw[e]at v;simp only[ee,bm];exact v j X ⟨L,⟨l,g,f,a,S,A⟩,o⟩ (bw.gT U)
 |true=>
  simp only[cX,ar,aP];refine⟨_,_,_,au A.dh,?_⟩;by_cases k':s.items.length≥16
  .have q:(f.length:Int)≥16:=ag
   have e:jC s O B t=15:=by unfold jC;rw[n,af rfl,af k']
   rw[e]at v;simp only[q,bG,bm];exact v j X ⟨L,⟨l,g,f,a,S,A⟩,o⟩ (bw.gT U)
  .have q: ¬(f.length:Int)≥16:=ag
   have e:jC s O B t=0:=by unfold jC;rw[n,af rfl,ae k']
   rw[e]at v;simp only[bm]at v;simp only[q,bt,ar,aP];have j':aI.at j u (s.next:Int) O P B.length C (t:Int):=f8.get f' id;refine⟨_,_,_,au A.dh,aI.ld j' ?_⟩;refine cS ⟨cB (A.on (Fr.push (S:=λ_=>False) j _)).dh rfl,?_⟩;have E:Fr No j (j.push (.C #[.I (s.next:Int),.I O,.L P B.length C,.U (t:Int)] 117)):=Fr.push _ _;have r9:Row (j.push (.C #[.I (s.next:Int),.I O,.L P B.length C,.U (t:Int)] 117)) (Sa j.size 0) [.I (s.next:Int),.I O,.L P B.length C,.U (t:Int)]:=ju;generalize j.push (.C #[.I (s.next:Int),.I O,.L P B.length C,.U (t:Int)] 117)=h9 at E r9⊢;have H9:=A.on E;have z':aI.at h9 u (s.next:Int) O P B.length C (t:Int):=E.get j' id;refine dS tI uI H9.own r9 rfl (λo' hv=>by simp at hv;rcases hv with rfl|rfl|rfl|rfl<;>rfl) ag ag λQ u' G n' _ D x'=>⟨_,_,_,rfl,?_⟩
   have z9:=E.1;have O':=D.1;have lb:=aD H.dh;have E':=D.get H9.dh H.bl;refine bk E' bU λa' a1 a2 a3=> ?_
   have V:Fr (λy=>y=b) G a':=Fr.of_eq a2 a3;refine⟨_,au a1,bk a1 bU λr d1 d2 d3=> ?_⟩;have Z:Fr (λy=>y=b) a' r:=Fr.of_eq d2 d3;have m': ∀y,h.size<=y->¬aO l y:=λy hy hx=>by have:=H.own.dL hx;omega
   have y':aI.at G u (s.next:Int) O P B.length C (t:Int):=D.get z' (m' u ag);have i':aI.at r u (s.next:Int) O P B.length C (t:Int):=(d3 u ag).trans ((a3 u ag).trans y');have p':cg.Al r a S L:=((H9.al.frame D (λy hy hx=>H.ls y hx hy)).frame V (λy hy e=>H.bs (e▸hy))).frame Z (λy hy e=>H.bs (e▸hy));refine⟨_,au d1,_,au i',?_⟩;rw[I6]at n;have B':cg.may (s.next:Int) (t:Int)=true:=cg.mP.2 ⟨bW o.yN,ag,n.2.2.2.2⟩;refine cg.I4 p' ag _ _ ag (λ_ I c' q' e' F=>⟨_,rfl,?_⟩) (λhf=>by rw[B']at hf;cases hf);have nS: ∀y,h.size<=y->¬S y:=λy hy w=>by have:=H.al.lt w;omega
   refine⟨_,au (F.get i' (nS u ag)),?_⟩;have F9:Fr No h h9:=U.tt E;have P':G.size<=r.size:=ag
   have r':Fr (aO l) h G:=Fr.no F9 D;have s':Fr (λy=>aO l y\/y=b) h r:=((r'.mono (λ_ _ hx=> .inl hx)).tt (V.mono (λ_ _ hx=> .inr hx))).tt (Z.mono (λ_ _ hx=> .inr hx));have T:Fr X.M h I:=((s'.mono (λy _ hx=>(H.m y).2 (hx.elim (λh=> .inr (.inl h)) .inl))).tt (F.mono (λy _ hx=>(H.m y).2 (.inr (.inr hx)))));have b': ∀y,aO P y->h.size<=y/\y<z.size:=λy hy=>⟨g2 y hy,o2.dL hy⟩
   have K: ∀y,aO Q y->aO l y\/z.size<=y:=λy hy=>(x' y hy).imp id (λh1=>ag)
   have H': ∀y,aO Q y->y<r.size:=λy hy=>by have:=n'.dL hy;omega
   have G':Own I P B.length C 1 (bc B):=by
    have t':Fr X.M z I:=by
     refine⟨iL T.1 F.1,λy hy J=> ?_⟩;have e1:I[y]? =r[y]? :=F.2 y ag (λhx=>J ((H.m y).2 (.inr (.inr hx))));have e2:r[y]? =a'[y]? :=Z.2 y ag (λe=>J ((H.m y).2 (.inl e)));have e3:a'[y]? =G[y]? :=V.2 y ag (λe=>J ((H.m y).2 (.inl e)));have e4:G[y]? =h9[y]? :=D.2 y ag (λe=>J ((H.m y).2 (.inr (.inl e))));have e5:h9[y]? =z[y]? :=(f7.tt (f8.tt E)).2 y ag id;rw[e1,e2,e3,e4,e5]
    exact o2.frame t' (λy hy M=>iL (H.lt y (.inl M)) (b' y hy))
   have w': ∀y,X.D y\/aO P y->y<I.size:=λy hy=>hy.elim (λh1=>cK (H.GZ y h1) T.1) (λh1=>iL (b' y h1) F.1)
   have v':f.flatMap gI++ [.I (s.next:Int),.I O,.L P B.length C,.U (t:Int)]=(f++ [(⟨s.next,O,⟨P,C,B⟩,t⟩:IV)]).flatMap gI:=by rw[cR];simp
   have ln:(f++ [(⟨s.next,O,⟨P,C,B⟩,t⟩:IV)]).length=f.length+1:=by rw[aA];rfl
   have g': ∀y,aO Q y->y≠b:=λy hy e=>(K y hy).elim (λh1=>H.bl (e▸h1)) (λh1=>ag)
   have d': ∀y,c' y->X.M y\/r.size<=y:=λy hy=>(e' y hy).imp (λh1=>(H.m y).2 (.inr (.inr h1))) id
   refine v I ⟨λy=>y=b\/aO Q y\/c' y,λy=>X.D y\/aO P y⟩ ⟨_,⟨Q,u',f++ [⟨s.next,O,⟨P,C,B⟩,t⟩],a,c',⟨?_,?_,q',?_,?_,λ_=>ff,λhx=>g' b hx rfl,?_,?_,?_,w'⟩⟩,?_⟩ ⟨T,?_,?_,λ_=> .inl⟩
   .have F':=F.get d1 H.bs;rw[F'];dsimp only;rw[ln,bJ ag ag];rfl
   .rw[ln,<-v'];exact((n'.frame V g').frame Z g').frame F (λy hy w=>(K y hy).elim (λh1=>H.ls y h1 w) (λh1=>nS y ag w))
   .rw[aY,H.abs];rfl
   .intro o' hv;rcases bH.1 hv with hv|hv
    .exact((H.EH o' hv).frame T (λy hd M=>H.vw y M hd)).mono (λy=> .inl)
    .obtain rfl:=bO.1 hv;exact BV.kU G' (λy=> .inr)
   .intro w;exact(e' b w).elim H.bs (λh1=>ag)
   .intro y hy w;rcases e' y w with h1|h1
    .exact(K y hy).elim (λz=>H.ls y z h1) (λz=>nS y ag h1)
    .have:=H' y hy;omega
   .rintro y hy (hd|hd)
    .rcases hy with rfl|hy|hy
     .exact H.vw _ ((H.m _).2 (.inl rfl)) hd
     .exact(K y hy).elim (λh1=>H.vw _ ((H.m _).2 (.inr (.inl h1))) hd) (λh1=>bW (H.GZ y hd))
     .exact(d' y hy).elim (λh1=>H.vw _ h1 hd) (λh1=>bW (H.GZ y hd))
    .have D':=b' y hd;rcases hy with rfl|hy|hy
     .omega
     .exact(K y hy).elim (λh1=>m' y D'.1 h1) (λh1=>ag)
     .exact(d' y hy).elim (λh1=>bW (H.lt y (.inl h1))) (λh1=>ag)
   .have C':(s.next:Int)∉keys L:=by
     intro M;obtain⟨e,he,ek⟩:=bp.1 M;obtain⟨x,hx,rfl⟩:=bp.1 (o.pm.mem_iff.1 he);have:=(o.it x hx).2.1;have ek:(x.num:Int)=(s.next:Int):=ek;omega
    refine⟨?_,?_,?_,?_,?_⟩
    .show(s.items++ [_]).length<=16;rw[aA,dN];omega
    .unfold cg.AU;rw[kx C'];refine(mO _ _).trans ?_;show List.Perm (((s.next:Int),(t:Int))::L) ((s.items++ [(⟨s.next,O,B,t⟩:It)]).map It.kv);rw[aY];exact(List.Perm.cons _ o.pm).trans (eH _ _).symm
    .intro x hx;rcases bH.1 hx with hx|hx
     .have:=o.it x hx;exact⟨this.1,by show x.num<s.next+1;omega,this.2.2⟩
     .obtain rfl:=bO.1 hx;exact⟨by show 1<=s.next;have:=o.yN;omega,by show s.next<s.next+1;omega,n.2.2.1,n.2.2.2.1,n.1,n.2.1,by have:=n.2.2.2.2;show t<=_;omega⟩
    .show((s.items++ [_]).map It.num).Pairwise (· < ·);rw[aY,List.pairwise_append];refine⟨o.inc,bU,λy hy M' hz=> ?_⟩;simp at hz;subst hz;obtain⟨x,hx,rfl⟩:=bp.1 hy;exact(o.it x hx).2.1
    .show s.next+1=1+(s.items++ [_]).length+s.taken+s.sX+s.over;rw[aA,dN];have:=o.yN;omega
   .rintro y (rfl|hy|hy)
    .exact .inl ((H.m _).2 (.inl rfl))
    .exact(K y hy).imp (λh1=>(H.m _).2 (.inr (.inl h1))) (λh1=>ag)
    .exact(d' y hy).imp id (λh1=>ag)
   .rintro y (hy|hy)
    .exact .inl hy
    .exact .inr (b' y hy).1
def oz(s:BS)(num O:Int):Int:=match yM s.items num with|none=>4|some i=>(match s.items[i]? with|some x=>if x.owner=O then 0 else 13|none=>4)
def nI(s:BS)(num O:Int):BS:=if oz s num O=0 then { s with items:=qL s.items num,sX:=s.sX+1 } else s
theorem Mm.field{s':BS}(H:Mm h b X s L l g f a S)(r:s'.items=s.items)(o:h'[b]? =some (.C #[.L l f.length g,.I (s'.next:Int),.I (s'.taken:Int),.I (s'.sX:Int),.I (s'.over:Int),.P a 0] 101 (0,0)))(F:Fr (λy=>y=b) h h'):Mm h' b X s' L l g f a S/\bw X h X h':=by
 have n: ∀y,X.D y->y≠b:=λy m e=>H.vw b ((H.m b).2 (.inl rfl)) (e▸m)
 refine⟨⟨o,H.own.frame F (λy j e=>H.bl (e▸j)),H.al.frame F (λy j e=>H.bs (e▸j)),H.abs.trans r.symm,λx t=>(H.EH x t).frame F (λy m e=>n y m e),H.m,H.bl,H.bs,H.ls,H.vw,λy j=>cK (H.GZ y j) F.1⟩,bw.vp (F.mono (λy _ e=>(H.m y).2 (.inl e)))⟩
theorem EK(H:Mm h b X s L l g f a S)(e:s.items[i]? =some x): ∃v,f[i]? =some v/\v.abs=x:=by
 rw[<-H.abs,aL]at e;cases j:f[i]? with
 |none=>rw[j]at e;cases e
 |some v=>rw[j]at e;exact⟨v,rfl,aZ e⟩
theorem wc{I:List It}(e:(I.map It.num).Pairwise (· < ·))(H:I[i]? =some x):(qL I (x.num:Int)).length+1=I.length:=by
 have j:=(ay.1 H).1;rw[<-pj e H];unfold vT;rw[aA,bA,bM];omega
theorem okB.del{t o:Nat}(e:okB s L)(H:s.items[i]? =some x)(j:t+c+o=s.taken+s.sX+s.over+1):okB ⟨qL s.items (x.num:Int),s.next,t,c,o⟩ (fZ L (x.num:Int)):=by
 refine e.sub cT (A4 e.pm) ?_;have:=wc e.inc H;have:=e.yN;omega
theorem xy{num:Int}(H:Bf h b X s)(j':s.next<=1000000000)(j: ∀h' A,Bf h' b A (nI s num O)->bw X h A h'->R (.I (oz s num O)) h'):
  Cl 144 #[.P b 0,.I num,.I O] h R:=by
 obtain⟨L,⟨l,g,f,a,S,H⟩,o⟩:=H;obtain⟨Z,k'⟩:=H.G5 o;have i':=H.len;have g':=o.le;refine vS.walk (gr H ⟨_,rfl,?_⟩);simp only[cX,ar,aP];refine ig H ag λB F=>⟨_,rfl,?_⟩
 have m:=H.on F;unfold nI at j;cases n:yM s.items num with
 |none=>
  have e:oz s num O=4:=by unfold oz;rw[n]
  rw[e]at j;have ev:rV s.items num= -1:=by unfold rV;rw[n]
  rw[ev,ga];exact j B X ⟨L,⟨l,g,f,a,S,m⟩,o⟩ (bw.gT F)
 |some i=>
  obtain⟨x,r,y⟩:=A5 n;have ev:rV s.items num=(i:Int):=by unfold rV;rw[n]
  have hi:=(ay.1 r).1;obtain⟨v,C,D⟩:=EK H r;have q: ¬(i:Int)<0:=ag
  rw[ev];simp only[q,bt,ar,aP,aH];obtain⟨ab,e',rfl⟩:=m.own.addr ag;have hc:=(m.own.gx iG C).2.1;refine⟨_,_,_,au m.dh,ag,aw.2 ⟨v.owner,hc,?_⟩⟩;have E:v.owner=x.owner:=by rw[<-D];rfl
  by_cases t:x.owner=O
  .have e:oz s num O=0:=by unfold oz;rw[n];dsimp only;rw[r];dsimp only;rw[af t]
   rw[e]at j;simp only[bm]at j;rw[ae (by rw[E,t];simp)];refine Ak m ag Z C λV J G s3 _=>⟨_,_,_,_,_,_,rfl,?_⟩
   obtain⟨b',a',c',P,I,u⟩:=G;refine⟨_,au u.dh,bk u.dh bU λw K M Q=> ?_⟩;have U:Fr (λd'=>d'=b) V w:=Fr.of_eq M Q;have f':=o.yN;have vn:(v.num:Int)=num:=by rw[<-y,<-D];rfl
   have T:vT s.items i=qL s.items num:=by rw[<-y];exact pj o.inc r
   obtain⟨z,s4⟩:=u.field (s':=⟨qL s.items num,s.next,s.taken,s.sX+1,s.over⟩) (h':=w) T.symm (by
    rw[K];dsimp only;rw[bJ ag ag];rfl) U
   rw[vn]at z;refine j w J ⟨fZ L num,⟨b',a',c',P,I,z⟩,?_⟩ ((bw.gT F).trans (s3.trans s4));have:=o.del (t:=s.taken) (c:=s.sX+1) (o:=s.over) r ag;rwa[y]at this
  .have e:oz s num O=13:=by unfold oz;rw[n];dsimp only;rw[r];dsimp only;rw[ae t]
   rw[e]at j;rw[af (by rw[E];simpa using t)];exact j B X ⟨L,⟨_,g,f,a,S,m⟩,o⟩ (bw.gT F)
theorem vU(H:Bf h b X s)(q':s.next<=1000000000)(k1:s.items= []->∀h',Bf h' b X s->Fr No h h'->R (.T #[.agg #[.I 0,.I 0,.Z,.U 0],.I 4]) h')(k2: ∀x r,s.items=x::r->∀h' C (v:IV),v.abs=x->Bf h' b C { s with items:=r,taken:=s.taken+1 } ->bw X h C h'->v.v.ok h' C.D->R (.T #[v.agg,.I 0]) h'):
  Cl 76 #[.P b 0] h R:=by
 obtain⟨L,⟨l,g,f,a,S,H⟩,t⟩:=H;obtain⟨hL,r'⟩:=H.G5 t;have a':=H.len;have p':=t.le;have o':=t.yN;refine yK.walk (aI.box λB V n' z I=> ?_);have j:=H.on I;refine gr j ⟨_,rfl,?_⟩;simp only[cX,ar,aP];refine⟨_,_,_,au j.dh,?_⟩;cases n:s.items with
 |nil=>
  have i':f.length=0:=by rw[a',n];rfl
  rw[af (by rw[i'];rfl)];refine aI.set z λh6 D E G=>aI.ld D ?_
  have U:Fr (λy=>y=B) V h6:=Fr.of_eq E G;have l1:=aD z;have nX: ∀y,X.M y\/X.D y->y≠B:=λy o e=>by have:=H.lt y o;omega
  exact k1 n h6 ⟨L,⟨l,g,f,a,S,j.frame U nX⟩,t⟩ (I.fresh U (λy e=>ag))
 |cons x r=>
  have s':0<f.length:=by rw[a',n];simp
  rw[ae (by simp only[dc];omega)];have K:s.items[0]? =some x:=by rw[n];rfl
  obtain⟨v,hv,c'⟩:=EK j K;refine⟨_,au j.dh,bk j.dh bU λZ a1 P Q=> ?_⟩;have g':Fr (λy=>y=b) V Z:=Fr.of_eq P Q;obtain⟨f',k'⟩:=j.field (s':= { s with taken:=s.taken+1 }) (h':=Z) rfl (by
   rw[a1];dsimp only;rw[bJ ag ag];rfl) g'
  refine Ak (i:=0) f' (by show s.items.length<=100;omega) hL hv λJ m A M m'=>⟨_,_,_,_,_,_,rfl,?_⟩
  have l1:=aD z;have lb:=aD H.dh;have j':aI.at J B 0 0 none 0 0 0:=M.fr.get ((Q B ag).trans z) (λhm=>bW (H.lt B (.inl hm)));refine aI.set j' λw D E G=>aI.ld D ?_
  have F:Fr (λy=>y=B) J w:=Fr.of_eq E G;have d': ∀y,m.M y\/m.D y->y≠B:=M.apart (Q:=λy=>y=B) (λy o e=>bW (H.lt y o)) (λy e=>by rw[e,P];exact l1);have vn:(v.num:Int)=(x.num:Int):=by rw[<-c'];rfl
  have T:vT s.items 0=r:=by unfold vT;rw[n];rfl
  have ed:qL s.items (x.num:Int)=r:=by rw[<-pj t.inc K];exact T
  rw[vn]at A;have b':=t.del (t:=s.taken+1) (c:=s.sX) (o:=s.over) K ag;rw[ed]at b';have e':Bx w b m { s with items:=r,taken:=s.taken+1 } (fZ L (x.num:Int)):=by
   have:({ ({ s with taken:=s.taken+1 } :BS)with items:=vT ({ s with taken:=s.taken+1 } :BS).items 0 } :BS)= { s with items:=r,taken:=s.taken+1 } :=by
    show(⟨vT s.items 0,_,_,_,_⟩:BS)=_;rw[T]
   rw[this]at A;exact A.frame F d'
  have u:bw X h m J:=(bw.gT I).trans (k'.trans M);have l':bw X h m w:=by
   refine⟨⟨db u.fr.1 F.1,λy o hn=> ?_⟩,u.hO,u.ji,u.mw⟩;rw[F.2 y (cK o u.fr.1) (λe=>ag)];exact u.fr.2 y o hn
  exact k2 x r n w m v c' ⟨_,e',b'⟩ l' (m'.frame F (λy hd e=>d' y (.inr hd) e))
theorem wg(A:Nat)(H':k=(A:Int))(H:Bf h b X s)(b1:s.next<=1000000000)
  (hk: ∀h' o p' c' (m:List IV) D,Bf h' b o { s with items:=s.items.filter (λx=>decide ((A:Int)<(x.fR:Int))),over:=s.over+m.length } ->bw X h o h'->Own h' p' m.length c' 4 (m.flatMap gI)->(∀y∈m,y.v.ok h' o.D)->(∀y,aO p' y->h.size<=y/\¬(o.M y\/o.D y))->
   (m.map IV.abs).map It.kv=D->jI D->D.Perm ((s.items.filter (λx=>decide ((x.fR:Int)<=(A:Int)))).map It.kv)->(∀y∈m,y.abs∈s.items)->R (.L p' m.length c') h'):
  Cl 40 #[.P b 0,.U k] h R:=by
 subst H';obtain⟨L,⟨l,g,f,a,S,H⟩,u⟩:=H;obtain⟨hL,b2⟩:=H.G5 u;have I':=u.le;have a5:=u.yN;have T:=H.al.sorted;have C:=H.al.nodup;refine yL.walk (gr H ⟨_,rfl,aG.of λa4 hJ=> ?_⟩);simp only[bm];refine⟨_,au H.dh,cg.EF H.al ag _ λh3 p3 c3 A3 o3 g3 Z=>⟨_,_,_,rfl,?_⟩⟩;generalize hD:cg.due L (A:Int)=D at o3⊢;have P:L=D++cg.rest L (A:Int):=by rw[<-hD];exact(List.takeWhile_append_dropWhile).symm
 have M3:Mm h3 b X s (cg.rest L (A:Int)) l g f a S:=by
  refine⟨Z.get H.dh H.bs,H.own.frame Z (λy j hs=>H.ls y j hs),A3,H.abs,λx n=>(H.EH x n).frame Z (λy hd hs=>H.vw y ((H.m y).2 (.inr (.inr hs))) hd),H.m,H.bl,H.bs,H.ls,H.vw,λy j=>cK (H.GZ y j) Z.1⟩
 have s3:bw X h X h3:=bw.vp (Z.mono (λy _ hs=>(H.m y).2 (.inr (.inr hs))));have Dl:D.length<=16:=by
  have h1:=cf List.length P;rw[aA]at h1;have:=u.pm.length_eq;rw[aC]at this;omega
 have U':(keys D).Nodup:=by
  rw[P]at C;unfold keys at C⊢;rw[aY,fi]at C;exact C.1
 have dr: ∀e∈D,e.1∉keys (cg.rest L (A:Int)):=by
  intro e he z;rw[P]at C;unfold keys at C z;rw[aY,fi]at C;exact C.2.2 e.1 (bz he) e.1 z rfl
 have V':(cg.rest L (A:Int)).length<1000:=by
  have h1:=cf List.length P;rw[aA]at h1;omega
 refine⟨λop ol oc o' G=> ∃(k:Nat)(o:Ft)(m:List IV),o'=(k:Int)/\k<=D.length/\ol=m.length/\m.length=k/\Bx G b o { s with items:=oH s.items (keys (D.take k)),over:=s.over+k } (cg.rest L (A:Int))/\bw X h o G/\Fr (λy=>h.size<=y\/X.M y) h3 G/\Own G op ol oc 4 (m.flatMap gI)/\(∀y∈m,y.v.ok G o.D)/\
   (∀y,aO op y->h.size<=y/\¬(o.M y\/o.D y)/\¬aO p3 y)/\(∀y,aO p3 y->¬(o.M y\/o.D y))/\Row G p3 (cg.kc D)/\(m.map IV.abs).map It.kv=D.take k/\(∀y∈m,y.abs∈s.items),λ_ _ _ o' _=>D.length - o'.toNat,
   ⟨0,X, [],rfl,ag,rfl,rfl,?_,s3,Fr.refl _ _,.nil rfl rfl rfl rfl,(λy j=>by cases j),(λy ⟨a,e,_⟩=>by cases e),(λy j n=>iL (g3 y j) (H.lt y n)),o3.iF,rfl,λy j=>by cases j⟩,?_⟩
 .have:({ s with items:=oH s.items (keys (D.take 0)),over:=s.over+0 } :BS)=s:=by
   show(⟨oH s.items [],_,_,_,_⟩:BS)=s;rw[OT];rfl
  rw[this];exact⟨l,g,f,a,S,M3⟩
 clear M3 A3;rintro op ol oc _ G ⟨k,o,m,rfl,a7,rfl,y',B,st,fg,A',hd,F,s',r3,g',v'⟩;by_cases J':k<D.length
 .have q:(k:Int)<((D.length:Nat):Int):=ag
  simp only[q,bG,bm];have M:D[k]? =some D[k]:=aj J';generalize D[k]=e at M;have u':=aX M;have aT:(cg.kc D)[k]? =some (.I e.1):=by
   unfold cg.kc keys;rw[aL,aL,M];rfl
  obtain⟨pa,rfl⟩:=r3.some (λE=>by rw[E]at aT;cases aT);have D':=r3.cell aT;refine⟨⟨by first|trivial|omega,by first|trivial|omega⟩,aw.2 ⟨e.1,by rw[aH,cE];exact D',?_⟩⟩;obtain⟨b4,b3,b5,J,S',d'⟩:=B;have m':({ s with items:=oH s.items (keys (D.take k)),over:=s.over+k } :BS).items=oH s.items (keys (D.take k)):=rfl;have rl:(oH s.items (keys (D.take k))).length<=16:=db (cM _ _) I';refine ig d' (by rw[m'];omega) λh5 f5=>⟨_,rfl,?_⟩
  rw[m'];have M5:=d'.on f5;have G':e∈L:=by rw[P];exact dJ _ u'
  obtain⟨x,n,w'⟩:=bp.1 (u.pm.mem_iff.1 G');have b':(x.num:Int)=e.1:=by rw[<-w'];rfl
  have K':e.1∉keys (D.take k):=by
   intro z;obtain⟨e',F',ek⟩:=bp.1 z;obtain⟨Q',hj⟩:=bK F';rw[da]at hj;split at hj
   .rename_i a6;have h1:(keys D)[Q']? =some e.1:=by unfold keys;rw[aL,hj,<-ek];rfl
    have h2:(keys D)[k]? =some e.1:=by unfold keys;rw[aL,M];rfl
    have:=(fa (by unfold keys;rw[aC];omega) U').1 (h1.trans h2.symm);omega
   .cases hj
  have O':x∈oH s.items (keys (D.take k)):=bj.2 ⟨n,av (by rw[b'];exact K')⟩;cases f':yM (oH s.items (keys (D.take k))) e.1 with
  |none=>exact absurd b' (OS f' x O')
  |some i=>
   obtain⟨x',k',b0⟩:=A5 f';have M':x'∈s.items:=(bj.1 (aX k')).1;obtain rfl:x'=x:=uniq u.inc M' n ag;have ev:rV (oH s.items (keys (D.take k))) e.1=(i:Int):=by unfold rV;rw[f']
   rw[ev];obtain⟨v,hv,j'⟩:=EK M5 k';refine Ak M5 (by rw[m'];omega) V' hv λh6 t B6 s6 v6=>⟨_,_,_,_,_,_,rfl,?_⟩
   have vn:(v.num:Int)=e.1:=by rw[<-b',<-j'];rfl
   rw[vn,kx (dr e u')]at B6;have P':((oH s.items (keys (D.take k))).map It.num).Pairwise (· < ·):=u.inc.sublist (cT.map _);have L':keys (D.take (k+1))=keys (D.take k)++ [e.1]:=by unfold keys;rw[bN,M,aY];rfl
   have E':vT (oH s.items (keys (D.take k))) i=oH s.items (keys (D.take (k+1))):=by
    rw[pj P' k',b',OU,L']
   have o5:=A'.frame f5 bX;have n': ∀y,aO op y->¬(t.M y\/t.D y):=λy j=>λn=>s6.apart (Q:=aO op) (λa' hz r=>(F a' r).2.1 hz) (λa' r=>o5.dL r) y n j
   have o6:=o5.frame s6.fr (λy j z=>(F y j).2.1 (.inl z));refine jn tI uI o6 rfl (λw hw=>by simp at hw;rcases hw with rfl|rfl|rfl|rfl<;>rfl) ag ag λp8 c8 h8 o8 K g8=>⟨_,_,_,rfl,?_⟩
   have B8:Bx h8 b t _ _:=B6.frame K (λy j r=>n' y r j);obtain⟨T',R',Z',a8,S8,U⟩:=B8;refine⟨_,au U.dh,bk U.dh bU λh9 a1 a2 a3=> ?_⟩;have f9:Fr (λy=>y=b) h8 h9:=Fr.of_eq a2 a3;obtain⟨M9,s9⟩:=U.field (s':=⟨oH s.items (keys (D.take (k+1))),s.next,s.taken,s.sX,s.over+(k+1)⟩) (h':=h9) E'.symm (by
    rw[a1];dsimp only;rw[bJ ag ag];rfl) f9
   have b6:t.M b:=(U.m b).2 (.inl rfl);have B': ∀y,aO p8 y->h.size<=y/\¬(t.M y\/t.D y)/\¬aO (some pa) y:=by
    intro y j;rcases g8 y j with h1|h1
    .exact⟨(F y h1).1,n' y h1,(F y h1).2.2⟩
    .have z6:=s6.fr.1;have z5:=f5.1;have zg:=st.fr.1;refine⟨ag,λn=>bW (B6.lt y n),λn=> ?_⟩;have:=jh r3 (by intro E;rw[E]at aT;cases aT) n;omega
   have Q:bw o G t h6:=(bw.gT f5).trans s6;have t': ∀y,aO (some pa) y->¬(t.M y\/t.D y):=λy j n=>Q.apart (Q:=aO (some pa)) (λa' hz r=>s' a' r hz) (λa' r=>jh r3 (by intro E;rw[E]at aT;cases aT) r) y n j
   have I:bw X h t h6:=st.trans Q;have r': ∀y,y<h.size->¬X.M y->h9[y]? =h6[y]? :=by
    intro y j z;have zz:=I.fr.1;have b7:=K.1;rw[f9.2 y ag (λE=>(I.hO b b6).elim (λh1=>z (E▸h1)) (λh1=>ag)),K.2 y ag (λr=>bW ((F y r).1))]
   have X':bw X h t h9:=by
    refine⟨⟨iL I.fr.1 K.1,λy j hn=> ?_⟩,I.hO,I.ji,I.mw⟩;rw[r' y j hn];exact I.fr.2 y j hn
   have a0: ∀y,aO p8 y->y≠b:=λy j E=>(B' y j).2.1 (.inl (E▸b6))
   have C':m.flatMap gI++([.I (v.num:Int),.I v.owner,.L v.v.p v.v.b.length v.v.c,.U (v.fR:Int)]:List Value)=(m++ [v]).flatMap gI:=by rw[cR];simp
   have ln:(m++ [v]).length=m.length+1:=by rw[aA];rfl
   rw[bJ ag ag];refine⟨⟨k+1,t,m++ [v],ag,ag,ln.symm,by rw[ln,y'],⟨T',R',Z',a8,S8,M9⟩,X',?_,?_,?_,B',t',?_,?_,?_⟩,?_⟩
   .refine⟨sP fg.1 Q.fr.1 K.1,λy j hn=> ?_⟩;have l':y<h.size:=Nat.lt_of_not_le (λn=>hn (.inl n));have i': ¬X.M y:=λn=>hn (.inr n)
    rw[r' y l' i',I.fr.2 y l' i',s3.fr.2 y l' i']
   .rw[<-C'];exact o8.frame f9 a0
   .intro w hw;have z': ∀q':IV,q'.v.ok h6 t.D->q'.v.ok h9 t.D:=λq' hu=>(hu.frame K (λy j r=>n' y r (.inr j))).frame f9 (λy j E=>U.vw b b6 (E▸j))
    rcases bH.1 hw with hw|hw
    .exact z' w (((hd w hw).frame Q.fr (λy j z=>d'.vw y z j)).mono (λy j=>Q.mw y j))
    .obtain rfl:=bO.1 hw;exact z' w v6
   .refine((r3.frame Q.fr (λJ V z=>s' _ ⟨J,V,rfl⟩ (.inl z))).frame K (λJ V r=>(F _ r).2.2 ⟨J,V,rfl⟩)).frame f9 (λJ V E=>t' _ ⟨J,V,rfl⟩ (.inl (by have E:J.block=b:=E;rw[E];exact b6)))
   .rw[aY,aY,g',bN,M];simp[j',w']
   .intro w hw;rcases bH.1 hw with hw|hw
    .exact v' w hw
    .obtain rfl:=bO.1 hw;rw[j'];exact n
   .show D.length - Int.toNat ((k:Int)+1)<D.length - Int.toNat (k:Int);omega
 .have q: ¬(k:Int)<((D.length:Nat):Int):=ag
  simp only[q,bt,ar,aP];obtain rfl:k=D.length:=ag
  subst hJ;rw[fO]at B g';have e1:oH s.items (keys D)=s.items.filter (λx=>decide ((A:Int)<(x.fR:Int))):=by rw[<-hD];exact OV u T C
  rw[e1]at B;have a9:D.length+(s.items.filter (λx=>decide ((A:Int)<(x.fR:Int)))).length=s.items.length:=by
   have h1:=cf List.length P;rw[aA,(Dh (now:=(A:Int)) u T).length_eq,aC,u.pm.length_eq,aC]at h1;omega
  refine hk G o op oc m D ⟨_,by rw[y'];exact B,?_⟩ st A' hd (λy j=>⟨(F y j).1,(F y j).2.1⟩) g' ?_ ?_ v'
  .exact u.sub cT (Dh u T) ag
  .rw[<-hD,(gw T).1];exact gk _ T
  .rw[<-hD];exact OW u T

end iC
end
section
variable {h:ai} {R:fM}
variable {t:Nat} {r e:Bool} {d f j k E a o:Int} {g i b c:ByteArray}
theorem Pc.walk(n:bg h (.map #[] 0) λB H=>bg H (.C #[.map (some B)] 93) λl m=>R (.P l 0) m):Cl 14 #[] h R:=aR [] Tryz.func14 n
theorem yR.walk(H: ∃T,Cc h t 0 (.map T)/\R (.B (!T.isNone)) h):Cl 136 #[.P t 0] h R:=aR [] Tryz.func136 H
theorem Cq.walk{n:Int}(H:if(decide (n≥0))then R (.B (decide (n<=2))) h else R (.B false) h):Cl 140 #[.I n] h R:=aR [] Tryz.func140 H
theorem Je.walk(u:bg h (.C #[.B r,.U d,.U f,.S g,.S i,.I j,.I k] 184) λB n=>ax.LD n (AA B 0) λx y z A C=>Cl 29 #[.agg #[.B x,.U y,.U z,.S A,.S C]] n λv H=> ∃s,v=.B s/\if s then ax.LD H (AA B 0) λD F G I J=> ∃(m:Bool),BW Tryz.prog 29 (.agg #[.B D,.U F,.U G,.S I,.S J]) (.agg #[.B false,.U 0,.U 0,.S iB,.S iB]) m/\if(!m)then Hi H B 5 λw=>Cl 140 #[.I w] H λV l=> ∃T,V=.B T/\if T then∃p,Cc l B 6 (.I p)/\if(decide (p≥1))then∃q,Cc l B 6 (.I q)/\R (.B (decide (q<=1099511627776))) l else R (.B false) l else R (.B false) l else R (.B false) H else R (.B false) H):Cl 137 #[.agg #[.B r,.U d,.U f,.S g,.S i,.I j,.I k]] h R:=aR [] Tryz.func137 u
theorem Bj.walk(Q:bg h (.C #[.B r,.U d,.U f,.S g,.S i,.I j,.I k] 184) λB O=>Cl 136 #[.P t 0] O λo' l=> ∃L,o'=.B L/\if(!L)then R (.I 6) l else∃T,Cc l t 0 (.map T)/\ax.LD l (AA B 0) λp q s u v=> ∃w x y z A C D F,iM Tryz.prog 91 (.map T) (.agg #[.B p,.U q,.U s,.S u,.S v]) true l (.T #[.agg #[.B w,.U x,.U y,.S z,.S A,.I C,.I D],.B F])/\bg l (.C #[.B false,.U 0,.U 0,.S iB,.S iB,.I 0,.I 0] 184) λM m=>kO (.map T) l m/\dO (AA B 0) [.B p,.U q,.U s,.S u,.S v] 0 m/\Cc m t 0 (.map T)/\bV.ST m (AA M 0) w x y z A C D λn=>bV.LD n (AA B 0) λS U V X Z a' b'=>Cl 137 #[.agg #[.B S,.U U,.U V,.S X,.S Z,.I a',.I b']] n λp' H=> ∃G,p'=.B G/\if(!G)then R (.I 1) H else if F then R (.I 11) H else∃I,Cc H t 0 (.map I)/\∃J:Int,R8 Tryz.prog #[91] 3 (.map I) H (.I J)/\if(decide (J≥8))then R (.I 15) H else∃K,Cc H t 0 (.map K)/\ax.LD H (AA B 0) λc' d' e' f' g'=>bV.LD H (AA B 0) λh' i' j' k' l' m' n'=>ba Tryz.prog (Instr.mapUpdate 91 (.map K) (.agg #[.B c',.U d',.U e',.S f',.S g']) (.agg #[.B h',.U i',.U j',.S k',.S l',.I m',.I n'])) H λ_ P=>R (.I 0) P):Cl 94 #[.P t 0,.agg #[.B r,.U d,.U f,.S g,.S i,.I j,.I k]] h R:=aR [(11,λ_=>pN 13),(34,λ_=>pN 8)] Tryz.func94 Q
theorem Bl.walk(S:bg h (.C #[.B e,.U E,.U a,.S b,.S c] 29) λp P=>bg P (.C #[.B false,.U 0,.U 0,.S iB,.S iB,.I 0,.I 0] 184) λB Q=>Cl 136 #[.P t 0] Q λF' H=> ∃w,F'=.B w/\if(!w)then bV.ST H (AA B 0) false 0 0 iB iB 0 0 λq=>bV.LD q (AA B 0) λU a' e' i' m' q' u'=>R (.T #[.agg #[.B U,.U a',.U e',.S i',.S m',.I q',.I u'],.I 6]) q else∃T,Cc H t 0 (.map T)/\ax.LD H (AA p 0) λx y z A C=> ∃D F G I J K L M,iM Tryz.prog 91 (.map T) (.agg #[.B x,.U y,.U z,.S A,.S C]) true H (.T #[.agg #[.B D,.U F,.U G,.S I,.S J,.I K,.I L],.B M])/\bg H (.C #[.B false,.U 0,.U 0,.S iB,.S iB,.I 0,.I 0] 184) λn m=>kO (.map T) H m/\dO (AA p 0) [.B x,.U y,.U z,.S A,.S C] 0 m/\Cc m t 0 (.map T)/\bV.ST m (AA n 0) D F G I J K L λl=>if(!M)then bV.ST l (AA B 0) false 0 0 iB iB 0 0 λs=>bV.LD s (AA B 0) λV b' f' j' n' r' v'=>R (.T #[.agg #[.B V,.U b',.U f',.S j',.S n',.I r',.I v'],.I 4]) s else∃O,Cc l n 6 (.I O)/\if(O !=o)then bV.ST l (AA B 0) false 0 0 iB iB 0 0 λu=>bV.LD u (AA B 0) λX c' g' k' o' s' w'=>R (.T #[.agg #[.B X,.U c',.U g',.S k',.S o',.I s',.I w'],.I 13]) u else bV.LD l (AA n 0) λy' z' A' B' C' D' E'=>bV.ST l (AA B 0) y' z' A' B' C' D' E' λv=>bV.LD v (AA B 0) λZ d' h' l' p' t' x'=>R (.T #[.agg #[.B Z,.U d',.U h',.S l',.S p',.I t',.I x'],.I 0]) v):Cl 138 #[.P t 0,.agg #[.B e,.U E,.U a,.S b,.S c],.I o] h R:=aR [(11,λ_=>pN 12)] Tryz.func138 S
theorem wh.walk(F:bg h (.C #[.B e,.U E,.U a,.S b,.S c] 29) λB l=>ax.LD l (AA B 0) λG I K L M=>Cl 138 #[.P t 0,.agg #[.B G,.U I,.U K,.S L,.S M],.I o] l λv z=> ∃m n p q s u w T,v=.T #[.agg #[.B m,.U n,.U p,.S q,.S s,.I u,.I w],.I T]/\bg z (.C #[.B false,.U 0,.U 0,.S iB,.S iB,.I 0,.I 0] 184) λy A=>bV.ST A (AA y 0) m n p q s u w λH=>aG (λ(C:ai)=>R (.I T) C) (λJ=>if(T==0)then∃x,Cc H t 0 (.map x)/\ax.LD H (AA B 0) λO P Q S U=>ba Tryz.prog (Builtin.delete_ #[91,29] 0 #[.map x,.agg #[.B O,.U P,.U Q,.S S,.S U]]) H λV D=>V=.T #[]/\J D else J H)):Cl 95 #[.P t 0,.agg #[.B e,.U E,.U a,.S b,.S c],.I o] h R:=aR [(7,.join []),(8,λ_=>pN 6)] Tryz.func95 F
theorem wi.walk{p:Int}(P:bg h (.C #[.B e,.U E,.U a,.S b,.S c] 29) λn G=>aG (λ(Q:Bool) (l:ai)=>if Q then R (.I 1) l else ax.LD l (AA n 0) λS U V X Z=>Cl 138 #[.P t 0,.agg #[.B S,.U U,.U V,.S X,.S Z],.I o] l λm' K=> ∃w x y z A C D T,m'=.T #[.agg #[.B w,.U x,.U y,.S z,.S A,.I C,.I D],.I T]/\bg K (.C #[.B false,.U 0,.U 0,.S iB,.S iB,.I 0,.I 0] 184) λB L=>bV.ST L (AA B 0) w x y z A C D λq=>aG (λ(M:ai)=>R (.I T) M) (λm=>if(T==0)then aJ q (AA B 5) (.I p) λH=> ∃F,Cc H t 0 (.map F)/\ax.LD H (AA n 0) λa' b' c' d' e'=>bV.LD H (AA B 0) λf' g' h' i' j' k' l'=>ba Tryz.prog (Instr.mapUpdate 91 (.map F) (.agg #[.B a',.U b',.U c',.S d',.S e']) (.agg #[.B f',.U g',.U h',.S i',.S j',.I k',.I l'])) H λ_ O=>m O else m q)) (λJ=>Cl 136 #[.P t 0] G λn' s=> ∃u,n'=.B u/\if u then Cl 140 #[.I p] s λo' I=> ∃v,o'=.B v/\J (!v) I else J false s)):Cl 97 #[.P t 0,.agg #[.B e,.U E,.U a,.S b,.S c],.I o,.I p] h R:=aR [(4,.join [(17,.one (.bool))]),(15,.join []),(18,λ_=>pN 7)] Tryz.func97 P
theorem yS.walk(O:bg h (.C #[.B e,.U E,.U a,.S b,.S c] 29) λm L=>bg L (.C #[.B false,.U 0,.U 0,.S iB,.S iB,.I 0,.I 0] 184) λB M=>Cl 136 #[.P t 0] M λo' H=> ∃K,o'=.B K/\if(!K)then bV.ST H (AA B 0) false 0 0 iB iB 0 0 λp=>bV.LD p (AA B 0) λP S V Z b' d' f'=>R (.T #[.agg #[.B P,.U S,.U V,.S Z,.S b',.I d',.I f'],.B false]) p else∃T,Cc H t 0 (.map T)/\ax.LD H (AA m 0) λu v w x y=> ∃z A C D F G I J,iM Tryz.prog 91 (.map T) (.agg #[.B u,.U v,.U w,.S x,.S y]) true H (.T #[.agg #[.B z,.U A,.U C,.S D,.S F,.I G,.I I],.B J])/\bg H (.C #[.B false,.U 0,.U 0,.S iB,.S iB,.I 0,.I 0] 184) λn l=>kO (.map T) H l/\dO (AA m 0) [.B u,.U v,.U w,.S x,.S y] 0 l/\Cc l t 0 (.map T)/\bV.ST l (AA n 0) z A C D F G I λq=>bV.LD q (AA n 0) λh' i' j' k' l' m' n'=>bV.ST q (AA B 0) h' i' j' k' l' m' n' λs=>bV.LD s (AA B 0) λQ U X a' c' e' g'=>R (.T #[.agg #[.B Q,.U U,.U X,.S a',.S c',.I e',.I g'],.B J]) s):Cl 118 #[.P t 0,.agg #[.B e,.U E,.U a,.S b,.S c]] h R:=aR [(11,λ_=>pN 12)] Tryz.func118 O

end
section
namespace gO
open jH
variable {h H:ai} {R:fM} {b:Nat} {X:Ft}
structure Rg where
 e:Ev
 lU:Int
 own:Int
abbrev Rg.zero:Rg:=⟨.zero,0,0⟩
abbrev Rg.val(r:Rg):Value:=.agg #[.bool r.e.lD,.int .u64 r.e.node,.int .u64 r.e.gL,.string r.e.host,.string r.e.jZ,.int .i64 r.lU,.int .i64 r.own]
abbrev Rg.at(h:ai)(b:Nat)(r:Rg):Prop:=bV.at h b r.e.lD r.e.node r.e.gL r.e.host r.e.jZ r.lU r.own
abbrev Rg.pair(r:Rg):Ev×Value:=(r.e,r.val)
abbrev rY(x y:Rg):Prop:=oU x.e y.e=true
theorem qq:oR Tryz.prog 91 lB Rg.zero.val:=oR.of 29 184 dA key dA
structure Nd (h:ai) (b:Nat) (X:Ft) (L:List Rg) (m:Nat):Prop where
 dh:h[b]? =some (.cells #[.map (some m)] 93 (0,0))
 map:jN h m lB (L.map Rg.pair)
 fm: ∀c,X.M c↔c=b\/c=m
 d: ∀c,¬X.D c
 ne:b≠m
 so:L.Pairwise rY
def Tb(h:ai)(b:Nat)(X:Ft)(L:List Rg):Prop:= ∃m,Nd h b X L m
variable {L : List Rg} {m : Nat}
theorem Nd.frame{Q:Nat->Prop}(a:Nd h b X L m)(f:Fr Q h H)(c: ∀y,X.M y\/X.D y->¬Q y):Nd H b X L m:=
 ⟨f.get a.dh (c b (.inl ((a.fm b).2 (.inl rfl)))),a.map.frame f (c m (.inl ((a.fm m).2 (.inr rfl)))),a.fm,a.d,a.ne,a.so⟩
theorem Nd.on(a:Nd h b X L m)(f:Fr No h H):Nd H b X L m:=a.frame f bX
theorem Tb.frame{Q:Nat->Prop}(a:Tb h b X L)(f:Fr Q h H)(c: ∀y,X.M y\/X.D y->¬Q y):Tb H b X L:=by
 obtain⟨m,a⟩:=a;exact⟨m,a.frame f c⟩
theorem Tb.on(a:Tb h b X L)(f:Fr No h H):Tb H b X L:=a.frame f bX
theorem Tb.lt(a:Tb h b X L)(y:Nat)(hy:X.M y\/X.D y):y<h.size:=by
 obtain⟨m,a⟩:=a;rcases hy with hy|hy
 .rcases(a.fm y).1 hy with rfl|rfl
  .exact aD a.dh
  .exact a.map.lt
 .exact absurd hy (a.d y)
def jc(L:List Rg)(x:Ev):Option Rg:=L.find? (λr=>decide (r.e=x))
theorem Jf{x:Ev}{r:Rg}(h:jc L x=some r):r∈L/\r.e=x:=⟨List.mem_of_find?_eq_some h,cQ (List.find?_some h)⟩
theorem Jg{x:Ev}:jc L x=none↔ ∀r∈L,r.e≠x:=by unfold jc;simp
theorem Mh(L:List Rg)(x:Ev):sQ (L.map Rg.pair) x=(jc L x).map Rg.val:=by
 unfold sQ jc;rw[List.find?_map];cases h:L.find? ((λe:Ev×Value=>decide (e.1=x)) ∘ Rg.pair)with
 |none=>have:L.find? (λr=>decide (r.e=x))=none:=h;rw[this];rfl
 |some r=>have:L.find? (λr=>decide (r.e=x))=some r:=h;rw[this];rfl
def Cr(r:Rg):List Rg->List Rg
 | []=> [r]
 |x::l=>if oU x.e r.e=true then x::Cr r l else r::x::l
theorem sK(r:Rg): ∀L:List Rg,(Cr r L).Perm (r::L)
 | []=> .refl _
 |x::l=>by
  unfold Cr;split
  .exact((sK r l).cons x).trans (List.Perm.swap r x l)
  .exact .refl _
theorem Ha{r x:Rg}:x∈Cr r L↔x=r\/x∈L:=by rw[(sK r L).mem_iff,bf]
theorem Pd(r:Rg)(L:List Rg):(Cr r L).length=L.length+1:=by rw[(sK r L).length_eq];rfl
theorem Ks{r:Rg}: ∀{L:List Rg},L.Pairwise rY->(∀x∈L,x.e≠r.e)->(Cr r L).Pairwise rY
 | [],_,_=>List.pairwise_singleton _ _
 |x::l,h,d=>by
  obtain⟨c,f⟩:=dV.1 h;unfold Cr;split
  .rename_i a;refine dV.2 ⟨λy hy=> ?_,Ks f (λy hy=>d y (cv _ hy))⟩;rcases Ha.1 hy with rfl|hy
   .exact a
   .exact c y hy
  .rename_i a;have e:oU r.e x.e=true:=(Iw (d x bU)).resolve_left a;refine dV.2 ⟨λy hy=> ?_,h⟩;rcases bf.1 hy with rfl|hy
   .exact e
   .exact Iv e (c y hy)
def Mi(L:List Rg)(x:Ev):List Rg:=L.filter (λr=> !decide (r.e=x))
def Jh(L:List Rg)(x:Ev)(p:Int):List Rg:=L.map (λr=>if r.e=x then { r with lU:=p } else r)
def iX(r:Rg):Bool:=du r.e && (!decide (r.e=Ev.zero) && (decide (r.lU≥0) && decide (r.lU<=2) && (decide (r.own≥1) && decide (r.own<=1099511627776))))
def jC(L:List Rg)(r:Rg):Int:=if iX r=false then 1 else if(jc L r.e).isSome=true then 11 else if L.length≥8 then 15 else 0
def Cs(L:List Rg)(r:Rg):List Rg:=if jC L r=0 then Cr r L else L
def jT(L:List Rg)(x:Ev)(o:Int):Int:=match jc L x with|none=>4|some r=>if r.own=o then 0 else 13
def Bm(L:List Rg)(x:Ev)(o:Int):List Rg:=if jT L x o=0 then Mi L x else L
def Mj(L:List Rg)(x:Ev)(o p:Int):Int:=if 0<=p/\p<=2 then jT L x o else 1
def Hc(L:List Rg)(x:Ev)(o p:Int):List Rg:=if Mj L x o p=0 then Jh L x p else L
theorem Bo(L:List Rg)(r:Rg):(iX r=false/\jC L r=1)\/(iX r=true/\(jc L r.e).isSome=true/\jC L r=11)\/(iX r=true/\jc L r.e=none/\L.length≥8/\jC L r=15)\/(iX r=true/\jc L r.e=none/\L.length<8/\jC L r=0):=by
 unfold jC;cases c:iX r with
 |false=>exact .inl ⟨rfl,bU⟩
 |true=>
  cases d:jc L r.e with
  |some x=>exact .inr (.inl ⟨rfl,rfl,bU⟩)
  |none=>
   by_cases a:L.length≥8
   .exact .inr (.inr (.inl ⟨rfl,rfl,a,by simp[a]⟩))
   .exact .inr (.inr (.inr ⟨rfl,rfl,ag,by simp[a]⟩))
theorem gr(a:Nd h b X L m)(c:R (.B true) h):Cl 136 #[.P b 0] h R:=yR.walk ⟨_,au a.dh,c⟩
theorem jj(d: ∀H b X,Tb H b X []->Nb h X H->R (.P b 0) H):Cl 14 #[] h R:=by
 refine Pc.walk (cS (cS ?_));have f:Fr No h (h.push (.map #[] 0)):=Fr.push _ _;have M:=jN.push (α:=Ev) h lB;have z:(h.push (.map #[] 0)).size=h.size+1:=cZ _;generalize h.push (.map #[] 0)=a at f M z⊢;have F:Fr No a (a.push (.C #[.map (some h.size)] 93)):=Fr.push _ _;refine d _ a.size ⟨λc=>c=a.size\/c=h.size,λ_=>False⟩ ⟨h.size,bZ,M.frame F id,λc=>ff,λ_=>id,ag,.nil⟩ ⟨f.tt F,λc hc=> ?_⟩;rcases hc with hc|hc
 .rcases hc with rfl|rfl<;>omega
 .exact hc.elim
theorem yj{n:Int}(a:R (.B (decide (n≥0) && decide (n<=2))) h):Cl 140 #[.I n] h R:=by
 refine Cq.walk ?_;by_cases q:n≥0
 .simp only[q,bG,bm,eu]at a⊢;exact a
 .simp only[q,bt,ar,aP,fG]at a⊢;exact a
theorem fK(r:Rg)(f: hM h R (.B (iX r))):Cl 137 #[r.val] h R:=by
 refine Je.walk (bV.box λb n E i j=> ?_);have l: ∀{g:ai}{K:Bool->Int->Int->ByteArray->ByteArray->Prop},r.at g b->K r.e.lD r.e.node r.e.gL r.e.host r.e.jZ->ax.LD g (AA b 0) K:=λa f=>⟨_,au a,_,au a,_,au a,_,au a,_,au a,f⟩
 refine l i (jH.fK r.e λk F=>⟨_,rfl,?_⟩);have c:=F.get i id;have K:=f k (j.tt F);unfold iX at K;by_cases q:du r.e=true
 .rw[af q];rw[q,eu]at K;refine l c ⟨_,yB (y:=.zero) (x:=r.e) rfl rfl,?_⟩;by_cases d:r.e=.zero
  .rw[av d,dy];rw[av d]at K;exact K
  .rw[aB d,ga];rw[aB d,ee,eu]at K;refine⟨_,au c,yj ⟨_,rfl,?_⟩⟩;by_cases Q:(decide (r.lU≥0) && decide (r.lU<=2))=true
   .rw[af Q];rw[Q,eu]at K;refine⟨_,au c,?_⟩;by_cases e:r.own≥1
    .rw[af (av e)];rw[av e,eu]at K;exact⟨_,au c,K⟩
    .rw[ae (cQ e)];rw[aB e,fG]at K;exact K
   .rw[ae Q];have Q:(decide (r.lU≥0) && decide (r.lU<=2))=false:=by simpa using Q
    rw[Q,fG]at K;exact K
 .rw[ae q];have q:du r.e=false:=by simpa using q
  rw[q,fG]at K;exact K
theorem TY{g:ai}{b:Nat}{r:Rg}{K:Bool->Int->Int->ByteArray->ByteArray->Prop}(a:r.at g b)(c:K r.e.lD r.e.node r.e.gL r.e.host r.e.jZ):ax.LD g (AA b 0) K:=
 ⟨_,au a,_,au a,_,au a,_,au a,_,au a,c⟩
theorem look(c:Nd h b X L m)(x:Ev):iM Tryz.prog 91 (.map (some m)) (lB x) true h (.T #[((jc L x).getD .zero).val,.B (jc L x).isSome]):=by
 have:=K7 qq c.map x;rw[Mh]at this;cases a:jc L x with
 |none=>rw[a]at this;exact this
 |some r=>rw[a]at this;exact this
theorem Fr.put{a d g:ai}{c:Nat}(f:Fr No a d)(l:g.size=d.size)(j: ∀x,x≠c->g[x]? =d[x]?)(k:a.size<=c):Fr No a g:=
 f.fresh (S:=λy=>y=c) ⟨ag,λy _ i=>j y i⟩ (λy e=>ag)
theorem ig(d:Tb h b X L)(x:Ev)(r: hM h R (.T #[((jc L x).getD .zero).val,.B (jc L x).isSome])):
  Cl 118 #[.P b 0,lB x] h R:=by
 obtain⟨m,d⟩:=d;refine yS.walk (ax.box λu y E c e=>bV.box λB z v i g=> ?_);have F:=e.tt g;have c:=g.get c id;have a:=d.on F;refine gr a ⟨_,rfl,?_⟩;rw[dy];refine⟨_,au a.dh,ax.ld c ⟨_,_,_,_,_,_,_,_,look a x,bV.box λk C w q f=> ?_⟩⟩;refine⟨f.2 m a.map.lt id,ax.held (f.get c id),au (f.get a.dh id),bV.set q λl A S o=>bV.ld A ?_⟩;have p:(Rg.zero).at l B:=by
  have:=f.get i id;have s:B≠k:=by have:=aD i;omega
  unfold Rg.at bV.at;rw[o B s];exact this
 have Z:=F.1;have D:=f.1;refine bV.set p λn j t O=>bV.ld j (r n ?_)
 exact Fr.put (Fr.put (F.tt f) S o ag) t O (bW e.1)
theorem xu(j:Tb h b X L)(x:Ev)(o:Int)(I: hM h R (.T #[(if jT L x o=0 then(jc L x).getD .zero else .zero).val,.I (jT L x o)])):
  Cl 138 #[.P b 0,lB x,.I o] h R:=by
 obtain⟨m,j⟩:=j;refine Bl.walk (ax.box λK P q g u=>bV.box λB Q t w F=> ?_);have v:=u.tt F;have g:=F.get g id;have c:=j.on v;refine gr c ⟨_,rfl,?_⟩;rw[dy];refine⟨_,au c.dh,ax.ld g ⟨_,_,_,_,_,_,_,_,look c x,bV.box λD T M G f=> ?_⟩⟩;refine⟨f.2 m c.map.lt id,ax.held (f.get g id),au (f.get c.dh id),bV.set G λn k S z=> ?_⟩;have p:(Rg.zero).at n B:=by
  have:=f.get w id;have J:B≠D:=by have:=aD w;omega
  unfold Rg.at bV.at;rw[z B J];exact this
 have Z:=u.1;have U:=F.1;have C:=Fr.put (v.tt f) S z ag;have l: ∀(r:Rg)(e:Int),(if jT L x o=0 then(jc L x).getD .zero else .zero)=r->jT L x o=e->∀a,r.at a B->a.size=n.size->(∀y,y≠B->a[y]? =n[y]?)->R (.T #[r.val,.I e]) a:=by
  intro r e q t a _ s O;rw[<-q,<-t];exact I a (Fr.put C s O ag)
 cases d:jc L x with
 |none=>
  have E:jT L x o=4:=by unfold jT;rw[d]
  rw[af (by rfl)];exact bV.set p λa A s O=>bV.ld A (l .zero 4 (by rw[E,dy]) E a A s O)
 |some r=>
  rw[d]at k;rw[ae bU];refine⟨_,au k,?_⟩;by_cases i:r.own=o
  .have E:jT L x o=0:=by unfold jT;rw[d];exact af i
   rw[ae (cQ i)];exact bV.ld k (bV.set p λa A s O=>bV.ld A (l r 0 (by rw[E,af rfl,d];rfl) E a A s O))
  .have E:jT L x o=13:=by unfold jT;rw[d];exact ae i
   rw[af (cQ i)];exact bV.set p λa A s O=>bV.ld A (l .zero 13 (by rw[E,dy]) E a A s O)
theorem Nd.put{l:List Rg}{d:ai}(a:Nd h b X L m)(M:jN d m lB (l.map Rg.pair))(j:d.size=h.size)(g: ∀c,c≠m->d[c]? =h[c]?)(so:l.Pairwise rY):Nd d b X l m/\bw X h X d:=by
 have f:Fr X.M h d:=⟨ag,λc _ i=>g c (λe=>i ((a.fm c).2 (.inr e)))⟩;refine⟨⟨?_,M,a.fm,a.d,a.ne,so⟩,bw.vp f⟩;rw[g b a.ne];exact a.dh
theorem Hd(L:List Rg)(x:Ev):wR (L.map Rg.pair) x=(Mi L x).map Rg.pair:=by
 unfold wR Mi;rw[dQ];rfl
theorem QS{x:Ev}(s:L.Pairwise rY):(Mi L x).Pairwise rY:=s.sublist cT
theorem QT{x:Ev}{p:Int}(s:L.Pairwise rY):(Jh L x p).Pairwise rY:=by
 unfold Jh;rw[fC];refine s.imp fun {u v} a=> ?_
 have e: ∀r:Rg,(if r.e=x then { r with lU:=p } else r:Rg).e=r.e:=λr=>by split<;>rfl
 show oU _ _=true;rw[e,e];exact a
theorem He{x:Ev}{p:Int}{r:Rg}: ∀{L:List Rg},L.Pairwise rY->r∈L->r.e=x->(Jh L x p).Perm ({ r with lU:=p } ::Mi L x)
 | [],_,h,_=>by cases h
 |y::l,s,h,e=>by
  obtain⟨c,i⟩:=dV.1 s;unfold Jh Mi;rw[cb,cu];rcases bf.1 h with rfl|h
  .rw[af e,ae (by simp[e])];refine List.Perm.cons _ ?_;have d: ∀z∈l,z.e≠x:=λz a E=>by
    have:=c z a;rw[rY,e,E,yc]at this;cases this
   have g:l.map (λr=>if r.e=x then({ r with lU:=p } :Rg)else r)=l:=by
    conv=>rhs;rw[<-List.map_id l]
    exact fb (λz a=>ae (d z a))
   have E:l.filter (λr=> !decide (r.e=x))=l:=by
    rw[cz];intro z a;simp[d z a]
   rw[g,E]
  .have f:y.e≠x:=λE=>by
    have:=c r h;rw[rY,e,E,yc]at this;cases this
   rw[ae f,af (by simp[f])];exact((He i h e).cons y).trans (List.Perm.swap _ _ _)
theorem Bi(g:Tb h b X L)(r:Rg)(hl:L.length<=8)(o: ∀H,Tb H b X (Cs L r)->bw X h X H->R (.I (jC L r)) H):
  Cl 94 #[.P b 0,r.val] h R:=by
 obtain⟨m,g⟩:=g;refine Bj.walk (bV.box λB h1 e1 n l=> ?_);have f:=g.on l;refine gr f ⟨_,rfl,?_⟩;rw[dy];refine⟨_,au f.dh,TY (r:=r) n ⟨_,_,_,_,_,_,_,_,look f r.e,bV.box λC h3 e3 G F=> ?_⟩⟩;have u:=F.get n id;refine⟨F.2 m f.map.lt id,gH u (λj a' a=> ?_),au (F.get f.dh id),bV.set G λD Z T O=> ?_⟩
 .rw[bP]
  match j,a with
  |0,a=>simpa using a
  |1,a=>simpa using a
  |2,a=>simpa using a
  |3,a=>simpa using a
  |4,a=>simpa using a
 have z1:=l.1;have z:=Fr.put (l.tt F) T O ag;have v:r.at D B:=by
  have J:B≠C:=by have:=aD n;omega
  unfold Rg.at bV.at;rw[O B J];exact u
 refine bV.ld v (fK r λs p=>⟨_,rfl,?_⟩);have i:=z.tt p;have c:=g.on i;have w:=p.get v id;have k:Cs L r=L->R (.I (jC L r)) s:=λe=>o s (by rw[e];exact⟨m,c⟩) (bw.gT i)
 rcases Bo L r with⟨Q,q⟩|⟨Q,d,q⟩|⟨Q,d,S,q⟩|⟨Q,d,S,q⟩
 .rw[Q,ga];rw[q]at k;exact k (by unfold Cs;rw[q];rfl)
 .rw[Q,dy,af d];rw[q]at k;exact k (by unfold Cs;rw[q];rfl)
 .rw[Q,dy,ae (by rw[d];simp)];refine⟨_,au c.dh,_,NF qq c.map,?_⟩;rw[aC,ga];rw[q]at k;exact k (by unfold Cs;rw[q];rfl)
 .rw[Q,dy,ae (by rw[d];simp)];refine⟨_,au c.dh,_,NF qq c.map,?_⟩;rw[aC,ae (by simp;omega)];refine⟨_,au c.dh,TY (r:=r) w (bV.ld w (zZ qq c.map (k:=r.e) λt M U P=> ?_))⟩;have E:Cs L r=Cr r L:=af q;have x:=Jg.1 d;have M:jN t m lB ((Cr r L).map Rg.pair):=by
   refine M.perm ?_;unfold FJ;rw[sB (λe I=>by obtain⟨y,K,rfl⟩:=bp.1 I;exact x y K)];exact((sK r L).map Rg.pair).symm
  obtain⟨A,V⟩:=c.put M U P (Ks c.so x);rw[E,q]at o;exact o t ⟨m,A⟩ (bw.no i V)
theorem pn(c:Tb h b X L)(x:Ev)(o:Int)(j: ∀H,Tb H b X (Bm L x o)->bw X h X H->R (.I (jT L x o)) H):
  Cl 95 #[.P b 0,lB x,.I o] h R:=by
 refine wh.walk (ax.box λB u E i f=>ax.ld i (xu (c.on f) x o λv d=>⟨_,_,_,_,_,_,_,_,rfl,bV.new λr l t w e=>aG.of λJ g=> ?_⟩));have F:=f.tt (d.tt e);have p:=(d.tt e).get i id;obtain⟨m,c⟩:=c;have a:=c.on F;by_cases q:jT L x o=0
 .rw[af (cQ q)];refine⟨_,au a.dh,ax.ld p (FL qq a.map (k:=x) λn M s O=>⟨rfl,?_⟩)⟩;subst g;rw[Hd]at M;obtain⟨k,S⟩:=a.put M s O (QS a.so);exact j n (by unfold Bm;rw[af q];exact⟨m,k⟩) (bw.no F S)
 .rw[ae (cQ q)];subst g;exact j l (by unfold Bm;rw[ae q];exact⟨m,a⟩) (bw.gT F)
theorem Ml(a:Tb h b X L)(x:Ev)(o p:Int)(c: ∀H,Tb H b X (Hc L x o p)->bw X h X H->R (.I (Mj L x o p)) H):
  Cl 97 #[.P b 0,lB x,.I o,.I p] h R:=by
 refine wi.walk (ax.box λB d e1 k f=>aG.of λJ g=> ?_);have D:=a;obtain⟨m,a⟩:=a;have n:=a.on f;refine gr n ⟨_,rfl,?_⟩;rw[af rfl];refine yj ⟨_,rfl,?_⟩;subst g;by_cases Q:0<=p/\p<=2
 .have E:(decide (p≥0) && decide (p<=2))=true:=by simp[Q.1,Q.2]
  have e:Mj L x o p=jT L x o:=af Q;rw[E];dsimp only;rw[dy];refine ax.ld k (xu (D.on f) x o λu j=>⟨_,_,_,_,_,_,_,_,rfl,bV.new λs P e3 y t=>aG.of λJ g=> ?_⟩);have F:=f.tt (j.tt t);have S:=(j.tt t).get k id;have G:=a.on F;rw[e]at c;by_cases q:jT L x o=0
  .rw[af (cQ q)];obtain⟨r,z⟩: ∃r,jc L x=some r:=by
    cases U:jc L x with
    |none=>unfold jT at q;rw[U]at q;cases q
    |some r=>exact⟨r,rfl⟩
   rw[af q,z]at y;obtain⟨Z,C⟩:=Jf z;refine bk y bU λv A s4 O=> ?_
   have z1:=f.1;have z2:=j.1;have l:=Fr.put F s4 O ag;have i:=a.on l;have T:Ev.at v B x:=by
    have V:B≠s:=by have:=aD k;omega
    unfold Ev.at ax.at;rw[O B V];exact S
   have A:({ r with lU:=p } :Rg).at v s:=A;refine⟨_,au i.dh,ax.ld T (bV.ld A (zZ qq i.map (k:=x) λw M s5 o5=> ?_))⟩;have M:jN w m lB ((Jh L x p).map Rg.pair):=by
    refine M.perm ?_;unfold FJ;rw[Hd];have:=((He (p:=p) a.so Z C).map Rg.pair).symm;rw[cb]at this;have K:(x,({ r with lU:=p } :Rg).val)=({ r with lU:=p } :Rg).pair:=by rw[<-C]
    rw[show((x,Value.agg #[.B r.e.lD,.U r.e.node,.U r.e.gL,.S r.e.host,.S r.e.jZ,.I p,.I r.own]):Ev×Value)=({ r with lU:=p } :Rg).pair from K];exact this
   obtain⟨I,st⟩:=i.put M s5 o5 (QT a.so);subst g;exact c w (by unfold Hc;rw[e,af q];exact⟨m,I⟩) (bw.no l st)
  .rw[ae (cQ q)];subst g;exact c P (by unfold Hc;rw[e,ae q];exact⟨m,G⟩) (bw.gT F)
 .have E:(decide (p≥0) && decide (p<=2))=false:=by
   rw[Bool.and_eq_false_iff];by_cases d:p≥0
   .exact .inr (aB (λu=>Q ⟨d,u⟩))
   .exact .inl (aB d)
  have e:Mj L x o p=1:=ae Q;rw[E];dsimp only;rw[ga];rw[e]at c;exact c d (by unfold Hc;rw[e,dy];exact⟨m,n⟩) (bw.gT f)
end gO
end
section
variable {h:ai} {R:fM}
variable {t s S D g:Nat} {n E a v f num:Int} {d i:ct} {e:Bool} {b c:ByteArray}
theorem Ji.walk(o:bg h (.map #[] 0) λB H=>Cl 30 #[] H λV k=>Vp V λT=>Cl 30 #[] k λq l=>Vp q λp=>bg l (.C #[.map (some B),.I 1,.I 0,.I 0,.I 0,.pointer T,.pointer p] 98) λj m=>R (.P j 0) m):Cl 15 #[] h R:=aR [] Tryz.func15 o
theorem wj.walk(H: ∃T,Cc h t 0 (.map T)/\R (.B (!T.isNone)) h):Cl 58 #[.P t 0] h R:=aR [] Tryz.func58 H
theorem rZ.walk(P:Cl 58 #[.P t 0] h λa' H=>Vb a' λZ=>aG (λ(x:ct) (w u:Nat) (C:ai)=>Cl 217 #[.L x w u] C λb' F=>b'=.T #[]/\R (.L x w u) F) (λJ=>if Z then∃y,Cc H t 0 (.map y)/\ba Tryz.prog (Instr.range 94 (.map y)) H λc' G=> ∃(l:Nat),c'=.P l 0/\∃(I:ct->Nat->Nat->ai->Prop)(M:ct->Nat->Nat->ai->Nat),I none 0 0 G/\∀(j:ct)(O o:Nat)(k:ai),I j O o k->ba Tryz.prog (Instr.next (.P l 0) false 0) k λV q=>(V=.T #[.B false]/\J j O o q)\/(∃(Q U:Value),V=.T #[.B true,Q,U]/\ba Tryz.prog (Instr.entry (.P l 0)) q λd' K=> ∃(z X:Value),d'=.T #[z,X]/\∃A,z=.I A/\bg K (.C #[.I A] 3) λB L=>ba Tryz.prog (Builtin.append_ #[113,113] 113 #[.L j O o,.L (Sa B 0) 1 1]) L λe' r=> ∃p m T,e'=.L p m T/\(I p m T r/\M p m T r<M j O o k))else J none 0 0 H)):Cl 180 #[.P t 0] h R:=aR [(7,.join [(3,.one (.slice))]),(11,.loop [(3,.one (.slice))]),(20,λ_=> .typed [(15,.one (.int .i64))])] Tryz.func180 P
theorem wk.walk{C:Nat}{j:Nat}(H:Hp h C 0 λF=>aN F λA=> ∃l,aT h A=some (.map l)/\∃T,iM Tryz.prog 94 (.map l) (.I n) false h (.pointer T)/\aN T λm=>ax.LD h (m.add 1) λo p q r u=>ax.LD h (AA j 0) λw x y z B=> ∃(k:Bool),BW Tryz.prog 29 (.agg #[.B o,.U p,.U q,.S r,.S u]) (.agg #[.B w,.U x,.U y,.S z,.S B]) k/\R (.B (!k)) h):Cl 181 #[.I n,.P C 0,.P j 0] h R:=aR [(3,λ_=>pN 12)] Tryz.func181 H
theorem mR.of.walk{l:Nat}{m:Nat}(C:Cl 216 #[.L d s S,.func (.func 181) #[] #[.P l 0,.P m 0]] h λV p=> ∃T,V=.I T/\if(T==(-1))then R (.L d s S) p else∃(I:Int->Int->ai->Prop)(M:Int->Int->ai->Nat),I T (wrap .i64 (T+1)) p/\∀(k:Int)(j:Int)(H:ai),I k j H->if(decide (j<(s:Int)))then aG (λ(u:Int) (q:ai)=>(I u (wrap .i64 (j+1)) q/\M u (wrap .i64 (j+1)) q<M k j H)) (λJ=>Bd j s/\aN d λA=>kL H (A.add (toNat j*1)) λw=>Cl 181 #[.I w,.P l 0,.P m 0] H λK r=>Vb K λG=>aG (λ(F:Int) (y:ai)=>J F y) (λo=>if(!G)then Bd k s/\aN d λx=>aJ r (x.add (toNat k*1)) (.I w) λz=>o (wrap .i64 (k+1)) z else o k r))else((0:Int)<=k/\k<=(s:Int))/\ba Tryz.prog (Builtin.clear_ #[113] 0 #[.L (cY d S (toNat k) 1) (s - (toNat k)) (S - (toNat k))]) H λL B=>L=.T #[]/\((0:Int)<=k/\k<=(S:Int))/\R (.L (cY d S 0 1) ((toNat k) - 0) (S - 0)) B):Cl 179 #[.L d s S,.func (.func 181) #[] #[.P l 0,.P m 0]] h R:=aR [(16,.loop [(5,.one (.int .i64)),(6,.one (.int .i64))]),(24,.join [(5,.one (.int .i64))]),(29,.join [(5,.one (.int .i64))])] Tryz.func179 C
theorem iH.of.walk{F:Nat}{k:Nat}(o: ∃(I:Int->ai->Prop)(m:Int->ai->Nat),I 0 h/\∀(T:Int)(H:ai),I T H->if(decide (T<(s:Int)))then Bd T s/\aN d λA=>kL H (A.add (toNat T*1)) λp=>Cl 181 #[.I p,.P F 0,.P k 0] H λV j=> ∃l,V=.B l/\if l then R (.I T) j else(I (wrap .i64 (T+1)) j/\m (wrap .i64 (T+1)) j<m T H)else R (.I (-1)) H):Cl 216 #[.L d s S,.func (.func 181) #[] #[.P F 0,.P k 0]] h R:=aR [(6,.loop [(8,.one (.int .i64))])] Tryz.func216 o
theorem yT.walk(q:bg h (.C #[.P t 0] 59) λB m=>bg m (.C #[.B e,.U E,.U a,.S b,.S c] 29) λl H=>Hp H B 0 λr=>Cl 180 #[.pointer r] H λV o=>Vl V λx w u=>Cl 179 #[.L x w u,.func (.func 181) #[] #[.P B 0,.P l 0]] o λy p=> ∃k j T,y=.L k j T/\R (.L k j T) p):Cl 139 #[.P t 0,.agg #[.B e,.U E,.U a,.S b,.S c]] h R:=aR [] Tryz.func139 q
theorem uz.walk(y:bg h (.C #[.B e,.U E,.U a,.S b,.S c] 29) λB k=>ax.LD k (AA B 0) λK L M O P=>Cl 139 #[.P t 0,.agg #[.B K,.U L,.U M,.S O,.S P]] k λV w=>Vl V λC p _=> ∃(I:Int->Int->ai->Prop)(m:Int->Int->ai->Nat),I 0 0 w/\∀(n:Int)(T:Int)(H:ai),I n T H->if(decide (T<(p:Int)))then aG (λ(o:Int) (l:ai)=>(I o (wrap .i64 (T+1)) l/\m o (wrap .i64 (T+1)) l<m n T H)) (λJ=>Bd T p/\aN C λA=>kL H (A.add (toNat T*1)) λF=> ∃q,Cc H t 0 (.map q)/\∃r,iM Tryz.prog 94 (.map q) (.I F) false H (.pointer r)/\aN r λu=>kL H (u.add 8) λG=>aG (λ(z:Int) (x:ai)=>J z x) (λj=>if(G==0)then j (wrap .i64 (n+1)) H else j n H))else R (.I n) H):Cl 100 #[.P t 0,.agg #[.B e,.U E,.U a,.S b,.S c]] h R:=aR [(8,.loop [(5,.one (.int .i64)),(12,.one (.int .i64))]),(16,.join [(5,.one (.int .i64))]),(21,.join [(5,.one (.int .i64))])] Tryz.func100 y
theorem Cu.walk(l:bg h (.C #[.B e,.U E,.U a,.S b,.S c] 29) λB k=>ax.LD k (AA B 0) λu w x y z=>Cl 29 #[.agg #[.B u,.U w,.U x,.S y,.S z]] k λV H=> ∃T,V=.B T/\if T then ax.LD H (AA B 0) λm o p q r=> ∃(j:Bool),BW Tryz.prog 29 (.agg #[.B m,.U o,.U p,.S q,.S r]) (.agg #[.B false,.U 0,.U 0,.S iB,.S iB]) j/\if(!j)then if(decide ((D:Int)≥1))then if(decide ((D:Int)<=600))then R (.B (decide (v<=1099511627776))) H else R (.B false) H else R (.B false) H else R (.B false) H else R (.B false) H):Cl 171 #[.agg #[.B e,.U E,.U a,.S b,.S c],.L i D g,.U v] h R:=aR [] Tryz.func171 l
theorem xz.walk(K:bg h (.C #[.B e,.U E,.U a,.S b,.S c] 29) λB I=>Cl 58 #[.P t 0] I λi' k=> ∃z,i'=.B z/\if(!z)then R (.T #[.I 0,.I 6]) k else ax.LD k (AA B 0) λL M O P Q=>Cl 171 #[.agg #[.B L,.U M,.U O,.S P,.S Q],.L i D g,.U v] k λj' l=> ∃A,j'=.B A/\if(!A)then R (.T #[.I 0,.I 1]) l else ax.LD l (AA B 0) λU V X Z a'=>Cl 139 #[.P t 0,.agg #[.B U,.U V,.U X,.S Z,.S a']] l λk' H=> ∃c' C b',k'=.L c' C b'/\if(decide (((C:Nat):Int)≥16))then R (.T #[.I 0,.I 15]) H else Hi H t 1 λT=> ∃F,Cc H t 1 (.I F)/\aJ H (AA t 1) (.I (wrap .i64 (F+1))) λm=> ∃j,Cc m t 0 (.map j)/\ax.LD m (AA B 0) λq r u w x=>Cl 54 #[.L i D g] m λl' o=>Vl l' λf' e' d'=>dO (AA B 0) [.B q,.U r,.U u,.S w,.S x] 0 o/\Cc o t 0 (.map j)/\bg o (.C #[.I T,.B q,.U r,.U u,.S w,.S x,.L f' e' d',.U v,.I 0,.U 0] 168) λG p=>dO (AA B 0) [.B q,.U r,.U u,.S w,.S x] 0 p/\Cc p t 0 (.map j)/\ba Tryz.prog (Instr.mapUpdate 94 (.map j) (.I T) (.P G 0)) p λ_ y=>Hp y t 5 λg'=>Cl 172 #[.pointer g',.I T,.U v] y λm' J=> ∃h',m'=.I h'/\R (.T #[.I T,.I 0]) J):Cl 122 #[.P t 0,.agg #[.B e,.U E,.U a,.S b,.S c],.L i D g,.U v] h R:=aR [(28,λ_=> .qV (.op 0 (.op 1 (.op 2 (.op 3 (.op 4 (.op 5 (.op 6 (.op 7 (.op 9 (.op 8 (.op 10 (.op 11 (.op 12 .done))))))))))))))] Tryz.func122 K
theorem xA.walk(H:if(decide (n≥1))then R (.B (decide (n<=1099511627776))) h else R (.B false) h):Cl 187 #[.I n] h R:=aR [] Tryz.func187 H
theorem uB.walk{k:Int}(hv:bg h (.C #[.B e,.U E,.U a,.S b,.S c] 29) λd' e'=>bg e' (.C #[.I 0,.B false,.U 0,.U 0,.S iB,.S iB,.Z,.U 0,.I 0,.U 0] 168) λB h'=>Cl 58 #[.P t 0] h' λe4 y=> ∃C,e4=.B C/\if(!C)then aQ.ST y (AA B 0) 0 false 0 0 iB iB none 0 0 0 0 0 λz=>aQ.LD z (AA B 0) λk' o' s' w' A' E' R' M' I' V' a1 a5=>R (.T #[.agg #[.I k',.B o',.U s',.U w',.S A',.S E',.L R' M' I',.U V',.I a1,.U a5],.I 6]) z else aG (λ(a9:Bool) (m:ai)=>if a9 then aQ.ST m (AA B 0) 0 false 0 0 iB iB none 0 0 0 0 0 λA=>aQ.LD A (AA B 0) λl' p' t' x' B' F' S' O' J' X' a2 a6=>R (.T #[.agg #[.I l',.B p',.U t',.U x',.S B',.S F',.L S' O' J',.U X',.I a2,.U a6],.I 1]) A else ax.LD m (AA d' 0) λb0 b1 b2 b3 b4=>Cl 139 #[.P t 0,.agg #[.B b0,.U b1,.U b2,.S b3,.S b4]] m λe5 i'=>Vl e5 λb5 G _=> ∃(I:Int->ai->Prop)(M:Int->ai->Nat),I 0 i'/\∀(T:Int)(H:ai),I T H->if(decide (T<(G:Int)))then Bd T G/\aN b5 λV=>kL H (V.add (toNat T*1)) λK=> ∃L,Cc H t 0 (.map L)/\∃j,iM Tryz.prog 94 (.map L) (.I K) false H (.pointer j)/\aN j λX=> ∃O,aT H (X.add 8)=some (.I O)/\if(O==0)then aN j λZ=>aJ H (Z.add 8) (.I f) λj'=>aN j λa'=>aJ j' (a'.add 9) (.U k) λo=>Hp o t 6 λb6=>Cl 172 #[.pointer b6,.I K,.U k] o λe6 p=>Vi e6 λ_=>aN j λb'=>aQ.LD p b' λb7 b8 b9 c0 c1 c2 c5 c4 c3 c6 c7 c8=>bg p (.C #[.I 0,.B false,.U 0,.U 0,.S iB,.S iB,.Z,.U 0,.I 0,.U 0] 168) λl f'=>aQ.ST f' (AA l 0) b7 b8 b9 c0 c1 c2 c5 c4 c3 c6 c7 c8 λq=>aN j λc'=>oL q (c'.add 6) λd1 d0 c9=>Cl 54 #[.L d1 d0 c9] q λe7 g'=> ∃U Q P,e7=.L U Q P/\aJ g' (AA l 6) (.L U Q P) λr=>aQ.LD r (AA l 0) λd2 d3 d4 d5 d6 d7 e0 d9 d8 e1 e2 e3=>aQ.ST r (AA B 0) d2 d3 d4 d5 d6 d7 e0 d9 d8 e1 e2 e3 λu=>aQ.LD u (AA B 0) λm' q' u' y' C' G' T' P' K' Z' a3 a7=>R (.T #[.agg #[.I m',.B q',.U u',.U y',.S C',.S G',.L T' P' K',.U Z',.I a3,.U a7],.I 0]) u else(I (wrap .i64 (T+1)) H/\M (wrap .i64 (T+1)) H<M T H)else aQ.ST H (AA B 0) 0 false 0 0 iB iB none 0 0 0 0 0 λw=>aQ.LD w (AA B 0) λn' r' v' z' D' H' U' Q' L' a0 a4 a8=>R (.T #[.agg #[.I n',.B r',.U v',.U z',.S D',.S H',.L U' Q' L',.U a0,.I a4,.U a8],.I 4]) w) (λJ=>Cl 187 #[.I f] y λe8 x=> ∃F,e8=.B F/\if(!F)then J true x else J (decide (k>1099511627776)) x)):Cl 146 #[.P t 0,.agg #[.B e,.U E,.U a,.S b,.S c],.I f,.U k] h R:=aR [(11,.join [(19,.one (.bool))]),(21,.loop [(32,.one (.int .i64))])] Tryz.func146 hv
theorem wm.walk(z:Cl 58 #[.P t 0] h λV H=> ∃T,V=.B T/\if(!T)then R (.T #[.pointer none,.I 6]) H else∃k,Cc H t 0 (.map k)/\∃l,iM Tryz.prog 94 (.map k) (.I num) false H (.pointer l)/\if l.isNone then R (.T #[.pointer none,.I 4]) H else aG (λ(B:Bool) (j:ai)=>if B then R (.T #[.pointer none,.I 14]) j else∃w,Cc j t 0 (.map w)/\∃x,iM Tryz.prog 94 (.map w) (.I num) false j (.pointer x)/\R (.T #[.pointer x,.I 0]) j) (λJ=> ∃m,Cc H t 0 (.map m)/\∃o,iM Tryz.prog 94 (.map m) (.I num) false H (.pointer o)/\aN o λA=> ∃p,aT H (A.add 8)=some (.I p)/\if(p==0)then J true H else∃q,Cc H t 0 (.map q)/\∃r,iM Tryz.prog 94 (.map q) (.I num) false H (.pointer r)/\aN r λy=> ∃u,aT H (y.add 8)=some (.I u)/\J (u !=f) H)):Cl 154 #[.P t 0,.I num,.I f] h R:=aR [(17,.join [(20,.one (.bool))])] Tryz.func154 z
theorem wo.walk(q:Hp h t 6 λr=>Cl 81 #[.pointer r,.I n] h λV H=>Vi V λ_=> ∃T,Cc H t 0 (.map T)/\∃j,iM Tryz.prog 94 (.map T) (.I n) false H (.pointer j)/\∃k,Cc H t 0 (.map k)/\∃l,iM Tryz.prog 94 (.map k) (.I n) false H (.pointer l)/\aN j λA=>aJ H (A.add 8) (.I 0) λo=>aN l λm=>aJ o (m.add 9) (.U 0) λp=>R (.T #[]) p):Cl 61 #[.P t 0,.I n] h R:=aR [(2,λ_=>pN 18)] Tryz.func61 q
theorem tC.walk(l:Hp h t 6 λo=>Cl 81 #[.pointer o,.I n] h λV H=>Vi V λ_=>Hp H t 5 λm=>Cl 81 #[.pointer m,.I n] H λp j=>Vi p λ_=> ∃T,Cc j t 0 (.map T)/\ba Tryz.prog (Builtin.delete_ #[94,3] 0 #[.map T,.I n]) j λq k=>q=.T #[]/\R (.T #[]) k):Cl 60 #[.P t 0,.I n] h R:=aR [] Tryz.func60 l
theorem xB.walk(o:Cl 154 #[.P t 0,.I num,.I f] h λV H=> ∃p T,V=.T #[.pointer p,.I T]/\aG (λ(l:ai)=>R (.I T) l) (λJ=>if(T==0)then Cl 60 #[.P t 0,.I num] H λq j=>q=.T #[]/\∃k,Cc j t 2 (.I k)/\aJ j (AA t 2) (.I (wrap .i64 (k+1))) λm=>J m else J H)):Cl 150 #[.P t 0,.I num,.I f] h R:=aR [(7,.join [])] Tryz.func150 o
theorem r8.walk(l:Cl 154 #[.P t 0,.I num,.I f] h λV H=> ∃m T,V=.T #[.pointer m,.I T]/\aG (λ(j:ai)=>R (.I T) j) (λJ=>if(T==0)then Cl 61 #[.P t 0,.I num] H λo k=>o=.T #[]/\J k else J H)):Cl 104 #[.P t 0,.I num,.I f] h R:=aR [(7,.join [])] Tryz.func104 l
theorem wu.walk{o:Int}(J:Cl 58 #[.P t 0] h λV m=> ∃x,V=.B x/\if(!x)then R (.Z) m else Hp m t 5 λK=>Cl 59 #[.pointer K,.U o] m λX F=>Vl X λy p L=> ∃(I:Int->ai->Prop)(M:Int->ai->Nat),I 0 F/\∀(T:Int)(H:ai),I T H->if(decide (T<(p:Int)))then Bd T p/\aN y λB=>kL H (B.add (toNat T*1)) λO=>Cl 60 #[.P t 0,.I O] H λZ q=>Z=.T #[]/\∃z,Cc q t 3 (.I z)/\aJ q (AA t 3) (.I (wrap .i64 (z+1))) λr=>(I (wrap .i64 (T+1)) r/\M (wrap .i64 (T+1)) r<M T H)else Hp H t 6 λP=>Cl 59 #[.pointer P,.U o] H λa' G=>Vl a' λQ A _=> ∃(l:Int->ai->Prop)(w:Int->ai->Nat),l 0 G/\∀(j:Int)(k:ai),l j k->if(decide (j<(A:Int)))then Bd j A/\aN Q λC=>kL k (C.add (toNat j*1)) λU=>Cl 61 #[.P t 0,.I U] k λb' u=>b'=.T #[]/\(l (wrap .i64 (j+1)) u/\w (wrap .i64 (j+1)) u<w j k)else R (.L y p L) k):Cl 39 #[.P t 0,.U o] h R:=aR [(16,.loop [(21,.one (.int .i64))]),(35,.loop [(43,.one (.int .i64))])] Tryz.func39 J
theorem wv.walk(r:bg h (.C #[.B e,.U E,.U a,.S b,.S c] 29) λB k=>ax.LD k (AA B 0) λx y z C F=>Cl 139 #[.P t 0,.agg #[.B x,.U y,.U z,.S C,.S F]] k λV q=>Vl V λo j u=> ∃(I:Int->ai->Prop)(M:Int->ai->Nat),I 0 q/\∀(T:Int)(H:ai),I T H->if(decide (T<(j:Int)))then Bd T j/\aN o λA=>kL H (A.add (toNat T*1)) λw=>Cl 60 #[.P t 0,.I w] H λG l=>G=.T #[]/\∃p,Cc l t 4 (.I p)/\aJ l (AA t 4) (.I (wrap .i64 (p+1))) λm=>(I (wrap .i64 (T+1)) m/\M (wrap .i64 (T+1)) m<M T H)else R (.L o j u) H):Cl 96 #[.P t 0,.agg #[.B e,.U E,.U a,.S b,.S c]] h R:=aR [(8,.loop [(13,.one (.int .i64))])] Tryz.func96 r
theorem xC.walk(Q:Cl 180 #[.P t 0] h λz' J=>Vl z' λy' A _=> ∃(I:ct->Nat->Nat->Int->ai->Prop)(M:ct->Nat->Nat->Int->ai->Nat),I none 0 0 0 J/\∀(j:ct)(O o:Nat)(T:Int)(H:ai),I j O o T H->if(decide (T<(A:Int)))then Bd T A/\aN y' λC=>kL H (C.add (toNat T*1)) λU=> ∃u,Cc H t 0 (.map u)/\∃w,iM Tryz.prog 94 (.map u) (.I U) false H (.pointer w)/\aN w λF=>aQ.LD H F λV X Z a' b' c' f' e' d' g' h' i'=>bg H (.C #[.I 0,.B false,.U 0,.U 0,.S iB,.S iB,.Z,.U 0,.I 0,.U 0] 168) λB K=>aQ.ST K (AA B 0) V X Z a' b' c' f' e' d' g' h' i' λp=>Hl p B 6 λl' k' j'=>Cl 54 #[.L l' k' j'] p λA' L=> ∃z y x,A'=.L z y x/\aJ L (AA B 6) (.L z y x) λq=>aQ.LD q (AA B 0) λm' n' o' p' q' r' u' t' s' v' w' x'=>bg q (.C #[.I m',.B n',.U o',.U p',.S q',.S r',.L u' t' s',.U v',.I w',.U x'] 168) λG P=>ba Tryz.prog (Builtin.append_ #[244,244] 244 #[.L j O o,.L (Sa G 0) 1 1]) P λB' r=> ∃m l k,B'=.L m l k/\(I m l k (wrap .i64 (T+1)) r/\M m l k (wrap .i64 (T+1)) r<M j O o T H)else R (.L j O o) H):Cl 149 #[.P t 0] h R:=aR [(8,.loop [(3,.one (.slice)),(10,.one (.int .i64))])] Tryz.func149 Q

end
section
open Go.kV
namespace gZ
open jH cg
variable {h h':ai} {t:Nat} {X:Ft}
structure Cp where
 num:Nat
 e:Ev
 d:cG
 fR:Nat
 ses:Int
 dl:Nat
structure CV where
 num:Nat
 b:Nat
 e:Ev
 v:BV
 fR:Nat
 ses:Int
 dl:Nat
def CV.abs(x:CV):Cp:=⟨x.num,x.e,x.v.b,x.fR,x.ses,x.dl⟩
abbrev CV.at(h:ai)(b:Nat)(x:CV):Prop:=aQ.at h b (x.num:Int) x.e.lD x.e.node x.e.gL x.e.host x.e.jZ x.v.p x.v.b.length x.v.c (x.fR:Int) x.ses (x.dl:Int)
structure CF where
 L:List Cp
 next:Nat
 gF:Nat
 over:Nat
 gone:Nat
 E1:List E
 E2:List E
abbrev gI(b:Int):Value:=.int .i64 b
theorem Vq:CQ Tryz.prog 3 gI:=⟨λc b h=>dA,λe c h=>dA,by
 have H:Tryz.prog.underlying 3=some (.int .i64):=dA
 exact⟨_,H,λc b=> .inr rfl⟩,λc=>by simp[Instr.sameBits]⟩
theorem qq:oR Tryz.prog 94 gI (.pointer none):=oR.of 3 169 dA Vq dA
abbrev CV.pair(x:CV):Int×Value:=((x.num:Int),.pointer (some ⟨x.b,0,none⟩))
structure Cm (h:ai) (t:Nat) (X:Ft) (s:CF) (m:Nat) (a:List CV) (A:Nat) (g:Nat->Prop) (f:Nat) (i:Nat->Prop) (l:Nat->Option Nat):Prop where
 dh:h[t]? =some (.cells #[.map (some m),.int .i64 (s.next:Int),.int .i64 (s.gF:Int),.int .i64 (s.over:Int),.int .i64 (s.gone:Int),.pointer (some ⟨A,0,none⟩),.pointer (some ⟨f,0,none⟩)] 98 (0,0))
 map:jN h m gI (a.map CV.pair)
 Hf: ∀x∈a,x.at h x.b
 abs:a.map CV.abs=s.L
 EH: ∀x∈a,x.v.ok h X.D
 Jj:Al h A g s.E1
 Jk:Al h f i s.E2
 l0:l t=some 0
 l1:l m=some 1
 l2: ∀c,g c->l c=some 2
 l3: ∀c,i c->l c=some 3
 l4: ∀x∈a,l x.b=some (4+x.num)
 mm: ∀c,X.M c↔l c≠none
 dd: ∀c,X.D c->l c=none/\c<h.size
 Fm: ∀c,l c≠none->c<h.size
 so:(a.map CV.num).Pairwise (· < ·)
def Ct(h:ai)(t:Nat)(X:Ft)(s:CF):Prop:= ∃m a A g f i l,Cm h t X s m a A g f i l
variable {s s' : CF} {m A f : Nat} {a : List CV} {g i n j : Nat → Prop} {l : Nat → Option Nat}
structure Kept (h':ai) (t:Nat) (X:Ft) (s:CF) (m:Nat) (a:List CV) (A:Nat) (g:Nat->Prop) (f:Nat) (i:Nat->Prop) (k:Nat):Prop where
 dh:k≠0->h'[t]? =some (.cells #[.map (some m),.int .i64 (s.next:Int),.int .i64 (s.gF:Int),.int .i64 (s.over:Int),.int .i64 (s.gone:Int),.pointer (some ⟨A,0,none⟩),.pointer (some ⟨f,0,none⟩)] 98 (0,0))
 map:k≠1->jN h' m gI (a.map CV.pair)
 Jj:k≠2->Al h' A g s.E1
 Jk:k≠3->Al h' f i s.E2
 Hf: ∀x∈a,k≠4+x.num->x.at h' x.b
 EH: ∀x∈a,x.v.ok h' X.D
theorem Cm.vX{Q:Nat->Prop}{k:Nat}(H:Cm h t X s m a A g f i l)(F:Fr Q h h')(r: ∀c,Q c->c<h.size->l c=some k):Kept h' t X s m a A g f i k:=by
 have o: ∀{c J:Nat},c<h.size->l c=some J->k≠J->¬Q c:=λd u b p=>b (by have:=r _ p d;rw[u]at this;exact(aZ this).symm)
 refine⟨λb=>F.get H.dh (o (aD H.dh) H.l0 b),λb=>H.map.frame F (o H.map.lt H.l1 b),λb=> ?_,λb=> ?_,λx e b=>F.get (H.Hf x e) (o (aD (H.Hf x e)) (H.l4 x e) b),λx e=> ?_⟩
 .exact H.Jj.frame F (λc d=>o (H.Jj.lt d) (H.l2 c d) b)
 .exact H.Jk.frame F (λc d=>o (H.Jk.lt d) (H.l3 c d) b)
 .refine(H.EH x e).frame F (λc d p=> ?_);have:=H.dd c d;have q:=r c p this.2;rw[this.1]at q;cases q
theorem Cm.frame{Q:Nat->Prop}(H:Cm h t X s m a A g f i l)(F:Fr Q h h')(k: ∀y,X.M y\/X.D y->¬Q y):Cm h' t X s m a A g f i l:=by
 have d: ∀{c J:Nat},l c=some J->¬Q c:=λo=>k _ (.inl ((H.mm _).2 (by rw[o];simp)))
 exact⟨F.get H.dh (d H.l0),H.map.frame F (d H.l1),λx e=>F.get (H.Hf x e) (d (H.l4 x e)),H.abs,λx e=>(H.EH x e).frame F (λc b=>k c (.inr b)),
  H.Jj.frame F (λc b=>d (H.l2 c b)),H.Jk.frame F (λc b=>d (H.l3 c b)),H.l0,H.l1,H.l2,H.l3,H.l4,H.mm,λc b=>⟨(H.dd c b).1,cK (H.dd c b).2 F.1⟩,λc b=>cK (H.Fm c b) F.1,H.so⟩
theorem Cm.on(H:Cm h t X s m a A g f i l)(F:Fr No h h'):Cm h' t X s m a A g f i l:=H.frame F bX
theorem Ct.frame{Q:Nat->Prop}(H:Ct h t X s)(F:Fr Q h h')(b: ∀y,X.M y\/X.D y->¬Q y):Ct h' t X s:=by
 obtain⟨m,a,A,g,f,i,l,H⟩:=H;exact⟨m,a,A,g,f,i,l,H.frame F b⟩
theorem Ct.on(H:Ct h t X s)(F:Fr No h h'):Ct h' t X s:=H.frame F bX
theorem Ct.lt(H:Ct h t X s)(y:Nat)(hy:X.M y\/X.D y):y<h.size:=by
 obtain⟨m,a,A,g,f,i,l,H⟩:=H;rcases hy with hy|hy
 .exact H.Fm y ((H.mm y).1 hy)
 .exact(H.dd y hy).2
theorem Cm.step{Q:Nat->Prop}{k:Nat}(H:Cm h t X s m a A g f i l)(F:Fr Q h h')(e: ∀c,Q c->c<h.size->l c=some k):bw X h X h':=
 bw.vp (F.mono λc d b=>(H.mm c).2 (by rw[e c b d];simp))
theorem Cm.field(H:Cm h t X s m a A g f i l)(q:s'.L=s.L)(o:s'.E1=s.E1)(p:s'.E2=s.E2)(r:h'[t]? =some (.C #[.map (some m),.I (s'.next:Int),.I (s'.gF:Int),.I (s'.over:Int),.I (s'.gone:Int),.P A 0,.P f 0] 98 (0,0)))(k:h'.size=h.size)(v: ∀x,x≠t->h'[x]? =h[x]?):Cm h' t X s' m a A g f i l/\bw X h X h':=by
 have F:Fr (λc=>c=t) h h':=⟨ag,λc _ u=>v c u⟩;have d: ∀c,c=t->c<h.size->l c=some 0:=λc e _=>by rw[e];exact H.l0
 have K:=H.vX F d;refine⟨⟨r,K.map ag,λx w=>K.Hf x w ag,H.abs.trans q.symm,K.EH,by rw[o];exact K.Jj ag,by rw[p];exact K.Jk ag,H.l0,H.l1,H.l2,H.l3,H.l4,H.mm,λc b=>by rw[k];exact H.dd c b,λc b=>by rw[k];exact H.Fm c b,H.so⟩,H.step F d⟩
def Pe(l:Nat->Option Nat)(S:Nat->Prop)[DecidablePred S](k:Nat):Nat->Option Nat:=λc=>if S c then some k else l c
theorem Cm.Jl{w:List E}(H:Cm h t X s m a A g f i l)(v:Al h' f j w)(r: ∀c,j c->i c\/h.size<=c)(F:Fr i h h')(C:s'.L=s.L)(y:s'.E1=s.E1)(B:s'.E2=w)(o:s'.next=s.next/\s'.gF=s.gF/\s'.over=s.over/\s'.gone=s.gone):
  ∃q L,Cm h' t q s' m a A g f j L/\bw X h q h'/\∀c,q.M c->X.M c\/j c:=by
 classical
 have G: ∀c,i c->c<h.size->l c=some 3:=λc b _=>H.l3 c b
 have K:=H.vX F G;have z:=F.1
 let L:=Pe l j 3
 have p: ∀{c J:Nat},l c=some J->J≠3->L c=some J:=fun {c J} k D=>by
  show(if j c then some 3 else l c)=some J;rw[ae]
  .exact k
  .intro b;rcases r c b with h3|h3
   .rw[H.l3 c h3]at k;exact D (aZ k).symm
   .have:=H.Fm c (by rw[k];simp);omega
 have u: ∀c,L c≠none->l c≠none\/j c:=λc b=>by
  by_cases d:j c
  .exact .inr d
  .refine .inl ?_;have e:L c=l c:=ae d;rwa[e]at b
 have I: ∀c,l c≠none->L c≠none:=λc b=>by
  by_cases d:j c
  .have e:L c=some 3:=af d;rw[e];simp
  .have e:L c=l c:=ae d;rwa[e]
 have S:bw X h ⟨λc=>L c≠none,X.D⟩ h':=by
  refine⟨F.mono (λc b d=>(H.mm c).2 (by rw[H.l3 c d];simp)),λc b=> ?_,λc b=> .inl b,λc b=>b⟩;rcases u c b with h3|h3
  .exact .inl ((H.mm c).2 h3)
  .rcases r c h3 with h4|h4
   .exact .inl ((H.mm c).2 (by rw[H.l3 c h4];simp))
   .exact .inr h4
 refine⟨⟨λc=>L c≠none,X.D⟩,L,⟨?_,K.map ag,λx d=>K.Hf x d ag,H.abs.trans C.symm,K.EH,by rw[y];exact K.Jj ag,by rw[B];exact v,p H.l0 ag,p H.l1 ag,λc b=>p (H.l2 c b) ag,λc b=>af b,λx d=>p (H.l4 x d) ag,λc=>ff,λc b=> ?_,λc b=> ?_,H.so⟩,S,λc b=>(u c b).imp (λh=>(H.mm c).2 h) id⟩
 .rw[o.1,o.2.1,o.2.2.1,o.2.2.2];exact K.dh ag
 .have:=H.dd c b;refine⟨?_,ag⟩;show(if j c then some 3 else l c)=none;rw[ae]
  .exact this.1
  .intro d;rcases r c d with h3|h3
   .rw[H.l3 c h3]at this;cases this.1
   .omega
 .rcases u c b with h3|h3
  .have:=H.Fm c h3;omega
  .exact v.lt h3
theorem Cm.Jm{w:List E}(H:Cm h t X s m a A g f i l)(v:Al h' A n w)(r: ∀c,n c->g c\/h.size<=c)(F:Fr g h h')(C:s'.L=s.L)(y:s'.E1=w)(B:s'.E2=s.E2)(o:s'.next=s.next/\s'.gF=s.gF/\s'.over=s.over/\s'.gone=s.gone):
  ∃q L,Cm h' t q s' m a A n f i L/\bw X h q h'/\∀c,q.M c->X.M c\/n c:=by
 classical
 have G: ∀c,g c->c<h.size->l c=some 2:=λc b _=>H.l2 c b
 have K:=H.vX F G;have z:=F.1
 let L:=Pe l n 2
 have p: ∀{c J:Nat},l c=some J->J≠2->L c=some J:=fun {c J} k D=>by
  show(if n c then some 2 else l c)=some J;rw[ae]
  .exact k
  .intro b;rcases r c b with h3|h3
   .rw[H.l2 c h3]at k;exact D (aZ k).symm
   .have:=H.Fm c (by rw[k];simp);omega
 have u: ∀c,L c≠none->l c≠none\/n c:=λc b=>by
  by_cases d:n c
  .exact .inr d
  .refine .inl ?_;have e:L c=l c:=ae d;rwa[e]at b
 have S:bw X h ⟨λc=>L c≠none,X.D⟩ h':=by
  refine⟨F.mono (λc b d=>(H.mm c).2 (by rw[H.l2 c d];simp)),λc b=> ?_,λc b=> .inl b,λc b=>b⟩;rcases u c b with h3|h3
  .exact .inl ((H.mm c).2 h3)
  .rcases r c h3 with h4|h4
   .exact .inl ((H.mm c).2 (by rw[H.l2 c h4];simp))
   .exact .inr h4
 refine⟨⟨λc=>L c≠none,X.D⟩,L,⟨?_,K.map ag,λx d=>K.Hf x d ag,H.abs.trans C.symm,K.EH,by rw[y];exact v,by rw[B];exact K.Jk ag,p H.l0 ag,p H.l1 ag,λc b=>af b,λc b=>p (H.l3 c b) ag,λx d=>p (H.l4 x d) ag,λc=>ff,λc b=> ?_,λc b=> ?_,H.so⟩,S,λc b=>(u c b).imp (λh=>(H.mm c).2 h) id⟩
 .rw[o.1,o.2.1,o.2.2.1,o.2.2.2];exact K.dh ag
 .have:=H.dd c b;refine⟨?_,ag⟩;show(if n c then some 2 else l c)=none;rw[ae]
  .exact this.1
  .intro d;rcases r c d with h3|h3
   .rw[H.l2 c h3]at this;cases this.1
   .omega
 .rcases u c b with h3|h3
  .have:=H.Fm c h3;omega
  .exact v.lt h3
theorem Cm.del{k:Int}(H:Cm h t X s m a A g f i l)(M:jN h' m gI (wR (a.map CV.pair) k))(q:h'.size=h.size)(w: ∀c,c≠m->h'[c]? =h[c]?)(v:s'.L=s.L.filter (λx=> !decide ((x.num:Int)=k)))(r:s'.E1=s.E1)(u:s'.E2=s.E2)(d:s'.next=s.next/\s'.gF=s.gF/\s'.over=s.over/\s'.gone=s.gone):
  Cm h' t X s' m (a.filter (λx=> !decide ((x.num:Int)=k))) A g f i l/\bw X h X h':=by
 have F:Fr (λc=>c=m) h h':=⟨ag,λc _ d=>w c d⟩;have p: ∀c,c=m->c<h.size->l c=some 1:=λc e _=>by rw[e];exact H.l1
 have K:=H.vX F p;have S: ∀x∈a.filter (λx=> !decide ((x.num:Int)=k)),x∈a:=λx b=>(bj.1 b).1
 refine⟨⟨?_,?_,λx b=>K.Hf x (S x b) ag,?_,λx b=>K.EH x (S x b),by rw[r];exact K.Jj ag,by rw[u];exact K.Jk ag,H.l0,H.l1,H.l2,H.l3,λx b=>H.l4 x (S x b),H.mm,λc o=>by rw[q];exact H.dd c o,λc o=>by rw[q];exact H.Fm c o,H.so.sublist (cT.map _)⟩,H.step F p⟩
 .rw[d.1,d.2.1,d.2.2.1,d.2.2.2];exact K.dh ag
 .unfold wR at M;rw[dQ]at M;exact M
 .rw[v,<-H.abs,dQ];rfl
theorem Cm.change{x y:CV}(H:Cm h t X s m a A g f i l)(k:x∈a)(o:y.b=x.b)(v:y.num=x.num)(O:y.v=x.v)(P:y.at h' x.b)(B:h'.size=h.size)(J: ∀c,c≠x.b->h'[c]? =h[c]?)(E:s'.L=s.L.map (λz=>if z.num=x.num then y.abs else z))(C:s'.E1=s.E1)(D:s'.E2=s.E2)(d:s'.next=s.next/\s'.gF=s.gF/\s'.over=s.over/\s'.gone=s.gone):
  Cm h' t X s' m (a.map (λz=>if z.num=x.num then y else z)) A g f i l/\bw X h X h':=by
 have F:Fr (λc=>c=x.b) h h':=⟨ag,λc _ d=>J c d⟩;have w: ∀c,c=x.b->c<h.size->l c=some (4+x.num):=λc e _=>by rw[e];exact H.l4 x k
 have K:=H.vX F w;have M: ∀z∈a.map (λz=>if z.num=x.num then y else z),(z=y)\/(z∈a/\z.num≠x.num):=λz b=>by
  obtain⟨u,L,rfl⟩:=bp.1 b;by_cases e:u.num=x.num
  .rw[af e];exact .inl rfl
  .rw[ae e];exact .inr ⟨L,e⟩
 have S:(a.map (λz=>if z.num=x.num then y else z)).map CV.pair=a.map CV.pair:=by
  rw[dU];refine fb λz b=> ?_
  show CV.pair (if z.num=x.num then y else z)=z.pair;by_cases e:z.num=x.num
  .rw[af e];have:z=x:=by
    obtain⟨Q,q⟩:=bK b;obtain⟨R,r⟩:=bK k;have I:(a.map CV.num).Nodup:=H.so.imp (λh=>Nat.ne_of_lt h);have G:=(ay.1 q).1;have:=(fa (l:=a.map CV.num) (i:=Q) (j:=R) (cQ G) I).1 (by rw[aL,aL,q,r];simp[e]);subst this;rw[q]at r;exact aZ r
   subst this;unfold CV.pair;rw[v,o]
  .rw[ae e]
 refine⟨⟨?_,?_,λz b=> ?_,?_,λz b=> ?_,by rw[C];exact K.Jj ag,by rw[D];exact K.Jk ag,H.l0,H.l1,H.l2,H.l3,λz b=> ?_,H.mm,λc p=>by rw[B];exact H.dd c p,λc p=>by rw[B];exact H.Fm c p,?_⟩,H.step F w⟩
 .rw[d.1,d.2.1,d.2.2.1,d.2.2.2];exact K.dh ag
 .rw[S];exact K.map ag
 .rcases M z b with rfl|⟨b,e⟩
  .rw[o];exact P
  .exact K.Hf z b ag
 .rw[E,<-H.abs,dU,dU];refine fb λz _=> ?_
  show CV.abs (if z.num=x.num then y else z)=if z.num=x.num then y.abs else z.abs
  split<;>rfl
 .rcases M z b with rfl|⟨b,_⟩
  .rw[O];exact K.EH x k
  .exact K.EH z b
 .rcases M z b with rfl|⟨b,_⟩
  .rw[o,v];exact H.l4 x k
  .exact H.l4 z b
 .have:(a.map (λz=>if z.num=x.num then y else z)).map CV.num=a.map CV.num:=by
   rw[dU];refine fb λz _=> ?_
   show CV.num (if z.num=x.num then y else z)=z.num;split
   .rename_i e;rw[v,e]
   .rfl
  rw[this];exact H.so
theorem Cm.add{y:CV}{d k:ai}(H:Cm h t X s m a A g f i l)(u:Fr No h d)(E:y.at d y.b)(f':h.size<=y.b)(U:Row d y.v.p (bc y.v.b))(T:y.v.b.length<=y.v.c)(v: ∀c,aO y.v.p c->h.size<=c/\c≠y.b/\c<d.size)(C: ∀x∈a,x.num<y.num)(M:jN k m gI (FJ (a.map CV.pair) (y.num:Int) (.P y.b 0)))(hs:k.size=d.size)(ho: ∀c,c≠m->k[c]? =d[c]?)(R:s'.L=s.L++ [y.abs])(O:s'.E1=s.E1)(P:s'.E2=s.E2)(o:s'.next=s.next/\s'.gF=s.gF/\s'.over=s.over/\s'.gone=s.gone):
  ∃w L,Cm k t w s' m (a++ [y]) A g f i L/\bw X h w k:=by
 classical
 have z1:=u.1;have G:=H.on u;have F:Fr (λc=>c=m) d k:=⟨ag,λc _ o=>ho c o⟩;have hq: ∀c,c=m->c<d.size->l c=some 1:=λc e _=>by rw[e];exact H.l1
 have K:=G.vX F hq;have g':=aD E
 let L:=Pe l (λc=>c=y.b) (4+y.num)
 have q: ∀c,c≠y.b->L c=l c:=λc b=>ae b
 have b':L y.b=some (4+y.num):=af rfl;have d': ∀{c:Nat},l c≠none->c≠y.b:=fun {c} b e=>by have:=H.Fm c b;omega
 have p: ∀{c J:Nat},l c=some J->L c=some J:=fun {c J} B=>by rw[q c (d' (by rw[B];simp))];exact B
 let D:=λc=>X.D c\/(y.v.b≠ []/\aO y.v.p c)
 have c':y.b≠m:=λe=>by have:=H.map.lt;omega
 have I: ∀c,D c->L c=none/\c<k.size:=λc b=>by
  rcases b with b|⟨_,b⟩
  .have:=H.dd c b;rw[q c ag];exact⟨this.1,ag⟩
  .have:=v c b;rw[q c this.2.1];refine⟨?_,ag⟩;cases e:l c with
   |none=>rfl
   |some J=>have:=H.Fm c (by rw[e];simp);omega
 refine⟨⟨λc=>L c≠none,D⟩,L,⟨?_,?_,λx hx=> ?_,?_,λx hx=> ?_,by rw[O];exact K.Jj ag,by rw[P];exact K.Jk ag,p H.l0,p H.l1,λc b=>p (H.l2 c b),λc b=>p (H.l3 c b),λx hx=> ?_,λc=>ff,I,λc b=> ?_,?_⟩,?_⟩
 .rw[o.1,o.2.1,o.2.2.1,o.2.2.2];exact K.dh ag
 .refine M.perm ?_;unfold FJ;rw[sB (λe V=>by obtain⟨x,hx,rfl⟩:=bp.1 V;have:=C x hx;show¬((x.num:Int)=(y.num:Int));omega),aY];exact(List.perm_append_comm (l₁:= [CV.pair y]) (l₂:=a.map CV.pair))
 .rcases bH.1 hx with hx|hx
  .exact K.Hf x hx ag
  .obtain rfl:=bO.1 hx;exact F.get E c'
 .rw[R,<-H.abs,aY];rfl
 .rcases bH.1 hx with hx|hx
  .exact(K.EH x hx).mono (λc b=> .inl b)
  .obtain rfl:=bO.1 hx;refine⟨U.frame F (λr e Z=> ?_),λa' c b=> .inr ⟨a',b⟩,T⟩;have d:=(v r.block ⟨r,e,rfl⟩).1;have k:=H.map.lt;have h3:r.block=m:=Z;omega
 .rcases bH.1 hx with hx|hx
  .exact p (H.l4 x hx)
  .obtain rfl:=bO.1 hx;exact b'
 .by_cases e:c=y.b
  .subst e;omega
  .rw[q c e]at b;have:=H.Fm c b;omega
 .rw[aY,List.pairwise_append];refine⟨H.so,bU,λr S e' z=> ?_⟩;obtain⟨x,hx,rfl⟩:=bp.1 S;simp at z;subst z;exact C x hx
 .refine⟨?_,λc b=> ?_,λc b=> ?_,λc b=> .inl b⟩
  .have Q:Fr (λc=>c=m) h k:=Fr.no u F;exact Q.mono (λc _ e=>(H.mm c).2 (by rw[e,H.l1];simp))
  .by_cases e:c=y.b
   .exact .inr ag
   .have b:L c≠none:=b;rw[q c e]at b;exact .inl ((H.mm c).2 b)
  .rcases b with b|⟨_,b⟩
   .exact .inl b
   .exact .inr (v c b).1
end gZ
end
end Go.Proofs.YtkdgpmeojgokdaaGreatDoor
namespace Go.Proofs
open Go.Den
open IntKind (wrap)
open Int (toNat)
section
open Go.Shelf
def Tryz.Mn:Go.Shelf.Ren:=⟨fun|5=>217|8=>248|7=>247|19=>272|20=>273|10=>263|11=>264|12=>265|13=>266|14=>267|15=>268|16=>269|17=>270|18=>271|30=>280|31=>281|32=>282|33=>283|34=>284|35=>285|40=>291|n=>n,fun|23=>113|25=>3|3=>3|32=>256|22=>113|0=>0|44=>340|46=>27|4=>4|36=>374|35=>373|41=>221|5=>5|9=>9|53=>388|57=>391|63=>395|64=>396|n=>n,fun|n=>n⟩
theorem Tryz.RT : Go.Proofs.SlLaysM.n5 Tryz.prog Tryz.Mn := {
  mixed := by kernel_rfl
  f5 := ⟨Tryz.f217.name, by decide, Tryz.func217.trans (congrArg some (by kernel_rfl))⟩
  f7 := ⟨Tryz.f247.name, by decide, Tryz.func247.trans (congrArg some (by kernel_rfl))⟩
  f8 := Tryz.func248.trans (congrArg some (by kernel_rfl))
  f10 := ⟨Tryz.f263.name, by decide, Tryz.func263.trans (congrArg some (by kernel_rfl))⟩
  f11 := ⟨Tryz.f264.name, by decide, Tryz.func264.trans (congrArg some (by kernel_rfl))⟩
  f12 := ⟨Tryz.f265.name, by decide, Tryz.func265.trans (congrArg some (by kernel_rfl))⟩
  f13 := ⟨Tryz.f266.name, by decide, Tryz.func266.trans (congrArg some (by kernel_rfl))⟩
  f14 := ⟨Tryz.f267.name, by decide, Tryz.func267.trans (congrArg some (by kernel_rfl))⟩
  f15 := ⟨Tryz.f268.name, by decide, Tryz.func268.trans (congrArg some (by kernel_rfl))⟩
  f16 := ⟨Tryz.f269.name, by decide, Tryz.func269.trans (congrArg some (by kernel_rfl))⟩
  f17 := ⟨Tryz.f270.name, by decide, Tryz.func270.trans (congrArg some (by kernel_rfl))⟩
  f18 := ⟨Tryz.f271.name, by decide, Tryz.func271.trans (congrArg some (by kernel_rfl))⟩
  f19 := Tryz.func272.trans (congrArg some (by kernel_rfl))
  f20 := Tryz.func273.trans (congrArg some (by kernel_rfl))
  f30 := ⟨Tryz.f280.name, by decide, Tryz.func280.trans (congrArg some (by kernel_rfl))⟩
  f31 := Tryz.func281.trans (congrArg some (by kernel_rfl))
  f32 := Tryz.func282.trans (congrArg some (by kernel_rfl))
  f33 := ⟨Tryz.f283.name, by decide, Tryz.func283.trans (congrArg some (by kernel_rfl))⟩
  f34 := ⟨Tryz.f284.name, by decide, Tryz.func284.trans (congrArg some (by kernel_rfl))⟩
  f35 := ⟨Tryz.f285.name, by decide, Tryz.func285.trans (congrArg some (by kernel_rfl))⟩
  f40 := ⟨Tryz.f291.name, by decide, Tryz.func291.trans (congrArg some (by kernel_rfl))⟩
  t0 := Tryz.underlying0
  a0 := Tryz.isAgg0
  z0 := Tryz.sizeOf0
  v0 := Tryz.zeroValue0
  t3 := Tryz.underlying3
  a3 := Tryz.isAgg3
  z3 := Tryz.sizeOf3
  v3 := Tryz.zeroValue3
  t4 := Tryz.underlying4
  a4 := Tryz.isAgg4
  z4 := Tryz.sizeOf4
  v4 := Tryz.zeroValue4
  t5 := Tryz.underlying5
  a5 := Tryz.isAgg5
  z5 := Tryz.sizeOf5
  v5 := Tryz.zeroValue5
  t9 := Tryz.underlying9
  a9 := Tryz.isAgg9
  z9 := Tryz.sizeOf9
  v9 := Tryz.zeroValue9
  t22 := Tryz.underlying113
  a22 := Tryz.isAgg113
  z22 := Tryz.sizeOf113
  v22 := Tryz.zeroValue113
  t23 := Tryz.underlying113
  a23 := Tryz.isAgg113
  z23 := Tryz.sizeOf113
  v23 := Tryz.zeroValue113
  t25 := Tryz.underlying3
  a25 := Tryz.isAgg3
  z25 := Tryz.sizeOf3
  v25 := Tryz.zeroValue3
  t32 := Tryz.underlying256
  a32 := Tryz.isAgg256
  z32 := Tryz.sizeOf256
  v32 := Tryz.zeroValue256
  t35 := Tryz.underlying373
  a35 := Tryz.isAgg373
  z35 := Tryz.sizeOf373
  v35 := Tryz.zeroValue373
  t36 := Tryz.underlying374
  a36 := Tryz.isAgg374
  z36 := Tryz.sizeOf374
  v36 := Tryz.zeroValue374
  t41 := Tryz.underlying221
  a41 := Tryz.isAgg221
  z41 := Tryz.sizeOf221
  v41 := Tryz.zeroValue221
  t44 := Tryz.underlying340
  a44 := Tryz.isAgg340
  z44 := Tryz.sizeOf340
  v44 := Tryz.zeroValue340
  t46 := Tryz.underlying27
  a46 := Tryz.isAgg27
  z46 := Tryz.sizeOf27
  v46 := Tryz.zeroValue27
  t53 := Tryz.underlying388
  a53 := Tryz.isAgg388
  z53 := Tryz.sizeOf388
  v53 := Tryz.zeroValue388
  t57 := Tryz.underlying391
  a57 := Tryz.isAgg391
  z57 := Tryz.sizeOf391
  v57 := Tryz.zeroValue391
  t63 := Tryz.underlying395
  a63 := Tryz.isAgg395
  z63 := Tryz.sizeOf395
  v63 := Tryz.zeroValue395
  t64 := Tryz.underlying396
  a64 := Tryz.isAgg396
  z64 := Tryz.sizeOf396
  v64 := Tryz.zeroValue396 }

end
end Go.Proofs
namespace Go.Proofs.YtkdgpmeojgokdaaGreatDoor
open Go.Den
open IntKind (wrap)
open Int (toNat)
section
open Go.Sort
namespace Wd
variable {h:ai} {R:fM} {p:ct} {n c:Nat} {x:List Int}
abbrev iv(X:Int):Value:=.int .i64 X
theorem QU(o:Own h p n c 1 (x.map iv))(I:n=x.length)(T:x.Nodup)(F:n<=60000)(E: ∀f (z:List Int),Own f p n c 1 (z.map iv)->z.Perm x->z.Pairwise (· < ·)->Fr (aO p) h f->R (.T #[]) f):
  Cl 217 #[.L p n c] h R:=by
 subst I;intro w r;cases o with
 |nil m G i D=>
  obtain rfl:=List.eq_nil_of_length_eq_zero G;refine(AnyM.slices_Sort_int_none Tryz.RT p c w).mono ?_;rintro e Z ⟨rfl,rfl⟩;exact⟨_,rfl,E _ [] (by rw[r];exact .nil m rfl i rfl) (.refl _) .nil (by rw[r];exact Fr.refl _ _),fc.refl _⟩
 |row b O C t m d g i A D=>
  subst m;subst r;have B: ∀(z:List Int)(j:Nat),j<z.length->z.toArray[j]! =z.getD j 0:=λz j H=>by
   simp[getElem!_pos,H]
  refine(AnyM.slices_Sort_int Tryz.RT b O c x w (λj H=> ?_) (aD d) ag).mono ?_
  .have H:j<x.length:=by simpa using H
   refine⟨?_,by rw[wG];exact oi d⟩;rw[lQ,lL d,B x j H];exact D j _ (by rw[aL,aj H,bh,aj H];rfl)
  .rintro e Z ⟨rfl,k,u,rfl⟩;have P:=List.mergeSort_perm x λX y=>decide (X<=y)
   have S:(x.mergeSort λX y=>decide (X<=y)).Pairwise (· < ·):=by
    have U:=List.pairwise_mergeSort (le:=λ(X y:Int)=>decide (X<=y)) (λa b c g A=>by simp at g A⊢;omega) (λa b=>by simp;omega) x;have V:(x.mergeSort λX y=>decide (X<=y)).Nodup:=P.nodup_iff.2 T;exact(U.and V).imp fun {a b} h=>by have:=aU h.1;have:=h.2;omega
   generalize (x.mergeSort λX y=>decide (X<=y))=z at P S⊢;have Q:z.length=x.length:=P.length_eq;have L: ∀X,X<w.heap.size->X≠b->(w.heap.modify b (onCells (putCells (Value.int .i64) O z.toArray))++u)[X]? =w.heap[X]? :=λX s J=>by
    rw[dD (cQ s),fL,ae (λe=>J e.symm)]
   have K:(w.heap.modify b (onCells (putCells (Value.int .i64) O z.toArray))++u)[b]? =some (.C (putCells (Value.int .i64) O z.toArray C) t (0,0)):=by
    rw[dD (cQ (aD d)),fL,af rfl,d];rfl
   refine⟨_,rfl,E _ z (.row b O _ t rfl K g (by unfold putCells;rw[Array.size_mapIdx];exact i) (by simp[Q]) λj v H=> ?_) P S ?_,⟨rfl,rfl,rfl⟩⟩
   .rw[aL]at H;have l:j<z.length:=by
     rcases Nat.lt_or_ge j z.length with q|q
     .exact q
     .rw[cU q]at H;cases H
    rw[aj l]at H;obtain rfl:=aZ H;unfold putCells;have M:O+j<C.size:=ag
    rw[Array.getElem?_mapIdx,Array.getElem?_eq_getElem M,dq,af ⟨ag,by simp;omega⟩,show O+j - O=j by omega,B z j l,bh,aj l];rfl
   .refine⟨by show _<=(w.heap.modify b _++u).size;simp,λX s F=>L X s (λe=>F ⟨_,rfl,e.symm⟩)⟩

end Wd
end
section
open Go.kV
namespace gZ
open jH cg
variable {h H:ai} {R:fM} {t:Nat} {X:Ft} {s:CF} {m A d:Nat} {a:List CV} {S b:Nat→Prop} {l:Nat→Option Nat} {p:ct} {n c:Nat}
theorem Wx:Tryz.prog.underlying 113=some (.slice 3):=dA
theorem gr(e:Cm h t X s m a A S d b l)(g:R (.B true) h):Cl 58 #[.P t 0] h R:=wj.walk ⟨_,au e.dh,g⟩
def lC(a:List CV):List Int:=a.map (λx=>(x.num:Int))
theorem zB(e:Cm h t X s m a A S d b l):(lC a).Pairwise (· < ·):=by
 have:=e.so;rw[fC]at this;unfold lC;rw[fC];exact this.imp (λh=>ag)
theorem Bp(q:Cm h t X s m a A S d b l)(hl:a.length<=60000)(hk: ∀H P z,Own H P a.length z 1 ((lC a).map gI)->(∀y,aO P y->h.size<=y)->Fr No h H->R (.L P a.length z) H):
  Cl 180 #[.P t 0] h R:=by
 refine rZ.walk (gr q ⟨_,rfl,aG.of λe' hJ=> ?_⟩);rw[af rfl];refine⟨_,cB q.dh rfl,Ii qq q.map λo h1 e1 I B=>⟨_,rfl,?_⟩⟩;refine⟨λop O r g=> ∃D:List (Int×Value),O=D.length/\Own g op O r 1 ((D.map (·.1)).map gI)/\(∀y,aO op y->h.size<=y/\y≠o)/\Iter g o m gI (a.map CV.pair) D/\Fr No h g,λ_ O _ _=>a.length - O,
  ⟨[],rfl,.nil rfl rfl rfl rfl,(λy ⟨j,e,_⟩=>by cases e),I,B⟩,?_⟩
 rintro op O r g ⟨D,rfl,U,k,w,K⟩;have a':=w.le;rw[aC]at a';refine La w (λL=> .inl ⟨rfl,?_⟩) (λj v G hm h' I s1 o1=> .inr ⟨_,_,rfl,?_⟩)
 .subst hJ;dsimp only;have M:(D.map (·.1)).Perm (lC a):=by
   have:=L.map (·.1);rw[dU]at this;exact this
  have Z:=zB q;have nd:(D.map (·.1)).Nodup:=M.nodup_iff.2 (Z.imp (λh=>ag));have b':D.length=a.length:=by rw[L.length_eq,aC]
  refine Wd.QU U (by rw[aC]) nd ag λh3 zs T p3 s3 F=>⟨rfl,?_⟩
  have:zs=lC a:=List.Perm.eq_of_pairwise (le:=(· < ·)) (λj f' _ _ h1 h2=>ag) s3 Z (p3.trans M);subst this;rw[b']at T⊢;exact hk h3 op r T (λy i=>(k y i).1) (K.fresh F (λy i=>(k y i).1))
 .refine Ij I ⟨_,_,rfl,_,rfl,cS ?_⟩;have F:Fr No G (G.push (.C #[.I j] 3)):=Fr.push _ _;have V:Row (G.push (.C #[.I j] 3)) (Sa G.size 0) [gI j]:=ju (cs:= [gI j]);have z3:(G.push (.C #[.I j] 3)).size=G.size+1:=cZ _;generalize G.push (.C #[.I j] 3)=g3 at F V z3⊢;have J:Fr (λy=>y=o) g G:=⟨ag,λy _ hn=>o1 y hn⟩;have d':=(U.frame J (λy i e=>(k y i).2 e)).frame F (λ_ _=>id);have zf:=B.1;have u:Fr No h G:=K.fresh J (λy e=>ag);have F3:=u.tt F;have i':o<G.size:=by
   obtain⟨_,_,_,_,_,_,hr,_⟩:=I;exact aD hr
  refine dS (cs:=(D.map (·.1)).map gI) (ds:= [gI j]) tI Wx d' V rfl (λv Q=>by simp at Q;subst Q;rfl) ag ag λp4 c4 g4 o4 _ E k4=>⟨_,_,_,rfl,?_⟩
  have c': ∀y,aO p4 y->h.size<=y/\y≠o:=by
   intro y i;rcases k4 y i with h5|h5
   .exact k y h5
   .have:=u.1;exact⟨ag,ag⟩
  refine⟨⟨D++ [(j,v)],bU,?_,c',?_,F3.fresh E (λy i=>(k y i).1)⟩,?_⟩
  .rw[aY,aY];exact o4
  .have g':m<h.size:=q.map.lt;exact(I.frame F id id).frame E (λi=>(k o i).2 rfl) (λi=>by have:=(k m i).1;omega)
  .have:=I.le;rw[aA,aC,dN]at this;show a.length - (D.length+1)<a.length - D.length;omega
theorem look(g:Cm h t X s m a A S d b l){x:CV}(i:x∈a):iM Tryz.prog 94 (.map (some m)) (.I (x.num:Int)) false h (.P x.b 0):=by
 have:=JZ qq g.map (x.num:Int);have e:sQ (a.map CV.pair) (x.num:Int)=some (.P x.b 0):=(CT g.map.nodup).2 (bp.2 ⟨x,i,rfl⟩);rw[e]at this;exact this
theorem QV(g:Cm h t X s m a A S d b l){n:Int}(j: ∀x∈a,(x.num:Int)≠n):iM Tryz.prog 94 (.map (some m)) (.I n) false h (.pointer none):=by
 have:=JZ qq g.map n;have e:sQ (a.map CV.pair) n=none:=CS.2 (λe i=>by obtain⟨x,k,rfl⟩:=bp.1 i;exact j x k);rw[e]at this;exact this
structure Env (h:ai) (t:Nat) (m:Nat) (a:List CV) (f C:Nat) (x:Ev):Prop where
 b0:h[f]? =some (.cells #[.pointer (some ⟨t,0,none⟩)] 59 (0,0))
 b1:Ev.at h C x
 cm: ∃X s A S d b l,Cm h t X s m a A S d b l
variable {f C : Nat} {x : Ev}
theorem Pf(V:Env h t m a f C x){y:CV}(i:y∈a)(j:R (.B (!decide (y.e=x))) h):Cl 181 #[.I (y.num:Int),.P f 0,.P C 0] h R:=by
 obtain⟨X,s,A,S,d,b,l,g⟩:=V.cm;have e:=g.Hf y i;refine wk.walk ⟨_,au V.b0,aw.2 ⟨_,au g.dh,_,look g i,aw.2 ⟨_,au e,_,au e,_,au e,_,au e,_,au e,?_⟩⟩⟩;exact ax.ld V.b1 ⟨_,yB (x:=y.e) (y:=x) rfl rfl,j⟩
def lh(a:List CV)(x:Ev)(n:Int):Bool:=a.any (λy=>decide ((y.num:Int)=n) && decide (y.e=x))
theorem xD(w:(lC a).Pairwise (· < ·)){y:CV}(o:y∈a):lh a x (y.num:Int)=decide (y.e=x):=by
 unfold lh;by_cases e:y.e=x
 .rw[av e,List.any_eq_true];exact⟨y,o,by simp[e]⟩
 .rw[aB e,List.any_eq_false];intro z v;simp only[aV,aW,not_and];intro r;have:z=y:=by
   obtain⟨i,g⟩:=bK v;obtain⟨j,k⟩:=bK o;have u:(lC a).Nodup:=w.imp (λh=>ag);have q:=(ay.1 g).1;have:=(fa (l:=lC a) (i:=i) (j:=j) (by simpa[lC]using q) u).1 (by unfold lC;rw[aL,aL,g,k];simp[r]);subst this;rw[g]at k;exact aZ k
  rw[this];exact e
theorem SH{q:List Int}(V:Env h t m a f C x)(o:Own h p n c 1 (q.map gI))(I:n=q.length)(T:n<=60000)(J: ∀k∈q,∃y∈a,k=(y.num:Int))(L: ∀i,i<n->(∀j,j<i->∀k,q[j]? =some k->lh a x k=true)->(∀k,q[i]? =some k->lh a x k=false)->R (.I (i:Int)) h)(M:(∀k∈q,lh a x k=true)->R (.I (-1)) h):
  Cl 216 #[.L p n c,.func (.func 181) #[] #[.P f 0,.P C 0]] h R:=by
 subst I;have O:(lC a).Pairwise (· < ·):=by obtain⟨X,s,A,S,d,b,l,E⟩:=V.cm;exact zB E
 refine iH.of.walk ?_;refine⟨λu g=>g=h/\∃i:Nat,u=(i:Int)/\i<=q.length/\∀j,j<i->∀k,q[j]? =some k->lh a x k=true,λu _=>q.length - u.toNat,⟨rfl,0,rfl,bT _,λj w=>ag⟩,?_⟩;rintro _ g ⟨rfl,i,rfl,U,z⟩;by_cases B:i<q.length
 .rw[ga];have r:q[i]? =some q[i]:=aj B;generalize q[i]=k at r;obtain⟨y,D,rfl⟩:=J k (aX r);obtain⟨P,Q,rfl⟩:=o.addr ag;have F:=o.cell (j:=i) (v:=gI (y.num:Int)) (by rw[aL,r];rfl);simp only[aH,cE];refine⟨ag,aw.2 ⟨_,F,Pf V D ⟨_,rfl,?_⟩⟩⟩;have K:=xD (x:=x) O D;by_cases e:y.e=x
  .rw[av e,dy,bJ ag ag];rw[av e]at K;refine⟨⟨rfl,i+1,ag,ag,λj w k v=> ?_⟩,by show q.length - Int.toNat ((i:Int)+1)<q.length - i;omega⟩;by_cases G:j=i
   .subst G;rw[r]at v;cases v;exact K
   .exact z j ag k v
  .rw[aB e,ga];rw[aB e]at K;exact L i B z (λk v=>by rw[r]at v;cases v;exact K)
 .rw[ae (by simp;omega)];exact M (λk r=>by
   obtain⟨j,w⟩:=bK r;exact z j (bW ((ay.1 w).1)) k w)
theorem Jb{r:List Int}(V:Env h t m a f C x)(o:Own h p n c 1 (r.map gI))(L:n=r.length)(hb:n<=60000)(hs: ∀k∈r,∃y∈a,k=(y.num:Int))(hV: ∀g,Fr (aO p) h g->Env g t m a f C x)(B: ∀H M,Own H p (r.filter (lh a x)).length M 1 ((r.filter (lh a x)).map gI)->Fr (aO p) h H->R (.slice p (r.filter (lh a x)).length M) H):
  Cl 179 #[.L p n c,.func (.func 181) #[] #[.P f 0,.P C 0]] h R:=by
 subst L;have so:(lC a).Pairwise (· < ·):=by obtain⟨X,s,A,S,d,b,l,d'⟩:=V.cm;exact zB d'
 have one: ∀v∈((.I 0:Value)).cells.toList,fV v=true:=λv hv=>by
  have:v=.I 0:=by simpa[Value.cells]using hv
  subst this;rfl
 refine mR.of.walk (SH V o rfl hb hs (λi hi G a'=>⟨_,rfl,?_⟩) (λG=>⟨_,rfl,?_⟩))
 .rw[ae (by intro h;have h:=eq_of_beq h;omega),bJ ag ag];have c':(r.take i).filter (lh a x)=r.take i:=by
   rw[cz];intro k f';obtain⟨j,z⟩:=bK f';rw[da]at z;split at z
   .rename_i e';exact G j e' k z
   .cases z
  have b':(r.take (i+1)).filter (lh a x)=r.take i:=by
   have B:r[i]? =some r[i]:=aj hi;rw[bN,B,gh,c'];simp[a' _ B]
  refine⟨λi' w g=> ∃(i j:Nat)(u:List Int),i'=(i:Int)/\w=(j:Int)/\i<=j/\j<=r.length/\u.length=r.length/\Own g p r.length c 1 (u.map gI)/\u.take i=(r.take j).filter (lh a x)/\(∀q,j<=q->u[q]? =r[q]?)/\Fr (aO p) h g,λ_ w _=>r.length - w.toNat,
   ⟨i,i+1,r,rfl,ag,ag,ag,rfl,o,b'.symm,λ_ _=>rfl,Fr.refl _ _⟩,?_⟩
  clear c' b' G a';rintro _ _ g ⟨i,j,u,rfl,rfl,l',z,Z,O,D,J,F⟩;have K:((r.take j).filter (lh a x)).length=i:=by rw[<-D,bA];omega
  by_cases h':j<r.length
  .rw[ga];refine aG.of λk' Q=> ?_
   have I:r[j]? =some r[j]:=aj h';generalize r[j]=k at I;obtain⟨y,hy,rfl⟩:=hs k (aX I);obtain⟨ab,ao,rfl⟩:=O.addr ag;have g':u[j]? =some (y.num:Int):=by rw[J j (bu _)];exact I
   have cc:=O.cell (j:=j) (v:=gI (y.num:Int)) (by rw[aL,g'];rfl);simp only[aH,cE];have kn:=xD (x:=x) so hy;have T:(r.take (j+1)).filter (lh a x)=(r.take j).filter (lh a x)++(if y.e=x then [(y.num:Int)]else []):=by
    rw[bN,I,gh];congr 1
    show [(y.num:Int)].filter (lh a x)=_;rw[cu,kn];by_cases e:y.e=x<;>simp[e]
   refine⟨ag,aw.2 ⟨_,cc,Pf (hV g F) hy ⟨_,rfl,aG.of λJ1 U=> ?_⟩⟩⟩;by_cases e:y.e=x
   .rw[av e,ga];rw[af e]at T;refine⟨ag,aw.2 (O.store (by rw[aC];omega) λP E s2 q2=> ?_)⟩;subst U;subst Q;have e2:(u.map gI).set i (.I (y.num:Int))=(u.set i (y.num:Int)).map gI:=by rw[List.map_set]
    rw[e2]at E;dsimp only;rw[bJ (n:=(i:Int)+1) ag ag,bJ (n:=(j:Int)+1) ag ag];refine⟨⟨i+1,j+1,_,ag,ag,ag,ag,by rw[dB];exact Z,E,?_,λq hq=> ?_,F.tt ⟨ag,λj' _ L=>q2 j' L⟩⟩,by show r.length - Int.toNat ((j:Int)+1)<r.length - j;omega⟩
    .rw[T,<-D,bN,List.getElem?_set_self ag];congr 1
     apply fz
     intro q;rw[da,da];split
     .rw[List.getElem?_set_ne ag]
     .rfl
    .rw[List.getElem?_set_ne ag];exact J q ag
   .rw[aB e,dy];rw[ae e,gC]at T;subst U;subst Q;dsimp only;rw[bJ (n:=(j:Int)+1) ag ag];exact⟨⟨i,j+1,u,rfl,ag,ag,ag,Z,O,by rw[T,D],λq hq=>J q ag,F⟩,by show r.length - Int.toNat ((j:Int)+1)<r.length - j;omega⟩
  .rw[ae (by simp;omega)];obtain rfl:j=r.length:=ag
   rw[fO]at D K;simp only[aH,Nat.sub_zero];refine⟨ag,CP tI one O ag λP E f2=>⟨rfl,⟨ag,bW O.le⟩,?_⟩⟩;rw[kI];rw[cE,<-List.map_take,D]at E;have:=B P c (by rw[K];exact E) (F.tt f2);rw[K]at this;exact this
 .rw[af (by rfl)];have e:r.filter (lh a x)=r:=by rw[cz];exact G
  have:=B h c (by rw[e];exact o) (Fr.refl _ _);rw[e]at this;exact this
theorem Mo(g:(lC a).Pairwise (· < ·)):(lC a).filter (lh a x)=lC (a.filter (λy=>decide (y.e=x))):=by
 unfold lC;rw[dQ];congr 1
 exact eK (λy e=>xD g e)
theorem wa(i:Cm h t X s m a A S d b l)(x:Ev)(D:a.length<=60000) (hk: ∀H P v,Own H P (a.filter (λy=>decide (y.e=x))).length v 1 ((lC (a.filter (λy=>decide (y.e=x)))).map gI)->(∀y,aO P y->h.size<=y)->Fr No h H->R (.slice P (a.filter (λy=>decide (y.e=x))).length v) H):
  Cl 139 #[.P t 0,lB x] h R:=by
 refine yT.walk (cS ?_);have j:Fr No h (h.push (.C #[.P t 0] 59)):=Fr.push _ _;have B:(h.push (.C #[.P t 0] 59))[h.size]? =some (.C #[.P t 0] 59 (0,0)):=bZ;have z1:(h.push (.C #[.P t 0] 59)).size=h.size+1:=cZ _;generalize h.push (.C #[.P t 0] 59)=M at j B z1⊢;refine ax.box λC Q e2 z F=>⟨_,au (F.get B id),?_⟩
 have z2:=aD z;refine Bp (i.on (j.tt F)) D λw I l3 o3 G o=>⟨_,_,_,rfl,?_⟩
 have r:=j.tt (F.tt o);have u:=i.on r;have zf:=F.1;have V:Env w t m a h.size C x:=⟨(F.tt o).get B id,o.get z id,X,s,A,S,d,b,l,u⟩;have U: ∀g,Fr (aO I) w g->Env g t m a h.size C x:=λg q=>
  ⟨q.get V.b0 (λe=>bW (G _ e)),q.get V.b1 (λe=>bW (G _ e)),X,s,A,S,d,b,l,u.frame q (λy e Z=>by
   have M:=G y Z;have Q:y<h.size:=(Ct.lt (s:=s) ⟨m,a,A,S,d,b,l,i⟩ y e);omega)⟩
 have nl:(lC a).length=a.length:=by unfold lC;rw[aC]
 refine Jb V o3 nl.symm D (λk a'=>by
  obtain⟨y,e,rfl⟩:=bp.1 a';exact⟨y,e,rfl⟩) U λT J O L=>⟨_,_,_,rfl,?_⟩
 have E:=Mo (x:=x) (zB i);have K:((lC a).filter (lh a x)).length=(a.filter (λy=>decide (y.e=x))).length:=by rw[E];unfold lC;rw[aC]
 rw[K]at O⊢;rw[E]at O;exact hk T I J O (λy e=>bW (G y e)) (r.fresh L (λy e=>bW (G y e)))
end gZ
end
section
open Go.kV
namespace gZ
open jH cg mg
variable {h H:ai} {R:fM} {t:Nat} {X:Ft} {s f:CF} {m A b:Nat} {x:List CV} {S a:Nat→Prop} {d:Nat→Option Nat} {n c:Nat}
variable {z:Cp} {K:ai->Prop} {L:List Cp}
def Cv(L:List Cp)(n:Int):List Cp:=L.filter (λe=> !decide ((e.num:Int)=n))
def pq(L:List Cp)(n:Nat)(g:Int)(D:Nat):List Cp:=L.map (λe=>if e.num=n then { e with ses:=g,dl:=D } else e)
def EL(s:CF)(n:Int):CF:= { s with L:=Cv s.L n,E1:=fZ s.E1 n,E2:=fZ s.E2 n }
def sa(s:CF)(n:Nat):CF:= { s with L:=pq s.L n 0 0,E2:=fZ s.E2 (n:Int) }
theorem ph(L:List E)(k:Int):(fZ L k).length<=L.length:=cM _ _
structure Small (s:CF):Prop where
 n:s.next<=50000
 l:s.L.length<=50000
 e1:s.E1.length<=50000
 e2:s.E2.length<=50000
theorem Cm.len(e:Cm h t X s m x A S b a d):x.length=s.L.length:=by rw[<-e.abs,aC]
theorem jj(P: ∀H t X,Ct H t X ⟨[],1,0,0,0, [], []⟩->Nb h X H->R (.P t 0) H):Cl 15 #[] h R:=by
 classical
 refine Ji.walk (cS ?_);have q:Fr No h (h.push (.map #[] 0)):=Fr.push _ _;have M:=jN.push (α:=Int) h gI;have Z:(h.push (.map #[] 0)).size=h.size+1:=cZ _;generalize h.push (.map #[] 0)=J at q M Z⊢;refine cg.jj λA S r k G j=>⟨_,rfl,cg.jj λb a e o I i=>⟨_,rfl,cS ?_⟩⟩
 have F:Fr No e (e.push (.C #[.map (some h.size),.I 1,.I 0,.I 0,.I 0,.P A 0,.P b 0] 98)):=Fr.push _ _;have z2:=j.1;have z3:=i.1;have U:(e.push (.C #[.map (some h.size),.I 1,.I 0,.I 0,.I 0,.P A 0,.P b 0] 98)).size=e.size+1:=cZ _;have B:(e.push (.C #[.map (some h.size),.I 1,.I 0,.I 0,.I 0,.P A 0,.P b 0] 98))[e.size]? =some (.C #[.map (some h.size),.I 1,.I 0,.I 0,.I 0,.P A 0,.P b 0] 98 (0,0)):=bZ;generalize e.push (.C #[.map (some h.size),.I 1,.I 0,.I 0,.I 0,.P A 0,.P b 0] 98)=u at F U B⊢;have l: ∀c,S c->J.size<=c/\c<r.size:=λc hc=>⟨G c hc,k.lt hc⟩
 have v: ∀c,a c->r.size<=c/\c<e.size:=λc hc=>⟨I c hc,o.lt hc⟩
 let d:Nat->Option Nat:=λc=>if c=e.size then some 0 else if c=h.size then some 1 else if S c then some 2 else if a c then some 3 else none
 have Q: ∀c,S c->d c=some 2:=λc hc=>by
  have:=l c hc;show(if c=e.size then some 0 else if c=h.size then some 1 else if S c then some 2 else if a c then some 3 else none)=_;rw[dy,dy,af hc]
 have T: ∀c,a c->d c=some 3:=λc hc=>by
  have V:=v c hc;show(if c=e.size then some 0 else if c=h.size then some 1 else if S c then some 2 else if a c then some 3 else none)=_;rw[dy,dy,ae (λO=>bW (l c O)),af hc]
 have w: ∀c,d c≠none->h.size<=c/\c<u.size:=λc hc=>by
  by_cases D:c=e.size
  .omega
  by_cases E:c=h.size
  .omega
  by_cases C:S c
  .have:=l c C;omega
  by_cases p:a c
  .have:=v c p;omega
  exact absurd (show(if c=e.size then some 0 else if c=h.size then some 1 else if S c then some 2 else if a c then some 3 else none)=none by rw[ae D,ae E,ae C,ae p]) hc
 refine P u e.size ⟨λc=>d c≠none,λ_=>False⟩ ⟨h.size, [],A,S,b,a,d,⟨B,(M.frame (j.tt i) id).frame F id,(λy g=>by cases g),rfl,(λy g=>by cases g),k.frame (i.tt F) bX,o.frame F bX,af rfl,?_,Q,T,(λy g=>by cases g),λc=>ff,λc hc=>hc.elim,λc hc=>(w c hc).2,.nil⟩⟩ ⟨q.tt (j.tt (i.tt F)),λc hc=> ?_⟩
 .show(if h.size=e.size then some 0 else if h.size=h.size then some 1 else if S h.size then some 2 else if a h.size then some 3 else none)=some 1;rw[dy,af rfl]
 .rcases hc with hc|hc
  .exact(w c hc).1
  .exact hc.elim
theorem RU(i:Cm h t X s m x A S b a d)(u:s.E2.length<1000000)(k:Int)(j: ∀H g l (e:Int),Cm H t g { s with E2:=fZ s.E2 k } m x A S b a l->bw X h g H->R (.I e) H):
  Cl 81 #[.P b 0,.I k] h R:=by
 refine cg.pZ i.Jk u k (λ_ q o F=> ?_) (λv=> ?_)
 .obtain⟨g,l,p,w,_⟩:=i.Jl (s':= { s with E2:=fZ s.E2 k }) o (λc r=> .inl r) F rfl rfl rfl ⟨rfl,rfl,rfl,rfl⟩;exact j q g l 0 p w
 .have e:({ s with E2:=fZ s.E2 k } :CF)=s:=by rw[kx v]
  exact j h X d 4 (by rw[e];exact i) (bw.refl _ _)
theorem TZ(i:Cm h t X s m x A S b a d)(u:s.E1.length<1000000)(k:Int)(j: ∀H g l (e:Int),Cm H t g { s with E1:=fZ s.E1 k } m x A S b a l->bw X h g H->R (.I e) H):
  Cl 81 #[.P A 0,.I k] h R:=by
 refine cg.pZ i.Jj u k (λ_ q o F=> ?_) (λv=> ?_)
 .obtain⟨g,l,p,w,_⟩:=i.Jm (s':= { s with E1:=fZ s.E1 k }) o (λc r=> .inl r) F rfl rfl rfl ⟨rfl,rfl,rfl,rfl⟩;exact j q g l 0 p w
 .have e:({ s with E1:=fZ s.E1 k } :CF)=s:=by rw[kx v]
  exact j h X d 4 (by rw[e];exact i) (bw.refl _ _)
theorem pn(e:Ct h t X s)(l:Small s)(k:Int)(r: ∀H j,Ct H t j (EL s k)->bw X h j H->R (.T #[]) H):
  Cl 60 #[.P t 0,.I k] h R:=by
 obtain⟨m,x,A,S,b,a,d,e⟩:=e;have:=l.e1;have:=l.e2;refine tC.walk ⟨_,au e.dh,RU e ag k λC B E _ i v=>⟨_,rfl,_,au i.dh,TZ i (by show s.E1.length<_;omega) k λD p F _ g w=>⟨_,rfl,_,au g.dh,FL qq g.map (k:=k) λq M u O=>⟨rfl,?_⟩⟩⟩⟩;obtain⟨o,y⟩:=g.del (s':=EL s k) M u O rfl rfl rfl ⟨rfl,rfl,rfl,rfl⟩;exact r q p ⟨_,_,_,_,_,_,_,o⟩ (v.trans (w.trans y))
theorem uC(j:Cm h t X s m x A S b a d)(i:z∈s.L): ∃g∈x,g.abs=z:=by
 rw[<-j.abs]at i;obtain⟨g,k,e⟩:=bp.1 i;exact⟨g,k,e⟩
theorem Cm.Ds{g:CV}{ses:Int}{dl:Nat}(k:Cm h t X s m x A S b a d)(p:g∈x)(E: ∀H,Cm H t X { s with L:=pq s.L g.num ses dl } m (x.map (λz=>if z.num=g.num then { g with ses:=ses,dl:=dl } else z)) A S b a d->bw X h X H->K H):
  aJ h (((AA g.b 0):Addr).add 8) (.I ses) λq=>aJ q (((AA g.b 0):Addr).add 9) (.U (dl:Int)) K:=by
 rw[hH,hH];have B:=k.Hf g p;refine bk B bU λq C Q O=>bk C bU λr y T M=> ?_
 have I:({ g with ses:=ses,dl:=dl } :CV).at r g.b:=y;obtain⟨w,P⟩:=k.change (s':= { s with L:=pq s.L g.num ses dl }) (y:= { g with ses:=ses,dl:=dl }) p rfl rfl rfl I ag (λc v=>by rw[M c v,O c v]) (by
  show pq s.L g.num ses dl=_;unfold pq;refine fb λz J=> ?_
  by_cases e:z.num=g.num
  .rw[af e,af e];obtain⟨u,G,rfl⟩:=uC k J;have e:u.num=g.num:=e;have:u=g:=by
    obtain⟨i,l⟩:=bK G;obtain⟨j,o⟩:=bK p;have F:(x.map CV.num).Nodup:=k.so.imp (λh=>Nat.ne_of_lt h);have D:=(ay.1 l).1;have:=(fa (l:=x.map CV.num) (i:=i) (j:=j) (cQ D) F).1 (by rw[aL,aL,l,o];simp[e]);subst this;rw[l]at o;exact aZ o
   rw[this];rfl
  .rw[ae e,ae e]) rfl rfl ⟨rfl,rfl,rfl,rfl⟩
 exact E r w P
theorem Kt(e:Ct h t X s)(r:Small s)(q:z∈s.L)(p: ∀H j,Ct H t j (sa s z.num)->bw X h j H->R (.T #[]) H):
  Cl 61 #[.P t 0,.I (z.num:Int)] h R:=by
 obtain⟨m,x,A,S,b,a,d,e⟩:=e;obtain⟨B,i,rfl⟩:=uC e q;have:=r.e2;refine wo.walk ⟨_,au e.dh,RU e ag _ λw l y _ g u=>⟨_,rfl,_,au g.dh,_,look g i,_,au g.dh,_,look g i,?_⟩⟩;refine aw.2 (g.Ds (ses:=0) (dl:=0) i λo k v=>p o l ⟨_,_,_,_,_,_,_,k⟩ (u.trans v))
def yU(L:List Cp)(n:Int):Option Cp:=L.find? (λe=>decide ((e.num:Int)=n))
theorem xE{n:Int}(h:yU L n=some z):z∈L/\(z.num:Int)=n:=⟨List.mem_of_find?_eq_some h,cQ (List.find?_some h)⟩
theorem Mp{n:Int}:yU L n=none↔ ∀z∈L,(z.num:Int)≠n:=by unfold yU;simp
def lE(L:List Cp)(n e:Int):Int:=match yU L n with|none=>4|some z=>if z.ses=0\/z.ses≠e then 14 else 0
theorem ig(i:Ct h t X s)(num j:Int)(k: ∀q,R (.T #[.pointer q,.I (lE s.L num j)]) h):
  Cl 154 #[.P t 0,.I num,.I j] h R:=by
 obtain⟨m,x,A,S,b,a,d,i⟩:=i;refine wm.walk (gr i ⟨_,rfl,?_⟩);rw[dy];unfold lE at k;cases p:yU s.L num with
 |none=>
  rw[p]at k;have v: ∀g∈x,(g.num:Int)≠num:=λg r=>Mp.1 p g.abs (by rw[<-i.abs];exact bz r)
  refine⟨_,au i.dh,_,QV i v,?_⟩;rw[af (by rfl)];exact k none
 |some z=>
  rw[p]at k;dsimp only at k;obtain⟨w,rfl⟩:=xE p;obtain⟨g,r,rfl⟩:=uC i w;have L:=look i r;have C:=i.Hf g r;refine⟨_,au i.dh,_,L,?_⟩;rw[ae bU];refine aG.of λJ u=>⟨_,au i.dh,_,L,aw.2 ⟨_,au C,?_⟩⟩
  have bad:(g.ses=0\/g.ses≠j)->J true h:=λhb=>by
   subst u;simp only[bm];have:=k none;have e:(if g.abs.ses=0\/g.abs.ses≠j then(14:Int)else 0)=14:=af hb;rwa[e]at this
  by_cases l:g.ses=0
  .rw[af (cQ l)];exact bad (.inl l)
  .rw[ae (cQ l)];refine⟨_,au i.dh,_,L,aw.2 ⟨_,au C,?_⟩⟩;by_cases o:g.ses=j
   .have e:(g.ses !=j)=false:=by simp[o]
    rw[e];subst u;simp only[ar,aP];refine⟨_,au i.dh,_,L,?_⟩;have E:(if g.abs.ses=0\/g.abs.ses≠j then(14:Int)else 0)=0:=ae (λhb=>by
     rcases hb with hb|hb
     .exact l hb
     .exact hb o)
    have:=k (Sa g.b 0);rwa[E]at this
   .have e:(g.ses !=j)=true:=by simpa using o
    rw[e];exact bad (.inr o)
def tD(s:CF)(n e:Int):CF:=if lE s.L n e=0 then { EL s n with gF:=s.gF+1 } else s
theorem Ct.bump(e:Ct h t X s)(p:s.gF<=100000)(j: ∀H,Ct H t X { s with gF:=s.gF+1 } ->bw X h X H->K H):
  ∃(u:Int),aT h (AA t 2)=some (.I u)/\aJ h (AA t 2) (.I (IntKind.wrap .i64 (u+1))) K:=by
 obtain⟨m,x,A,S,b,a,d,e⟩:=e;refine⟨_,au e.dh,bk e.dh bU λi C k o=> ?_⟩;rw[bJ ag ag]at C;obtain⟨g,l⟩:=e.field (s':= { s with gF:=s.gF+1 }) rfl rfl rfl C k o;exact j i ⟨_,_,_,_,_,_,_,g⟩ l
theorem Ct.T0(e:Ct h t X s)(p:s.over<=100000)(j: ∀H,Ct H t X { s with over:=s.over+1 } ->bw X h X H->K H):
  ∃(u:Int),aT h (AA t 3)=some (.I u)/\aJ h (AA t 3) (.I (IntKind.wrap .i64 (u+1))) K:=by
 obtain⟨m,x,A,S,b,a,d,e⟩:=e;refine⟨_,au e.dh,bk e.dh bU λi C k o=> ?_⟩;rw[bJ ag ag]at C;obtain⟨g,l⟩:=e.field (s':= { s with over:=s.over+1 }) rfl rfl rfl C k o;exact j i ⟨_,_,_,_,_,_,_,g⟩ l
theorem Ct.T1(e:Ct h t X s)(p:s.gone<=100000)(j: ∀H,Ct H t X { s with gone:=s.gone+1 } ->bw X h X H->K H):
  ∃(u:Int),aT h (AA t 4)=some (.I u)/\aJ h (AA t 4) (.I (IntKind.wrap .i64 (u+1))) K:=by
 obtain⟨m,x,A,S,b,a,d,e⟩:=e;refine⟨_,au e.dh,bk e.dh bU λi C k o=> ?_⟩;rw[bJ ag ag]at C;obtain⟨g,l⟩:=e.field (s':= { s with gone:=s.gone+1 }) rfl rfl rfl C k o;exact j i ⟨_,_,_,_,_,_,_,g⟩ l
theorem Jn(i:Ct h t X s)(w:Small s)(v:s.gF<=100000)(num g:Int)(l: ∀H j,Ct H t j (tD s num g)->bw X h j H->R (.I (lE s.L num g)) H):
  Cl 150 #[.P t 0,.I num,.I g] h R:=by
 refine xB.walk (ig i num g λq=>⟨_,_,rfl,aG.of λJ k=> ?_⟩);by_cases e:lE s.L num g=0
 .rw[af (cQ e)];refine pn i w num λC r o y=>⟨rfl,o.bump v λu p B=> ?_⟩
  subst k;exact l u r (by unfold tD;rw[af e];exact p) (y.trans B)
 .rw[ae (cQ e)];subst k;exact l h X (by unfold tD;rw[ae e];exact i) (bw.refl _ _)
def EM(s:CF)(n e:Int):CF:=if lE s.L n e=0 then sa s n.toNat else s
theorem Jo(i:Ct h t X s)(y:Small s)(num g:Int)(l: ∀H j,Ct H t j (EM s num g)->bw X h j H->R (.I (lE s.L num g)) H):
  Cl 104 #[.P t 0,.I num,.I g] h R:=by
 refine r8.walk (ig i num g λq=>⟨_,_,rfl,aG.of λJ k=> ?_⟩);by_cases e:lE s.L num g=0
 .rw[af (cQ e)];obtain⟨z,v⟩: ∃z,yU s.L num=some z:=by
   cases u:yU s.L num with
   |none=>unfold lE at e;rw[u]at e;cases e
   |some z=>exact⟨z,rfl⟩
  obtain⟨w,rfl⟩:=xE v;refine Kt i y w λr p o B=>⟨rfl,?_⟩
  subst k;exact l r p (by unfold EM;rw[af e,aH];exact o) B
 .rw[ae (cQ e)];subst k;exact l h X (by unfold EM;rw[ae e];exact i) (bw.refl _ _)

end gZ
end
end Go.Proofs.YtkdgpmeojgokdaaGreatDoor
