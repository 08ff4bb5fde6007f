/-
  FU is proved here: parts of x7 proof, one behind x7 other (texts of this work, merged by a program; IA x7 theorem IB not use is left out). No condition.
-/
import Derived.Test.YtimiaphmdidfhaaGreatDoorProg
import Derived.Shelf.Strconv.Itoa4
import Derived.Ground.NamesProg
import Derived.Test.YtimiaphmdidfhaaGreatDoorMArwne
set_option maxRecDepth 100000
set_option maxHeartbeats 4000000
namespace Go.Proofs.YtimiaphmdidfhaaGreatDoor
open Go.Den
open IntKind (wrap)
open Int (toNat)
section
open Go.kA
namespace gm
open jA cf iE
variable {h H:aj} {R:fD} {t:Nat} {X:Ft} {s f:CF} {m A b:Nat} {x:List CV} {S a:Nat→Prop} {d:Nat→Option Nat} {n c:Nat}
variable {z:Cp} {K:aj->Prop} {L:List Cp}
def CP(L:List Cp)(n:Int):List Cp:=L.filter (λe=> !decide ((e.num:Int)=n))
def pF(L:List Cp)(n:Nat)(g:Int)(D:Nat):List Cp:=L.map (λe=>if e.num=n then { e with ses:=g,dl:=D } else e)
def Fq(s:CF)(n:Int):CF:= { s with L:=CP s.L n,E1:=fU s.E1 n,E2:=fU s.E2 n }
def oG(s:CF)(n:Nat):CF:= { s with L:=pF s.L n 0 0,E2:=fU s.E2 (n:Int) }
theorem pB(L:List E)(k:Int):(fU L k).length<=L.length:=cP _ _
structure Small (s:CF):Prop where
 n:s.next<=50000
 l:s.L.length<=50000
 e1:s.E1.length<=50000
 e2:s.E2.length<=50000
theorem Cm.len(e:Cm h t X s m x A S b a d):x.length=s.L.length:=by rw[<-e.abs,ay]
theorem gL(P: ∀H t X,Ct H t X ⟨[],1,0,0,0, [], []⟩->KA h X H->R (.P t 0) H):Cl 17 #[] h R:=by
 classical
 refine JK.walk (cK ?_);have q:Fr No h (h.push (.map #[] 0)):=Fr.push _ _;have M:=jV.push (α:=Int) h gO;have Z:(h.push (.map #[] 0)).size=h.size+1:=dk _;generalize h.push (.map #[] 0)=J at q M Z⊢;refine cf.gL λA S r k G j=>⟨_,rfl,cf.gL λb a e o I i=>⟨_,rfl,cK ?_⟩⟩
 have F:Fr No e (e.push (.C #[.map (some h.size),.I 1,.I 0,.I 0,.I 0,.P A 0,.P b 0] 119)):=Fr.push _ _;have z2:=j.1;have z3:=i.1;have U:(e.push (.C #[.map (some h.size),.I 1,.I 0,.I 0,.I 0,.P A 0,.P b 0] 119)).size=e.size+1:=dk _;have B:(e.push (.C #[.map (some h.size),.I 1,.I 0,.I 0,.I 0,.P A 0,.P b 0] 119))[e.size]? =some (.C #[.map (some h.size),.I 1,.I 0,.I 0,.I 0,.P A 0,.P b 0] 119 (0,0)):=bZ;generalize e.push (.C #[.map (some h.size),.I 1,.I 0,.I 0,.I 0,.P A 0,.P b 0] 119)=u at F U B⊢;have l: ∀c,S c->J.size<=c/\c<r.size:=λc hc=>⟨G c hc,k.lt hc⟩
 have v: ∀c,a c->r.size<=c/\c<e.size:=λc hc=>⟨I c hc,o.lt hc⟩
 let d:Nat->Option Nat:=λc=>if c=e.size then some 0 else if c=h.size then some 1 else if S c then some 2 else if a c then some 3 else none
 have Q: ∀c,S c->d c=some 2:=λc hc=>by
  have:=l c hc;show(if c=e.size then some 0 else if c=h.size then some 1 else if S c then some 2 else if a c then some 3 else none)=_;rw[dB,dB,ag hc]
 have T: ∀c,a c->d c=some 3:=λc hc=>by
  have V:=v c hc;show(if c=e.size then some 0 else if c=h.size then some 1 else if S c then some 2 else if a c then some 3 else none)=_;rw[dB,dB,af (λO=>bR (l c O)),ag hc]
 have w: ∀c,d c≠none->h.size<=c/\c<u.size:=λc hc=>by
  by_cases D:c=e.size
  .omega
  by_cases E:c=h.size
  .omega
  by_cases C:S c
  .have:=l c C;omega
  by_cases p:a c
  .have:=v c p;omega
  exact absurd (show(if c=e.size then some 0 else if c=h.size then some 1 else if S c then some 2 else if a c then some 3 else none)=none by rw[af D,af E,af C,af p]) hc
 refine P u e.size ⟨λc=>d c≠none,λ_=>False⟩ ⟨h.size, [],A,S,b,a,d,⟨B,(M.frame (j.tt i) id).frame F id,(λy g=>by cases g),rfl,(λy g=>by cases g),k.frame (i.tt F) bX,o.frame F bX,ag rfl,?_,Q,T,(λy g=>by cases g),λc=>fi,λc hc=>hc.elim,λc hc=>(w c hc).2,.nil⟩⟩ ⟨q.tt (j.tt (i.tt F)),λc hc=> ?_⟩
 .show(if h.size=e.size then some 0 else if h.size=h.size then some 1 else if S h.size then some 2 else if a h.size then some 3 else none)=some 1;rw[dB,ag rfl]
 .rcases hc with hc|hc
  .exact(w c hc).1
  .exact hc.elim
theorem Sf(i:Cm h t X s m x A S b a d)(u:s.E2.length<1000000)(k:Int)(j: ∀H g l (e:Int),Cm H t g { s with E2:=fU s.E2 k } m x A S b a l->bA X h g H->R (.I e) H):
  Cl 116 #[.P b 0,.I k] h R:=by
 refine cf.qp i.JM u k (λ_ q o F=> ?_) (λv=> ?_)
 .obtain⟨g,l,p,w,_⟩:=i.JN (s':= { s with E2:=fU s.E2 k }) o (λc r=> .inl r) F rfl rfl rfl ⟨rfl,rfl,rfl,rfl⟩;exact j q g l 0 p w
 .have e:({ s with E2:=fU s.E2 k } :CF)=s:=by rw[kI v]
  exact j h X d 4 (by rw[e];exact i) (bA.refl _ _)
theorem Uh(i:Cm h t X s m x A S b a d)(u:s.E1.length<1000000)(k:Int)(j: ∀H g l (e:Int),Cm H t g { s with E1:=fU s.E1 k } m x A S b a l->bA X h g H->R (.I e) H):
  Cl 116 #[.P A 0,.I k] h R:=by
 refine cf.qp i.JL u k (λ_ q o F=> ?_) (λv=> ?_)
 .obtain⟨g,l,p,w,_⟩:=i.JO (s':= { s with E1:=fU s.E1 k }) o (λc r=> .inl r) F rfl rfl rfl ⟨rfl,rfl,rfl,rfl⟩;exact j q g l 0 p w
 .have e:({ s with E1:=fU s.E1 k } :CF)=s:=by rw[kI v]
  exact j h X d 4 (by rw[e];exact i) (bA.refl _ _)
theorem pE(e:Ct h t X s)(l:Small s)(k:Int)(r: ∀H j,Ct H t j (Fq s k)->bA X h j H->R (.T #[]) H):
  Cl 80 #[.P t 0,.I k] h R:=by
 obtain⟨m,x,A,S,b,a,d,e⟩:=e;have:=l.e1;have:=l.e2;refine tJ.walk ⟨_,ak e.cW,Sf e ae k λC B E _ i v=>⟨_,rfl,_,ak i.cW,Uh i (by show s.E1.length<_;omega) k λD p F _ g w=>⟨_,rfl,_,ak g.cW,Gr oF g.map (k:=k) λq M u O=>⟨rfl,?_⟩⟩⟩⟩;obtain⟨o,y⟩:=g.del (s':=Fq s k) M u O rfl rfl rfl ⟨rfl,rfl,rfl,rfl⟩;exact r q p ⟨_,_,_,_,_,_,_,o⟩ (v.trans (w.trans y))
theorem uT(j:Cm h t X s m x A S b a d)(i:z∈s.L): ∃g∈x,g.abs=z:=by
 rw[<-j.abs]at i;obtain⟨g,k,e⟩:=bp.1 i;exact⟨g,k,e⟩
theorem Cm.DY{g:CV}{ses:Int}{dl:Nat}(k:Cm h t X s m x A S b a d)(p:g∈x)(E: ∀H,Cm H t X { s with L:=pF s.L g.num ses dl } m (x.map (λz=>if z.num=g.num then { g with ses:=ses,dl:=dl } else z)) A S b a d->bA X h X H->K H):
  aT h (((AA g.b 0):Addr).add 8) (.I ses) λq=>aT q (((AA g.b 0):Addr).add 9) (.U (dl:Int)) K:=by
 rw[hY,hY];have B:=k.FQ g p;refine bD B bV λq C Q O=>bD C bV λr y T M=> ?_
 have I:({ g with ses:=ses,dl:=dl } :CV).at r g.b:=y;obtain⟨w,P⟩:=k.change (s':= { s with L:=pF s.L g.num ses dl }) (y:= { g with ses:=ses,dl:=dl }) p rfl rfl rfl I ae (λc v=>by rw[M c v,O c v]) (by
  show pF s.L g.num ses dl=_;unfold pF;refine eH λz J=> ?_
  by_cases e:z.num=g.num
  .rw[ag e,ag e];obtain⟨u,G,rfl⟩:=uT k J;have e:u.num=g.num:=e;have:u=g:=by
    obtain⟨i,l⟩:=bO G;obtain⟨j,o⟩:=bO p;have F:(x.map CV.num).Nodup:=k.so.imp (λh=>Nat.ne_of_lt h);have D:=(aE.1 l).1;have:=(eE (l:=x.map CV.num) (i:=i) (j:=j) (cI D) F).1 (by rw[aD,aD,l,o];simp[e]);subst this;rw[l]at o;exact aZ o
   rw[this];rfl
  .rw[af e,af e]) rfl rfl ⟨rfl,rfl,rfl,rfl⟩
 exact E r w P
theorem KX(e:Ct h t X s)(r:Small s)(q:z∈s.L)(p: ∀H j,Ct H t j (oG s z.num)->bA X h j H->R (.T #[]) H):
  Cl 81 #[.P t 0,.I (z.num:Int)] h R:=by
 obtain⟨m,x,A,S,b,a,d,e⟩:=e;obtain⟨B,i,rfl⟩:=uT e q;have:=r.e2;refine wz.walk ⟨_,ak e.cW,Sf e ae _ λw l y _ g u=>⟨_,rfl,_,ak g.cW,_,look g i,_,ak g.cW,_,look g i,?_⟩⟩;refine ax.2 (g.DY (ses:=0) (dl:=0) i λo k v=>p o l ⟨_,_,_,_,_,_,_,k⟩ (u.trans v))
def zp(L:List Cp)(n:Int):Option Cp:=L.find? (λe=>decide ((e.num:Int)=n))
theorem xN{n:Int}(h:zp L n=some z):z∈L/\(z.num:Int)=n:=⟨List.mem_of_find?_eq_some h,cI (List.find?_some h)⟩
theorem MJ{n:Int}:zp L n=none↔ ∀z∈L,(z.num:Int)≠n:=by unfold zp;simp
def lP(L:List Cp)(n e:Int):Int:=match zp L n with|none=>4|some z=>if z.ses=0\/z.ses≠e then 14 else 0
theorem iu(i:Ct h t X s)(num j:Int)(k: ∀q,R (.T #[.pointer q,.I (lP s.L num j)]) h):
  Cl 204 #[.P t 0,.I num,.I j] h R:=by
 obtain⟨m,x,A,S,b,a,d,i⟩:=i;refine wy.walk (fT i ⟨_,rfl,?_⟩);rw[dB];unfold lP at k;cases p:zp s.L num with
 |none=>
  rw[p]at k;have v: ∀g∈x,(g.num:Int)≠num:=λg r=>MJ.1 p g.abs (by rw[<-i.abs];exact bz r)
  refine⟨_,ak i.cW,_,Rl i v,?_⟩;rw[ag (by rfl)];exact k none
 |some z=>
  rw[p]at k;dsimp only at k;obtain⟨w,rfl⟩:=xN p;obtain⟨g,r,rfl⟩:=uT i w;have L:=look i r;have C:=i.FQ g r;refine⟨_,ak i.cW,_,L,?_⟩;rw[af bV];refine aH.of λJ u=>⟨_,ak i.cW,_,L,ax.2 ⟨_,ak C,?_⟩⟩
  have bad:(g.ses=0\/g.ses≠j)->J true h:=λhb=>by
   subst u;simp only[ba];have:=k none;have e:(if g.abs.ses=0\/g.abs.ses≠j then(14:Int)else 0)=14:=ag hb;rwa[e]at this
  by_cases l:g.ses=0
  .rw[ag (cI l)];exact bad (.inl l)
  .rw[af (cI l)];refine⟨_,ak i.cW,_,L,ax.2 ⟨_,ak C,?_⟩⟩;by_cases o:g.ses=j
   .have e:(g.ses !=j)=false:=by simp[o]
    rw[e];subst u;simp only[aq,aL];refine⟨_,ak i.cW,_,L,?_⟩;have E:(if g.abs.ses=0\/g.abs.ses≠j then(14:Int)else 0)=0:=af (λhb=>by
     rcases hb with hb|hb
     .exact l hb
     .exact hb o)
    have:=k (Sa g.b 0);rwa[E]at this
   .have e:(g.ses !=j)=true:=by simpa using o
    rw[e];exact bad (.inr o)
def tL(s:CF)(n e:Int):CF:=if lP s.L n e=0 then { Fq s n with gE:=s.gE+1 } else s
theorem Ct.bump(e:Ct h t X s)(p:s.gE<=100000)(j: ∀H,Ct H t X { s with gE:=s.gE+1 } ->bA X h X H->K H):
  ∃(u:Int),aY h (AA t 2)=some (.I u)/\aT h (AA t 2) (.I (IntKind.wrap .i64 (u+1))) K:=by
 obtain⟨m,x,A,S,b,a,d,e⟩:=e;refine⟨_,ak e.cW,bD e.cW bV λi C k o=> ?_⟩;rw[bC ae ae]at C;obtain⟨g,l⟩:=e.field (s':= { s with gE:=s.gE+1 }) rfl rfl rfl C k o;exact j i ⟨_,_,_,_,_,_,_,g⟩ l
theorem Ct.Ui(e:Ct h t X s)(p:s.over<=100000)(j: ∀H,Ct H t X { s with over:=s.over+1 } ->bA X h X H->K H):
  ∃(u:Int),aY h (AA t 3)=some (.I u)/\aT h (AA t 3) (.I (IntKind.wrap .i64 (u+1))) K:=by
 obtain⟨m,x,A,S,b,a,d,e⟩:=e;refine⟨_,ak e.cW,bD e.cW bV λi C k o=> ?_⟩;rw[bC ae ae]at C;obtain⟨g,l⟩:=e.field (s':= { s with over:=s.over+1 }) rfl rfl rfl C k o;exact j i ⟨_,_,_,_,_,_,_,g⟩ l
theorem Ct.Uj(e:Ct h t X s)(p:s.gone<=100000)(j: ∀H,Ct H t X { s with gone:=s.gone+1 } ->bA X h X H->K H):
  ∃(u:Int),aY h (AA t 4)=some (.I u)/\aT h (AA t 4) (.I (IntKind.wrap .i64 (u+1))) K:=by
 obtain⟨m,x,A,S,b,a,d,e⟩:=e;refine⟨_,ak e.cW,bD e.cW bV λi C k o=> ?_⟩;rw[bC ae ae]at C;obtain⟨g,l⟩:=e.field (s':= { s with gone:=s.gone+1 }) rfl rfl rfl C k o;exact j i ⟨_,_,_,_,_,_,_,g⟩ l
theorem JP(i:Ct h t X s)(w:Small s)(v:s.gE<=100000)(num g:Int)(l: ∀H j,Ct H t j (tL s num g)->bA X h j H->R (.I (lP s.L num g)) H):
  Cl 200 #[.P t 0,.I num,.I g] h R:=by
 refine xK.walk (iu i num g λq=>⟨_,_,rfl,aH.of λJ k=> ?_⟩);by_cases e:lP s.L num g=0
 .rw[ag (cI e)];refine pE i w num λC r o y=>⟨rfl,o.bump v λu p B=> ?_⟩
  subst k;exact l u r (by unfold tL;rw[ag e];exact p) (y.trans B)
 .rw[af (cI e)];subst k;exact l h X (by unfold tL;rw[af e];exact i) (bA.refl _ _)
def Fs(s:CF)(n e:Int):CF:=if lP s.L n e=0 then oG s n.toNat else s
theorem JQ(i:Ct h t X s)(y:Small s)(num g:Int)(l: ∀H j,Ct H t j (Fs s num g)->bA X h j H->R (.I (lP s.L num g)) H):
  Cl 139 #[.P t 0,.I num,.I g] h R:=by
 refine sk.walk (iu i num g λq=>⟨_,_,rfl,aH.of λJ k=> ?_⟩);by_cases e:lP s.L num g=0
 .rw[ag (cI e)];obtain⟨z,v⟩: ∃z,zp s.L num=some z:=by
   cases u:zp s.L num with
   |none=>unfold lP at e;rw[u]at e;cases e
   |some z=>exact⟨z,rfl⟩
  obtain⟨w,rfl⟩:=xN v;refine KX i y w λr p o B=>⟨rfl,?_⟩
  subst k;exact l r p (by unfold Fs;rw[ag e,aF];exact o) B
 .rw[af (cI e)];subst k;exact l h X (by unfold Fs;rw[af e];exact i) (bA.refl _ _)

end gm
end
section
namespace dM
open hZ (It)
open jA (Ev)
variable {h H:aj} {s j:Nat} {X:Ft}
structure SS where
 A:List fw.fw
 G:List gD.Rg
 C:gm.CF
 B:hZ.BS
 Q:List It
 e:Ev
 tm:Nat
 sq:Nat
 now:Nat
 rf:Nat
structure pG where
 t:Nat
 r:Nat
 c:Nat
 o:Nat
 p:Nat
 k:Nat
abbrev Mk(h:aj)(k:Nat)(e:Ev)(t sq:Nat):Prop:=h[k]? =some (.cells #[.bool e.km,.int .u64 e.node,.int .u64 e.gy,.string e.host,.string e.jN,.int .u64 (t:Int),.int .u64 (sq:Int),.bool true] 108 (0,0))
abbrev Bk(h:aj)(s:Nat)(I:pG)(n r:Nat):Prop:=h[s]? =some (.cells #[pt I.t,pt I.r,pt I.c,pt I.o,pt I.p,pt I.k,.int .u64 (n:Int),.int .i64 (r:Int)] 43 (0,0))
def part(σ:SS)(I:pG)(s:Nat)(i:Nat)(h:aj)(X:Ft):Prop:=match i with
 |0=>fw.Has h I.t X σ.A
 |1=>gD.Tb h I.r X σ.G
 |2=>gm.Ct h I.c X σ.C
 |3=>hZ.za h I.o X σ.B
 |4=> ∃m,Pu h I.p m σ.Q/\only X λy=>y=I.p\/y=m
 |5=>Mk h I.k σ.e σ.tm σ.sq/\only X λy=>y=I.k
 |6=>Bk h s I σ.now σ.rf/\only X λy=>y=s
 |_=> ∀y,¬In X y
theorem part.lt{σ:SS}{I:pG}{i:Nat}(a:part σ I s i h X)(y:Nat)(hy:In X y):y<h.size:=by
 rcases i with _|_|_|_|_|_|_|i
 .exact fw.Has.lt a y hy
 .exact gD.Tb.lt a y hy
 .exact gm.Ct.lt a y hy
 .exact hZ.za.lt a y hy
 .obtain⟨m,P,o⟩:=a;rcases hy with hy|hy
  .rcases(o y).1.1 hy with rfl|rfl
   .exact P.lt.1
   .exact P.lt.2
  .exact absurd hy (o y).2
 .obtain⟨P,o⟩:=a;rcases hy with hy|hy
  .rw[(o y).1.1 hy];exact aC P
  .exact absurd hy (o y).2
 .obtain⟨P,o⟩:=a;rcases hy with hy|hy
  .rw[(o y).1.1 hy];exact aC P
  .exact absurd hy (o y).2
 .exact absurd hy (a y)
theorem part.frame{σ:SS}{I:pG}{i:Nat}{Q:Nat->Prop}(a:part σ I s i h X)(f:Fr Q h H)(b: ∀y,In X y->¬Q y):part σ I s i H X:=by
 rcases i with _|_|_|_|_|_|_|i
 .exact fw.Has.frame a f b
 .exact gD.Tb.frame a f b
 .exact gm.Ct.frame a f b
 .exact hZ.za.frame a f b
 .obtain⟨m,P,o⟩:=a;exact⟨m,P.frame f (b _ (.inl ((o _).1.2 (.inl rfl)))) (b _ (.inl ((o _).1.2 (.inr rfl)))),o⟩
 .obtain⟨P,o⟩:=a;exact⟨f.get P (b _ (.inl ((o _).1.2 rfl))),o⟩
 .obtain⟨P,o⟩:=a;exact⟨f.get P (b _ (.inl ((o _).1.2 rfl))),o⟩
 .exact a
theorem part.vA{σ:SS}{I:pG}{i:Nat}(b:part σ I s i h X)(y:Nat)(d:X.M y)(c:X.D y):False:=by
 rcases i with _|_|_|_|_|_|_|i
 .exact fw.Has.vA b y d c
 .obtain⟨m,b⟩:=b;exact b.d y c
 .obtain⟨m,x,A,e,g,f,l,b⟩:=b;exact(b.mm y).1 d (b.dd y c).1
 .obtain⟨L,⟨n,k,x,a,S,b⟩,_⟩:=b;exact b.vA y d c
 .obtain⟨m,P,o⟩:=b;exact(o y).2 c
 .exact(b.2 y).2 c
 .exact(b.2 y).2 c
 .exact b y (.inl d)
theorem part.st(σ:SS)(I:pG)(s:Nat):AD (part σ I s):=⟨part.lt,part.frame,part.vA⟩
def Pt(h:aj)(s:Nat)(X:Ft)(I:pG)(σ:SS):Prop:=I0 (part σ I s) h X
variable {I : pG} {σ : SS}
theorem Pt.lt(a:Pt h s X I σ)(y:Nat)(b:X.M y\/X.D y):y<h.size:=I0.lt (part.st _ _ _) a y b
theorem Pt.vA(c:Pt h s X I σ)(y:Nat)(a:X.M y)(b:X.D y):False:=I0.vA (part.st _ _ _) c y a b
theorem Pt.frame{Q:Nat->Prop}(a:Pt h s X I σ)(f:Fr Q h H)(b: ∀y,X.M y\/X.D y->¬Q y):Pt H s X I σ:=I0.frame (part.st _ _ _) a f b
theorem Pt.on(a:Pt h s X I σ)(f:Fr No h H):Pt H s X I σ:=a.frame f bX
theorem Pt.use(b:Pt h s X I σ)(j:Nat): ∃Z,part σ I s j h Z/\(∀y,Z.M y->X.M y)/\(∀y,Z.D y->X.D y)/\∀H z a,part a I s j H z->bA Z h z H->(∀i,i≠j->part a I s i=part σ I s i)->
  ∃x,Pt H s x I a/\bA X h x H/\(∀y,z.D y->x.D y)/\∀y,h.size<=y->x.M y\/x.D y->z.M y\/z.D y:=by
 obtain⟨Z,c,d,e,go⟩:=I0.use (part.st σ I s) b j;exact⟨Z,c,d,e,λH z a=>go H z (part a I s)⟩
theorem Pt.cW(a:Pt h s X I σ):Bk h s I σ.now σ.rf:=by obtain⟨y,b,_⟩:=a;exact(b 6).1
theorem Pt.box(a:Pt h s X I σ): ∃Z,hZ.za h I.o Z σ.B:=by obtain⟨y,b,_⟩:=a;exact⟨_,b 3⟩
theorem ss{i:Nat}(a:List fw.fw)(b:i≠0):part { σ with A:=a } I s i=part σ I s i:=by rcases i with _|_|_|_|_|_|_|i<;>first|rfl|exact absurd rfl b
theorem JR{i:Nat}(a:List gD.Rg)(b:i≠1):part { σ with G:=a } I s i=part σ I s i:=by rcases i with _|_|_|_|_|_|_|i<;>first|rfl|exact absurd rfl b
theorem xO{i:Nat}(a:gm.CF)(b:i≠2):part { σ with C:=a } I s i=part σ I s i:=by rcases i with _|_|_|_|_|_|_|i<;>first|rfl|exact absurd rfl b
theorem Fu{i:Nat}(a:hZ.BS)(b:i≠3):part { σ with B:=a } I s i=part σ I s i:=by rcases i with _|_|_|_|_|_|_|i<;>first|rfl|exact absurd rfl b
theorem JS{i:Nat}(a:List It)(b:i≠4):part { σ with Q:=a } I s i=part σ I s i:=by rcases i with _|_|_|_|_|_|_|i<;>first|rfl|exact absurd rfl b
theorem Tf{i:Nat}(a:Ev)(b c:Nat)(d:i≠5):part { σ with e:=a,tm:=b,sq:=c } I s i=part σ I s i:=by rcases i with _|_|_|_|_|_|_|i<;>first|rfl|exact absurd rfl d
theorem Tg{i:Nat}(a b:Nat)(c:i≠6):part { σ with now:=a,rf:=b } I s i=part σ I s i:=by rcases i with _|_|_|_|_|_|_|i<;>first|rfl|exact absurd rfl c
end dM
end
section
open Go.kA
namespace gm
open jA cf iE
variable {h H:aj} {R:fD} {t:Nat} {X:Ft} {s g:CF} {m A a:Nat} {x:List CV} {S b:Nat→Prop} {l:Nat→Option Nat} {p:ck} {n c:Nat}
variable {k:Int} {K:List Int} {i:Nat} {f:CF->Int->CF}
def zq(d:Ev)(len:Nat)(T:Int):Bool:=dc d && (!decide (d=Ev.zero) && (decide (1<=len) && (decide (len<=600) && decide (T<=1099511627776))))
theorem MK(e:Ev)(w: iq h R (.B (zq e n k))):Cl 218 #[lL e,.L p n c,.U k] h R:=by
 refine CO.walk (az.box λB y E j u=>az.ld j (jA.fK e λv F=>⟨_,rfl,?_⟩));have d:=w v (u.tt F);unfold zq at d;by_cases q:dc e=true
 .rw[ag q];rw[q,eI]at d;refine az.ld (F.get j id) ⟨_,vD (y:=.zero) (x:=e) rfl rfl,?_⟩;by_cases Q:e=.zero
  .rw[aw Q,dB];rw[aw Q]at d;exact d
  .rw[aB Q,gk];rw[aB Q,dS,eI]at d;by_cases o:1<=n
   .rw[gk];rw[aw o,eI]at d;by_cases r:n<=600
    .rw[gk];rw[aw r,eI]at d;exact d
    .rw[af (by simp;omega)];rw[aB r]at d;exact d
   .rw[af (by simp;omega)];rw[aB o]at d;exact d
 .rw[af q];have q:dc e=false:=by simpa using q
  rw[q]at d;exact d
def mA(L:List Cp)(d:Ev):List Cp:=L.filter (λy=>decide (y.e=d))
theorem JT(e:Cm h t X s m x A S a b l)(d:Ev):(x.filter (λy=>decide (y.e=d))).length=(mA s.L d).length:=by
 unfold mA;rw[<-e.abs,dQ,ay];rfl
def jJ(s:CF)(e:Ev)(d:cM)(T:Nat):Int:=if zq e d.length (T:Int)=true then(if(mA s.L e).length≥16 then 15 else 0)else 1
def BG(s:CF)(e:Ev)(d:cM)(T:Nat):Int:=if jJ s e d T=0 then(s.next:Int)else 0
def kT(s:CF)(e:Ev)(d:cM)(T:Nat):CF:=if jJ s e d T=0 then { s with L:=s.L++ [⟨s.next,e,d,T,0,0⟩],next:=s.next+1,E1:=Br s.E1 (s.next:Int) (T:Int) } else s
theorem BH(o:Ct h t X s)(V:Small s)(e': ∀k'∈s.L,k'.num<s.next)(l':1<=s.next)(j:Ev){d:cM}(T:Nat)(d':k=(T:Int))(hr:Row h p (bc d))(hn:n=d.length)(g':d≠ []->∀C,p=some C->¬X.M C.block)(r: ∀H Z,Ct H t Z (kT s j d T)->bA X h Z H->R (.T #[.I (BG s j d T),.I (jJ s j d T)]) H):
  Cl 152 #[.P t 0,lL j,.L p n c,.U k] h R:=by
 subst d' hn;obtain⟨m,x,A,S,a,b,l,o⟩:=o;have sn:=V.n;have sl:=V.l;have se:=V.e1;have xl:=o.len;refine xI.walk (az.box λD h1 eb Q f1=> ?_);have H1:=o.on f1;refine fT H1 ⟨_,rfl,?_⟩;rw[dB];refine az.ld Q (MK j λh3 M=>⟨_,rfl,?_⟩);have F:=f1.tt M;by_cases q:zq j d.length (T:Int)=true
 .rw[q,dB];refine az.ld (M.get Q id) (wi (o.on F) j ae λh4 p4 c4 o4 g4 f4=>⟨_,_,_,rfl,?_⟩);have z:=F.tt f4;have u:=o.on z;have a':=(M.tt f4).get Q id;rw[JT o j];by_cases q1:(mA s.L j).length≥16
  .rw[gk];have e:jJ s j d T=15:=by unfold jJ;rw[ag q,ag q1]
   have E:BG s j d T=0:=af (by rw[e];decide);have w:kT s j d T=s:=af (by rw[e];decide);rw[e,E,w]at r;exact r h4 X ⟨_,_,_,_,_,_,_,u⟩ (bA.hH z)
  .rw[af (by simp;omega)];have e:jJ s j d T=0:=by unfold jJ;rw[ag q,af q1]
   have E:BG s j d T=(s.next:Int):=ag e;have w:kT s j d T= { s with L:=s.L++ [⟨s.next,j,d,T,0,0⟩],next:=s.next+1,E1:=Br s.E1 (s.next:Int) (T:Int) } :=ag e;rw[e,E,w]at r;have lb:D<h4.size:=aC a';have nb: ∀{c},l c≠none->c≠D:=fun {c} y ec=>by have:=o.FR c y;omega
   refine⟨_,ak u.cW,_,ak u.cW,bD u.cW bV λI c5 s5 o5=> ?_⟩;rw[bC ae ae]at c5;obtain⟨v,b'⟩:=u.field (s':= { s with next:=s.next+1 }) rfl rfl rfl c5 s5 o5;have U:Ev.at I D j:=by
    unfold Ev.at az.at;rw[o5 D (fJ (nb (by rw[o.l0];simp)))];exact a'
   have r5:Row I p (bc d):=(hr.frame z bX).frame b'.fr (λC ea=>g' (by rintro rfl;simp[zq]at q) C ea);refine⟨_,ak v.cW,az.ld U (gP r5 rfl (by
    unfold zq at q;simp only[aU,aX]at q;omega) λp6 c6 h6 O G g6=>⟨_,_,_,rfl,?_⟩)⟩
   refine⟨az.held (G.get U id),ak (G.get v.cW id),aQ.box λL h7 e7 c' P=> ?_⟩;have B:=G.tt P;have z5:I.size<=h6.size:=G.1;refine⟨az.held (B.get U id),ak (B.get v.cW id),Av oF (v.on B).map (k:=(s.next:Int)) λh8 M8 s8 o8=> ?_⟩;obtain⟨X8,m',J,h'⟩:=v.add (s':= { s with L:=s.L++ [⟨s.next,j,d,T,0,0⟩],next:=s.next+1 }) (y:=⟨s.next,L,j,⟨p6,c6,d⟩,T,0,0⟩) B c' (by show I.size<=L;omega) ((O.iy).frame P bX) O.le (λc y=>⟨g6 c y,by have:=O.dC y;show c≠L;omega,gG (O.dC y) P.1⟩)
    (λj' hu=>by
     have:j'.abs∈s.L:=by rw[<-o.abs];exact bz hu
     exact e' _ this) M8 s8 o8 rfl rfl rfl ⟨rfl,rfl,rfl,rfl⟩
   have f':may (s.next:Int) (T:Int)=true:=by
    unfold zq at q;simp only[aU,aX]at q;exact mW.2 ⟨ae,ae,ae⟩
   refine⟨_,ak J.cW,cf.Ju J.JL (by show s.E1.length<_;omega) (s.next:Int) (T:Int) ae (λhm h9 S9 A9 g9 f9=>⟨_,rfl,?_⟩) (λhm=>absurd f' (by rw[hm];simp))⟩;obtain⟨X9,n',H9,i',_⟩:=J.JO (s':= { s with L:=s.L++ [⟨s.next,j,d,T,0,0⟩],next:=s.next+1,E1:=Br s.E1 (s.next:Int) (T:Int) }) A9 g9 f9 rfl rfl rfl ⟨rfl,rfl,rfl,rfl⟩;exact r h9 X9 ⟨_,_,_,_,_,_,_,H9⟩ (bA.no z (b'.trans (h'.trans i')))
 .have q:zq j d.length (T:Int)=false:=by simpa using q
  rw[q,gk];have e:jJ s j d T=1:=by unfold jJ;rw[q];rfl
  have E:BG s j d T=0:=af (by rw[e];decide);have w:kT s j d T=s:=af (by rw[e];decide);rw[e,E,w]at r;exact r h3 X ⟨_,_,_,_,_,_,_,o.on F⟩ (bA.hH F)
def jC(s:CF)(k:Int):CF:= { Fq s k with over:=s.over+1 }
def qx(s:CF)(k:Int):CF:= { Fq s k with gone:=s.gone+1 }
theorem Small.rem(d:Small s)(k:Int):Small (Fq s k):=
 ⟨d.n,cE (cP _ _) d.l,cE (pB _ _) d.e1,cE (pB _ _) d.e2⟩
theorem Small.free(d:Small s)(k:Nat):Small (oG s k):=
 ⟨d.n,by show(pF s.L k 0 0).length<=_;unfold pF;rw[ay];exact d.l,d.e1,cE (pB _ _) d.e2⟩
def HO(s:CF):Prop:= ∀k∈keys s.E2,∃z∈s.L,(z.num:Int)=k
theorem HO.rem(o:HO s)(k:Int):HO (Fq s k):=λj d=>by
 unfold keys at d;obtain⟨e,u,rfl⟩:=bp.1 d;obtain⟨q,r⟩:=bj.1 u;have v:e.1≠k:=by simpa using r
 obtain⟨z,w,E⟩:=o e.1 (bz q);exact⟨z,bj.2 ⟨w,by simp[E,v]⟩,E⟩
theorem ML(L:List Cp)(n:Nat)(d:Int)(B:Nat){z:Cp}(e:z∈L): ∃y∈pF L n d B,y.num=z.num:=by
 unfold pF;refine⟨_,bz e,?_⟩;split<;>rfl
theorem Ct.Uk(d:Ct h t X s)(J:Small s)(e:Int)(D: ∀H j P C,Ct H t j { s with E1:=cf.rest s.E1 e } ->bA X h j H->fz H P (cf.due s.E1 e).length C 1 (kc (cf.due s.E1 e))->(∀y,aN P y->h.size<=y/\¬j.M y)->R (.slice P (cf.due s.E1 e).length C) H):
  ∃(u:ck),aY h (AA t 5)=some (.pointer u)/\Cl 79 #[.pointer u,.U e] h R:=by
 obtain⟨m,x,A,S,a,b,l,d⟩:=d;have:=J.e1;refine⟨_,ak d.cW,cf.Fj d.JL ae e λw I v q O G F=> ?_⟩;obtain⟨j,M,r,L,z⟩:=d.JO (s':= { s with E1:=cf.rest s.E1 e }) q (λc B=> .inl B) F rfl rfl rfl ⟨rfl,rfl,rfl,rfl⟩;refine D w j I v ⟨_,_,_,_,_,_,_,r⟩ L O (λy o=>⟨G y o,λE=> ?_⟩);have o:=G y o;rcases z y E with h2|h2
 .have:=d.FR y ((d.mm y).1 h2);omega
 .have:=d.JL.lt h2;omega
theorem Ct.Ul(d:Ct h t X s)(J:Small s)(e:Int)(D: ∀H j P C,Ct H t j { s with E2:=cf.rest s.E2 e } ->bA X h j H->fz H P (cf.due s.E2 e).length C 1 (kc (cf.due s.E2 e))->(∀y,aN P y->h.size<=y/\¬j.M y)->R (.slice P (cf.due s.E2 e).length C) H):
  ∃(u:ck),aY h (AA t 6)=some (.pointer u)/\Cl 79 #[.pointer u,.U e] h R:=by
 obtain⟨m,x,A,S,a,b,l,d⟩:=d;have:=J.e2;refine⟨_,ak d.cW,cf.Fj d.JM ae e λw I v q O G F=> ?_⟩;obtain⟨j,M,r,L,z⟩:=d.JN (s':= { s with E2:=cf.rest s.E2 e }) q (λc B=> .inl B) F rfl rfl rfl ⟨rfl,rfl,rfl,rfl⟩;refine D w j I v ⟨_,_,_,_,_,_,_,r⟩ L O (λy o=>⟨G y o,λE=> ?_⟩);have o:=G y o;rcases z y E with h2|h2
 .have:=d.FR y ((d.mm y).1 h2);omega
 .have:=d.JM.lt h2;omega
structure wC (h:aj) (X:Ft) (p:ck) (n c:Nat) (K:List Int):Prop where
 own:fz h p n c 1 (K.map gO)
 len:n=K.length
 ap: ∀y,aN p y->¬X.M y
theorem wC.step{e:Ft}(d:wC h X p n c K)(o:bA X h e H):wC H e p n c K:=
 ⟨d.own.frame o.fr d.ap,d.len,λy j q=>by
  rcases o.iz y q with h1|h1
  .exact d.ap y j h1
  .have:=d.own.dC j;omega⟩
theorem wC.at{j:Int->Prop}(d:wC h X p n c K)(o:K[i]? =some k)(r:j k):
  ((0:Int)<=(i:Int)/\(i:Int)<(n:Int))/\aM p λq=> ∃t:Int,aY h (q.add (Int.toNat (i:Int)*1))=some (.I t)/\j t:=by
 have w:=(aE.1 o).1;have y:=d.len;obtain⟨u,v,e⟩:=d.own.addr ae;subst e;refine⟨ae,ax.2 ⟨k,?_,r⟩⟩;rw[aF,cp];exact d.own.cell (by rw[aD,o];rfl)
theorem oH(d: ∀s k,Small s->Small (f s k)): ∀(K:List Int)(s:CF),Small s->Small (K.foldl f s)
 | [],_,h=>h
 |k::K,s,h=>oH d K (f s k) (d s k h)
theorem DZ: ∀(K:List Int)(s:CF),(K.foldl jC s).over=s.over+K.length
 | [],_=>rfl
 |k::K,s=>by rw[List.foldl_cons,DZ K,bf];show s.over+1+K.length=_;omega
theorem D0: ∀(K:List Int)(s:CF),(K.foldl qx s).gone=s.gone+K.length
 | [],_=>rfl
 |k::K,s=>by rw[List.foldl_cons,D0 K,bf];show s.gone+1+K.length=_;omega
theorem D5: ∀(K:List Int)(s:CF),HO s->HO (K.foldl jC s)
 | [],_,h=>h
 |k::K,s,h=>D5 K (jC s k) (h.rem k)
theorem uV(d:K[i]? =some k)(s:CF):(K.take (i+1)).foldl f s=f ((K.take i).foldl f s) k:=by
 rw[bt,d,List.foldl_append];rfl
def jo(s:CF)(d:Int):CF:=
 let e:=(keys (cf.due s.E1 d)).foldl jC { s with E1:=cf.rest s.E1 d }
 (keys (cf.due e.E2 d)).foldl (λs k=>oG s k.toNat) { e with E2:=cf.rest e.E2 d }
theorem D6: ∀(K:List Int)(s:CF)(z:Cp),z∈s.L->∃y∈(K.foldl (λs k=>oG s k.toNat) s).L,y.num=z.num
 | [],s,z,d=>⟨z,d,rfl⟩
 |k::K,s,z,d=>by
  obtain⟨y,o,e⟩:=ML s.L k.toNat 0 0 d;obtain⟨u,j,E⟩:=D6 K (oG s k.toNat) y o;exact⟨u,j,E.trans e⟩
theorem BO(L:List E)(d:Int):(cf.rest L d).length<=L.length:=(List.dropWhile_sublist _).length_le
theorem wk(B:Ct h t X s)(z:Small s)(ho:s.over<=40000)(hE:HO s)(d:Int)(J: ∀H I L V,Ct H t I (jo s d)->bA X h I H->wC H I L (cf.due s.E1 d).length V (keys (cf.due s.E1 d))->(∀y,aN L y->h.size<=y)->R (.slice L (cf.due s.E1 d).length V) H):
  Cl 48 #[.P t 0,.U d] h R:=by
 have t':(cf.due s.E1 d).length<=s.E1.length:=(List.takeWhile_sublist _).length_le;have r':=z.e1;have hm: ∀{R:fD},R (.B true) h->Cl 63 #[.P t 0] h R:=λJ=>by
  obtain⟨m,x,A,S,a,b,l,B⟩:=B;exact fT B J
 refine wA.walk (hm ⟨_,rfl,?_⟩);rw[dB];refine B.Uk z d λh2 T P D H2 p' o2 g2=>⟨_,_,_,rfl,?_⟩
 have l':Small { s with E1:=cf.rest s.E1 d } :=⟨z.n,z.l,cE (BO _ _) z.e1,z.e2⟩;have kl:(keys (cf.due s.E1 d)).length=(cf.due s.E1 d).length:=by unfold keys;rw[ay]
 have N2:wC h2 T P (cf.due s.E1 d).length D (keys (cf.due s.E1 d)):=⟨o2,kl.symm,λy w=>(g2 y w).2⟩;have o': ∀(s:CF) k,Small s->Small (jC s k):=λs k h=>⟨(h.rem k).n,(h.rem k).l,(h.rem k).e1,(h.rem k).e2⟩
 refine⟨λu G=> ∃(i:Nat)(q:Ft),u=(i:Int)/\i<=(cf.due s.E1 d).length/\Ct G t q (((keys (cf.due s.E1 d)).take i).foldl jC { s with E1:=cf.rest s.E1 d })/\bA X h q G/\wC G q P (cf.due s.E1 d).length D (keys (cf.due s.E1 d)),λu _=>(cf.due s.E1 d).length - u.toNat,⟨0,T,rfl,bL _,H2,p',N2⟩,?_⟩;rintro _ G ⟨i,q,rfl,hi,C,g',F⟩;have r:=oH o' ((keys (cf.due s.E1 d)).take i) _ l';by_cases i':i<(cf.due s.E1 d).length
 .rw[gk];have v:(keys (cf.due s.E1 d))[i]? =some ((keys (cf.due s.E1 d))[i]' ae):=ai _;generalize (keys (cf.due s.E1 d))[i]' ae=k at v;refine F.at v (pE C r k λg3 X3 H3 c'=>⟨rfl,H3.Ui ?_ λg4 H4 d'=> ?_⟩)
  .show(((keys (cf.due s.E1 d)).take i).foldl jC { s with E1:=cf.rest s.E1 d }).over<=100000;rw[DZ,bw];show s.over+_<=100000;omega
  .rw[bC ae ae];refine⟨⟨i+1,X3,ae,ae,?_,g'.trans (c'.trans d'),(F.step c').step d'⟩,by show(cf.due s.E1 d).length - Int.toNat ((i:Int)+1)<(cf.due s.E1 d).length - i;omega⟩;rw[uV v];exact H4
 .rw[af (by simp;omega)];obtain rfl:i=(cf.due s.E1 d).length:=ae
  have ta:(keys (cf.due s.E1 d)).take (cf.due s.E1 d).length=keys (cf.due s.E1 d):=bn ae;rw[ta]at C r;have b':HO ((keys (cf.due s.E1 d)).foldl jC { s with E1:=cf.rest s.E1 d }):=D5 _ _ hE;generalize j':(keys (cf.due s.E1 d)).foldl jC { s with E1:=cf.rest s.E1 d } =o at C r b';refine C.Ul r d λh6 U p6 Z H6 e' o6 g6=>⟨_,_,_,rfl,?_⟩
  have k':(keys (cf.due o.E2 d)).length=(cf.due o.E2 d).length:=by unfold keys;rw[ay]
  have m':Small { o with E2:=cf.rest o.E2 d } :=⟨r.n,r.l,r.e1,cE (BO _ _) r.e2⟩;have N6:wC h6 U p6 (cf.due o.E2 d).length Z (keys (cf.due o.E2 d)):=⟨o6,k'.symm,λy w=>(g6 y w).2⟩;have s':=r.e2;have u':(cf.due o.E2 d).length<=o.E2.length:=(List.takeWhile_sublist _).length_le;refine⟨λu G=> ∃(i:Nat)(q:Ft),u=(i:Int)/\i<=(cf.due o.E2 d).length/\Ct G t q (((keys (cf.due o.E2 d)).take i).foldl (λs k=>oG s k.toNat) { o with E2:=cf.rest o.E2 d })/\bA X h q G/\wC G q p6 (cf.due o.E2 d).length Z (keys (cf.due o.E2 d))/\wC G q P (cf.due s.E1 d).length D (keys (cf.due s.E1 d)),λu _=>(cf.due o.E2 d).length - u.toNat,⟨0,U,rfl,bL _,H6,g'.trans e',N6,F.step e'⟩,?_⟩;rintro _ g7 ⟨j,X7,rfl,hj,E,f',Q,O⟩;have n':=oH (f:=λs k=>oG s k.toNat) (λs k h=>h.free k.toNat) ((keys (cf.due o.E2 d)).take j) _ m';by_cases i':j<(cf.due o.E2 d).length
  .rw[gk];have v:(keys (cf.due o.E2 d))[j]? =some ((keys (cf.due o.E2 d))[j]' ae):=ai _;generalize (keys (cf.due o.E2 d))[j]' ae=k at v;have h':k∈keys o.E2:=by
    have h1:=aK v;unfold keys at h1⊢;obtain⟨e,he,rfl⟩:=bp.1 h1;exact bz ((List.takeWhile_sublist _).subset he)
   obtain⟨q',hz,ez⟩:=b' k h';obtain⟨y,w,ey⟩:=D6 ((keys (cf.due o.E2 d)).take j) { o with E2:=cf.rest o.E2 d } q' hz;have a':k=(y.num:Int):=by rw[ey];exact ez.symm
   refine Q.at v ?_;rw[a'];refine KX E n' w λg8 X8 H8 M=>⟨rfl,?_⟩
   rw[bC ae ae];refine⟨⟨j+1,X8,ae,ae,?_,f'.trans M,Q.step M,O.step M⟩,by show(cf.due o.E2 d).length - Int.toNat ((j:Int)+1)<(cf.due o.E2 d).length - j;omega⟩;rw[uV v,a',aF];exact H8
  .rw[af (by simp;omega)];obtain rfl:j=(cf.due o.E2 d).length:=ae
   rw[bn ae]at E;refine J g7 X7 P D ?_ f' O (λy w=>(g2 y w).1);unfold jo;rw[j'];exact E
def yE(s:CF)(d:Ev):CF:=((mA s.L d).map (λz=>(z.num:Int))).foldl qx s
theorem Rm(e:Cm h t X s m x A S a b l)(d:Ev):kU (x.filter (λy=>decide (y.e=d)))=(mA s.L d).map (λz=>(z.num:Int)):=by
 unfold mA kU;rw[<-e.abs,dQ,dJ];rfl
theorem qp(e:Ct h t X s)(J:Small s)(ho:s.gone<=40000)(d:Ev)(hk: ∀H r P E,Ct H t r (yE s d)->bA X h r H->wC H r P (mA s.L d).length E ((mA s.L d).map (λz=>(z.num:Int)))->(∀y,aN P y->h.size<=y)->R (.slice P (mA s.L d).length E) H):
  Cl 131 #[.P t 0,lL d] h R:=by
 have T:=e;obtain⟨m,x,A,S,a,b,l,e⟩:=e;have sl:=J.l;have xl:=e.len;refine wB.walk (az.box λc' h1 eb hb F=>az.ld hb (wi (e.on F) d ae λh2 B C O I f2=>⟨_,_,_,rfl,?_⟩));have D:=F.tt f2;have z1:=F.1;rw[JT e d,Rm e d]at O;rw[JT e d];have ol:(mA s.L d).length<=s.L.length:=cP _ _;have kl:((mA s.L d).map (λz=>(z.num:Int))).length=(mA s.L d).length:=ay _;have Z:wC h2 X B (mA s.L d).length C ((mA s.L d).map (λz=>(z.num:Int))):=⟨O,kl.symm,λy w hm=>by
  have h1:=I y w;have:=e.FR y ((e.mm y).1 hm);omega⟩
 have a': ∀(s:CF) k,Small s->Small (qx s k):=λs k h=>⟨(h.rem k).n,(h.rem k).l,(h.rem k).e1,(h.rem k).e2⟩
 refine⟨λu G=> ∃(i:Nat)(j:Ft),u=(i:Int)/\i<=(mA s.L d).length/\Ct G t j ((((mA s.L d).map (λz=>(z.num:Int))).take i).foldl qx s)/\bA X h j G/\wC G j B (mA s.L d).length C ((mA s.L d).map (λz=>(z.num:Int))),λu _=>(mA s.L d).length - u.toNat,⟨0,X,rfl,bL _,T.on D,bA.hH D,Z⟩,?_⟩;rintro _ G ⟨i,j,rfl,hi,o,Q,q⟩;have b':=oH a' (((mA s.L d).map (λz=>(z.num:Int))).take i) _ J;by_cases d':i<(mA s.L d).length
 .rw[gk];have v:((mA s.L d).map (λz=>(z.num:Int)))[i]? =some (((mA s.L d).map (λz=>(z.num:Int)))[i]' ae):=ai _;generalize ((mA s.L d).map (λz=>(z.num:Int)))[i]' ae=k at v;refine q.at v (pE o b' k λg3 X3 U L=>⟨rfl,U.Uj ?_ λg4 V M=> ?_⟩)
  .show((((mA s.L d).map (λz=>(z.num:Int))).take i).foldl qx s).gone<=100000;rw[D0,bw];omega
  .rw[bC ae ae];refine⟨⟨i+1,X3,ae,ae,?_,Q.trans (L.trans M),(q.step L).step M⟩,by show(mA s.L d).length - Int.toNat ((i:Int)+1)<(mA s.L d).length - i;omega⟩;rw[uV v];exact V
 .rw[af (by simp;omega)];obtain rfl:i=(mA s.L d).length:=ae
  rw[bn ae]at o;exact hk G j B C o Q q (λy w=>bR (I y w))
abbrev PF:Value:=.agg #[.int .i64 0,.bool false,.int .u64 0,.int .u64 0,.string ⟨#[]⟩,.string ⟨#[]⟩,.slice none 0 0,.int .u64 0,.int .i64 0,.int .u64 0]
abbrev Cp.val(z:Cp)(p:ck)(c:Nat):Value:=.agg #[.int .i64 (z.num:Int),.bool z.e.km,.int .u64 z.e.node,.int .u64 z.e.gy,.string z.e.host,.string z.e.jN,.slice p z.d.length c,.int .u64 (z.fa:Int),.int .i64 z.ses,.int .u64 (z.dl:Int)]
def uW(d:Int)(D:Nat):Prop:=1<=d/\d<=1099511627776/\D<=1099511627776
def mI(L:List Cp)(d:Ev):Option Cp:=(mA L d).find? (λz=>decide (z.ses=0))
def su(s:CF)(z:Cp)(e:Int)(d:Nat):CF:= { s with L:=pF s.L z.num e d,E2:=Br s.E2 (z.num:Int) (d:Int) }
theorem JU(d:R (.B (decide (1<=k/\k<=1099511627776))) h):Cl 264 #[.I k] h R:=by
 refine xJ.walk ?_;by_cases q:1<=k
 .have Q:k≥1:=q;simp only[Q,bu,ba];simp only[q,true_and]at d;exact d
 .have Q: ¬k≥1:=q;simp only[Q,bg,aq,aL];simp only[q,false_and,bg]at d;exact d
theorem MM(r:Ct h t X s)(sm:Small s)(hb: ∀z∈s.L,1<=z.num/\z.num<s.next/\z.d.length<=600)(w:Ev)(q:Int)(D:Nat)(S':k=(D:Int))(k1: ¬uW q D->iq h R (.T #[PF,.I 1]))(k2:uW q D->mI s.L w=none->iq h R (.T #[PF,.I 4]))(k3:uW q D->∀z,mI s.L w=some z->∀H X' p' c',Ct H t X' (su s z q D)->bA X h X' H->Row H p' (bc z.d)->z.d.length<=c'->(∀y,aN p' y->h.size<=y/\¬(X'.M y\/X'.D y))->R (.T #[({ z with ses:=q,dl:=D } :Cp).val p' c',.I 0]) H):
  Cl 196 #[.P t 0,lL w,.I q,.U k] h R:=by
 subst S';obtain⟨m,x,A,S,a,b,l,r⟩:=r;have sn:=sm.n;have sl:=sm.l;have se:=sm.e2;have xl:=r.len;refine uQ.walk (az.box λb7 h1 e1 e' f1=>aQ.box λB P e2 k' f2=> ?_);have z1:=aC e';have z2:=aC k';have a':=f1.tt f2;have e':=f2.get e' id;refine fT (r.on a') ⟨_,rfl,?_⟩;rw[dB];have c4:=f1.1;have s': ∀M (e:Int),Fr No P M->(iq h R (.T #[PF,.I e]))->aQ.ST M (AA B 0) 0 false 0 0 gg gg none 0 0 0 0 0 λg2=>aQ.LD g2 (AA B 0) λZ' a0 a1 a2 a3 a4 a7 a6 a5 a8 a9 b0=>
   R (.T #[.agg #[.I Z',.B a0,.U a1,.U a2,.S a3,.S a4,.L a7 a6 a5,.U a8,.I a9,.U b0],.I e]) g2:=λM e fg hk=>
  aQ.set (fg.get k' id) λg2 a s2 o2=>aQ.ld a (hk g2 ((a'.tt fg).fresh (S:=λy=>y=B) ⟨ae,λy _ u=>o2 y u⟩ (λy e=>ae)))
 refine aH.of λE' hJ=>JU ⟨_,rfl,?_⟩
 have bad: ¬uW q D->E' true P:=λu=>by
  subst hJ;simp only[ba];exact s' P 1 (Fr.refl _ _) (k1 u)
 by_cases U:1<=q/\q<=1099511627776
 .rw[aw U,dB];by_cases q2:(D:Int)>1099511627776
  .rw[aw q2];exact bad (λhm=>bR hm.2.2)
  .rw[aB q2];clear bad;subst hJ;simp only[aq,aL];have hm:uW q D:=⟨U.1,U.2,ae⟩;refine az.ld e' (wi (r.on a') w ae λE p7 c7 o7 g7 f7=>⟨_,_,_,rfl,?_⟩);have F7:=a'.tt f7;have Z:=r.on F7;have w':=f7.get k' id;have hF:(x.filter (λy=>decide (y.e=w))).map CV.abs=mA s.L w:=by unfold mA;rw[<-r.abs,dQ];rfl
   generalize y':x.filter (λy=>decide (y.e=w))=o at o7 hF;have nl:(kU o).length=o.length:=by unfold kU;rw[ay]
   have fl:o.length<=x.length:=by rw[<-y'];exact cP _ _
   refine⟨λn' M=>M=E/\∃i:Nat,n'=(i:Int)/\i<=o.length/\∀j y,j<i->o[j]? =some y->y.ses≠0,λn' _=>o.length - n'.toNat,⟨rfl,0,rfl,bL _,λj y G=>ae⟩,?_⟩;rintro _ E ⟨rfl,i,rfl,hi,j'⟩;by_cases x':i<o.length
   .rw[gk];have d:o[i]? =some o[i]:=ai x';generalize o[i]=y at d;have Q:y∈x:=by
     have:=aK d;rw[<-y']at this;exact(bj.1 this).1
    obtain⟨ab,ao,rfl⟩:=o7.addr ae;have cc:=o7.cell (j:=i) (v:=gO (y.num:Int)) (by rw[aD];unfold kU;rw[aD,d];rfl);have L7:=look Z Q;have ca:=Z.FQ y Q;simp only[aF,cp];refine⟨ae,ax.2 ⟨_,cc,_,ak Z.cW,_,L7,ax.2 ⟨_,ak ca,?_⟩⟩⟩;by_cases f':y.ses=0
    .rw[ag (cI f')];have U':mI s.L w=some y.abs:=by
      unfold mI;rw[<-hF,List.find?_map];have:o.find? ((λz:Cp=>decide (z.ses=0)) ∘ CV.abs)=some y:=by
       rw[fO];refine⟨by simp[CV.abs,f'],i,x',(aE.1 d).2,λj G=> ?_⟩;have T:=j' j (o[j]' ae) G (ai ae);have V':decide ((o[j]' ae).abs.ses=0)=false:=aB T;show(!decide ((o[j]' ae).abs.ses=0))=true;rw[V'];rfl
      rw[this];rfl
     have l':=hb y.abs (by rw[<-r.abs];exact bz Q);have c1:1<=y.num:=l'.1;have c2:y.num<s.next:=l'.2.1;have c3:y.v.b.length<=600:=l'.2.2;refine ax.2 (Z.DY (ses:=q) (dl:=D) Q λc0 h' b2=>⟨_,ak h'.cW,?_⟩);have T':may (y.num:Int) (D:Int)=true:=mW.2 ⟨ae,ae,ae⟩;refine cf.Ju h'.JM (by show s.E2.length<_;omega) (y.num:Int) (D:Int) ae (λ_ t' b6 D' O' M'=>⟨_,rfl,?_⟩) (λhx=>absurd T' (by rw[hx];simp));obtain⟨v,c5,i',b3,_⟩:=h'.JN (s':=su s y.abs q D) D' O' M' rfl rfl rfl ⟨rfl,rfl,rfl,rfl⟩;have z':({ y with ses:=q,dl:=D } :CV)∈x.map (λz=>if z.num=y.num then({ y with ses:=q,dl:=D } :CV)else z):=bp.2 ⟨y,Q,ag rfl⟩;have r':=i'.FQ _ z';have L':=i'.Cj _ z';refine ax.2 (aQ.ld r' (aQ.new λJ u' b9 v' F=>ax.2 ⟨_,_,_,ak (F.get r' id),gP ((L'.row).frame F bX) rfl (by show y.v.b.length<=_;omega) λg' q' P' B' L O=>⟨_,_,_,rfl,?_⟩⟩));have V:=b2.trans b3;have d0:E.size<=t'.size:=V.fr.1;have d1:=F.1;refine bD (L.get v' id) bV λb' J' c8 m'=> ?_
     have Q':aQ.at b' J (y.num:Int) y.e.km y.e.node y.e.gy y.e.host y.e.jN g' y.v.b.length q' (y.fa:Int) q (D:Int):=J';refine aQ.ld Q' ?_;have nM: ∀y,y<E.size->h.size<=y->¬v.M y:=λy y1 y2 hm=>by
      rcases V.iz y hm with h3|h3
      .have:=r.FR y ((r.mm y).1 h3);omega
      .omega
     have b5:B<E.size:=aC w';have I': ¬X.M B:=λhm=>by have:=r.FR B ((r.mm B).1 hm);omega
     have R':aQ.at b' B 0 false 0 0 ⟨#[]⟩ ⟨#[]⟩ none 0 0 0 0 0:=by
      have h3:=V.fr.get w' I';have h4:=(F.tt L).get h3 id;have:B≠J:=ae
      unfold aQ.at;rw[m' B this];exact h4
     refine aQ.set R' λd' K' c9 C'=>aQ.ld K' ?_
     have c6: ∀y,aN g' y->u'.size<=y:=O;have fA:Fr (λy=>y=J) P' b':=⟨ae,λy _ u=>m' y u⟩;have fB:Fr (λy=>y=B) b' d':=⟨ae,λy _ u=>C' y u⟩;have b8:J<u'.size:=aC v';have b1:Row d' g' (bc y.v.b):=((B'.iy).frame fA (λC ea hm=>by have:=O C.block ⟨C,ea,rfl⟩;have hm:C.block=J:=hm;omega)).frame fB (λC ea hm=>by have:=O C.block ⟨C,ea,rfl⟩;have hm:C.block=B:=hm;omega);have o':Ct t' t v (su s y.abs q D):=⟨_,_,_,_,_,_,_,i'⟩;have A':=λy (d:v.M y\/v.D y)=>o'.lt y d
     have F':=o'.on (F.tt L);have G':=F'.frame fA (λy d e=>bR (A' y d));have d2: ¬(v.M B\/v.D B):=λhm=>by
      rcases hm with hm|hm
      .exact nM B b5 ae hm
      .rcases V.jx B hm with h3|h3
       .have:=(r.dd B h3).2;omega
       .omega
     have H':=G'.frame fB (λy d e=>d2 (e▸d));have I:=bA.no F7 V;have b4:bA X h v d':=by
      refine⟨⟨gG L.1 I.fr.1,λy d u=> ?_⟩,I.iz,I.jx,I.mQ⟩;have:=I.fr.1;rw[C' y ae,m' y ae,(F.tt L).2 y ae id];exact I.fr.2 y d u
     exact k3 hm y.abs U' d' v g' q' H' b4 b1 B'.le (λy d=>⟨gG (O y d) F7.1,λhx=>gG (A' y hx) (O y d)⟩)
    .rw[af (cI f'),bC ae ae];refine⟨⟨by first|trivial|rfl,i+1,ae,ae,λj z G T=> ?_⟩,by show o.length - Int.toNat ((i:Int)+1)<o.length - i;omega⟩;by_cases ej:j=i
     .subst ej;rw[d]at T;cases T;exact f'
     .exact j' j z ae T
   .rw[af (by simp;omega)];refine s' E 4 f7 (k2 hm ?_);unfold mI;rw[<-hF,List.find?_map];have:o.find? ((λz:Cp=>decide (z.ses=0)) ∘ CV.abs)=none:=by
     rw[List.find?_eq_none];intro y d;obtain⟨j,G⟩:=bO d;have:=j' j y (bR ((aE.1 G).1)) G;have P:decide (y.abs.ses=0)=false:=aB this;show¬(decide (y.abs.ses=0)=true);rw[P];decide
    rw[this];rfl
 .rw[aB U,gk];exact bad (λhm=>U ⟨hm.1,hm.2.1⟩)

end gm
end
section
open Go.kA
namespace gm
open jA cf iE
variable {h:aj} {t:Nat} {X:Ft} {s s':CF} {n:Nat} {now:Int}
variable {z:Cp} {L:List Cp} {k a ses:Int} {e:E} {b:Nat} {K:List Int}
structure Ord (s:CF):Prop where
 nd:(s.L.map Cp.num).Nodup
 o1:jz s.E1
 o2:jz s.E2
 n1:(keys s.E1).Nodup
 n2:(keys s.E2).Nodup
theorem Ct.ord(H:Ct h t X s):Ord s:=by
 obtain⟨m,x,A,S,d,c,l,H⟩:=H;refine⟨?_,H.JL.sorted,H.JM.sorted,H.JL.nodup,H.JM.nodup⟩;rw[<-H.abs,dJ];exact H.so.imp (λh=>Nat.ne_of_lt h)
structure sR (s:CF):Prop where
 bd: ∀z∈s.L,1<=z.num/\z.num<s.next/\z.d.length<=600
 sp: ∀z∈s.L,0<=z.ses
 e1: ∀e,e∈s.E1↔ ∃z∈s.L,e=((z.num:Int),(z.fa:Int))
 e2: ∀e,e∈s.E2↔ ∃z∈s.L,z.ses≠0/\e=((z.num:Int),(z.dl:Int))
 yA:s.next=1+s.L.length+s.gE+s.over+s.gone
theorem Ord.inj(O:Ord s){y:Cp}(m:z∈s.L)(l:y∈s.L)(e:z.num=y.num):z=y:=by
 obtain⟨i,H⟩:=bO m;obtain⟨j,c⟩:=bO l;have o:=(aE.1 H).1;by_cases d:i=j
 .subst d;rw[H]at c;exact aZ c
 .exfalso;have f:(s.L.map Cp.num)[i]? =some z.num:=by rw[aD,H];rfl
  have g:(s.L.map Cp.num)[j]? =some y.num:=by rw[aD,c];rfl
  have:i=j:=(eE (by rw[ay];exact o) O.nd).1 (f.trans ((bQ some e).trans g.symm));exact d this
theorem sS{L:List E}:e∈fU L k↔e∈L/\e.1≠k:=by unfold fU;simp[bj]
theorem HP{L:List E}{v:Int}:e∈Br L k v↔e=(k,v)\/(e∈L/\e.1≠k):=by
 unfold Br;rw[(mR _ _).mem_iff,bK,sS]
theorem nR :z∈CP L k↔z∈L/\(z.num:Int)≠k:=by unfold CP;simp[bj]
theorem nT :z∈pF L n a b↔ ∃y∈L,z=if y.num=n then { y with ses:=a,dl:=b } else y:=by
 unfold pF;rw[bp];exact⟨λ⟨y,H,c⟩=>⟨y,H,c.symm⟩,λ⟨y,H,c⟩=>⟨y,H,c.symm⟩⟩
theorem PG(L:List Cp)(n:Nat)(a:Int)(b:Nat):(pF L n a b).length=L.length:=by unfold pF;rw[ay]
theorem wj: ∀{L:List Cp},(L.map Cp.num).Nodup->∀{z:Cp},z∈L->(CP L (z.num:Int)).length+1=L.length
 | [],_,z,hz=>by cases hz
 |y::l,c,z,hz=>by
  rw[cu,fL]at c;unfold CP;rw[cC];rcases bK.1 hz with rfl|hz
  .rw[af bV,cD.2 (λx H=> ?_),bf];have:x.num≠z.num:=λe=>c.1 (by rw[<-e];exact bz H)
   simp;omega
  .have d:y.num≠z.num:=λe=>c.1 (by rw[e];exact bz hz)
   rw[ag (by simp;omega),bf,bf];have:=wj c.2 hz;unfold CP at this;omega
theorem sR.add(o:sR s)(x:Ev)(d:cM)(T:Nat):sR (kT s x d T):=by
 unfold kT;by_cases H:jJ s x d T=0
 .rw[ag H];have hd:d.length<=600:=by
   unfold jJ at H;split at H
   .rename_i f;unfold zq at f;simp only[aU,aX]at f;exact f.2.2.2.1
   .cases H
  refine⟨λz hz=> ?_,λz hz=> ?_,λe=> ?_,λe=> ?_,?_⟩
  .rcases bE.1 hz with hz|hz
   .have:=o.bd z hz;exact⟨this.1,Nat.lt_succ_of_lt this.2.1,this.2.2⟩
   .obtain rfl:=bP.1 hz;exact⟨by have:=o.yA;show 1<=s.next;omega,Nat.lt_succ_self _,hd⟩
  .rcases bE.1 hz with hz|hz
   .exact o.sp z hz
   .obtain rfl:=bP.1 hz;exact eu _
  .show e∈Br s.E1 _ _↔ ∃z∈s.L++ [_],_;rw[HP,o.e1];constructor
   .rintro(rfl|⟨⟨z,hz,rfl⟩,_⟩)
    .exact⟨_,bE.2 (.inr (bP.2 rfl)),rfl⟩
    .exact⟨z,bE.2 (.inl hz),rfl⟩
   .rintro⟨z,hz,rfl⟩;rcases bE.1 hz with hz|hz
    .exact .inr ⟨⟨z,hz,rfl⟩,by have:=(o.bd z hz).2.1;show(z.num:Int)≠_;omega⟩
    .obtain rfl:=bP.1 hz;exact .inl rfl
  .show e∈s.E2↔ ∃z∈s.L++ [_],_;rw[o.e2];constructor
   .rintro⟨z,hz,c⟩;exact⟨z,bE.2 (.inl hz),c⟩
   .rintro⟨z,hz,c⟩;rcases bE.1 hz with hz|hz
    .exact⟨z,hz,c⟩
    .obtain rfl:=bP.1 hz;exact absurd rfl c.1
  .have:=o.yA;show s.next+1=1+(s.L++ [_]).length+s.gE+s.over+s.gone;rw[au,dF];omega
 .rw[af H];exact o
theorem sR.rem(o:sR s)(O:Ord s)(l:z∈s.L)(c:s'.L=CP s.L (z.num:Int))(i:s'.E1=fU s.E1 (z.num:Int))(j:s'.E2=fU s.E2 (z.num:Int))(g:s'.next=s.next)(m:s'.gE+s'.over+s'.gone=s.gE+s.over+s.gone+1):sR s':=by
 refine⟨λy H=> ?_,λy H=> ?_,λe=> ?_,λe=> ?_,?_⟩
 .rw[c,nR]at H;rw[g];exact o.bd y H.1
 .rw[c,nR]at H;exact o.sp y H.1
 .rw[i,sS,o.e1,c];constructor
  .rintro⟨⟨y,H,rfl⟩,d⟩;exact⟨y,nR.2 ⟨H,d⟩,rfl⟩
  .rintro⟨y,H,rfl⟩;have:=nR.1 H;exact⟨⟨y,this.1,rfl⟩,this.2⟩
 .rw[j,sS,o.e2,c];constructor
  .rintro⟨⟨y,H,f,rfl⟩,d⟩;exact⟨y,nR.2 ⟨H,d⟩,f,rfl⟩
  .rintro⟨y,H,f,rfl⟩;have:=nR.1 H;exact⟨⟨y,this.1,f,rfl⟩,this.2⟩
 .have:=wj O.nd l;have:=o.yA;rw[g,c];omega
theorem HQ(h:lP L k ses=0): ∃z∈L,(z.num:Int)=k/\z.ses=ses/\ses≠0:=by
 unfold lP at h;cases c:zp L k with
 |none=>rw[c]at h;cases h
 |some z=>
  rw[c]at h;dsimp only at h;split at h
  .cases h
  .rename_i H;obtain⟨d,f⟩:=xN c;refine⟨z,d,f,?_,?_⟩<;>(simp only[not_or,Decidable.not_not]at H)
   .exact H.2
   .rw[<-H.2];exact H.1
theorem sR.VF(o:sR s)(O:Ord s)(k ses:Int):sR (tL s k ses):=by
 unfold tL;by_cases H:lP s.L k ses=0
 .rw[ag H];obtain⟨z,c,rfl,_,_⟩:=HQ H;exact o.rem O c rfl rfl rfl rfl (by show s.gE+1+s.over+s.gone=_;omega)
 .rw[af H];exact o
theorem sR.set(o:sR s)(O:Ord s)(q:z∈s.L)(p:0<=a)(f:s'.L=pF s.L z.num a b)(i:s'.E1=s.E1)(j: ∀e,e∈s'.E2↔(a≠0/\e=((z.num:Int),(b:Int)))\/(e∈s.E2/\e.1≠(z.num:Int)))(g:s'.next=s.next)(r:s'.gE+s'.over+s'.gone=s.gE+s.over+s.gone):sR s':=by
 refine⟨λy H=> ?_,λy H=> ?_,λe=> ?_,λe=> ?_,?_⟩
 .rw[f,nT]at H;obtain⟨u,c,rfl⟩:=H;rw[g];have:=o.bd u c;split<;>exact this
 .rw[f,nT]at H;obtain⟨u,c,rfl⟩:=H;split
  .exact p
  .exact o.sp u c
 .rw[i,o.e1,f];constructor
  .rintro⟨y,H,rfl⟩;refine⟨_,nT.2 ⟨y,H,rfl⟩,?_⟩;split<;>rfl
  .rintro⟨y,H,rfl⟩;obtain⟨u,c,rfl⟩:=nT.1 H;refine⟨u,c,?_⟩;split<;>rfl
 .rw[j,o.e2,f];constructor
  .rintro(⟨l,rfl⟩|⟨⟨y,H,d,rfl⟩,m⟩)
   .refine⟨_,nT.2 ⟨z,q,rfl⟩,?_⟩;rw[ag rfl];exact⟨l,rfl⟩
   .refine⟨_,nT.2 ⟨y,H,rfl⟩,?_⟩;rw[af (λe=>m (by rw[e]))];exact⟨d,rfl⟩
  .rintro⟨y,H,d,rfl⟩;obtain⟨u,c,rfl⟩:=nT.1 H;by_cases e:u.num=z.num
   .rw[ag e]at d⊢;exact .inl ⟨d,by rw[<-e]⟩
   .rw[af e]at d⊢;exact .inr ⟨⟨u,c,d,rfl⟩,by show(u.num:Int)≠_;omega⟩
 .have:=o.yA;rw[g,f,PG];omega
theorem sR.rel(o:sR s)(O:Ord s)(k ses:Int):sR (Fs s k ses):=by
 unfold Fs;by_cases H:lP s.L k ses=0
 .rw[ag H];obtain⟨z,c,rfl,_,_⟩:=HQ H;rw[aF];refine o.set O c (eu 0) rfl rfl (λe=> ?_) rfl rfl;show e∈fU _ _↔_;rw[sS];simp
 .rw[af H];exact o
theorem JV{x:Ev}(h:mI L x=some z):z∈L/\z.e=x/\z.ses=0:=by
 unfold mI mA at h;have H:=List.mem_of_find?_eq_some h;have c:=List.find?_some h;rw[bj]at H;exact⟨H.1,cI H.2,by simpa using c⟩
theorem sR.DY(o:sR s)(O:Ord s)(c:z∈s.L){dl:Nat}(H:uW ses dl):sR (su s z ses dl):=by
 have d:=H.1;refine o.set O c ae rfl rfl (λe=> ?_) rfl rfl;show e∈Br _ _ _↔_;rw[HP];have:ses≠0:=ae
 simp[this]
theorem gx: ∀{L:List E},jz L->cf.due L now=L.filter (jI now)/\cf.rest L now=L.filter (λe=> !jI now e)
 | [],_=>⟨rfl,rfl⟩
 |e::r,g=>by
  have f:=dY.1 g;obtain⟨i,I⟩:=gx (L:=r) f.2;unfold cf.due at i⊢;unfold cf.rest at I⊢;by_cases d:jI now e=true
  .rw[List.takeWhile_cons,List.dropWhile_cons,cC,cC,d];simp only[ba,cU,aq,aL];rw[i,I];exact⟨rfl,rfl⟩
  .have c:jI now e=false:=by simpa using d
   have A: ∀x∈r,jI now x=false:=by
    intro x H;have h1:=f.1 x H;unfold jI at c⊢;have j:=gj c;apply aB
    rcases h1 with h1|h1<;>omega
   rw[List.takeWhile_cons,List.dropWhile_cons,cC,cC,c];simp only[aq,aL,dS,ba];refine⟨?_,?_⟩
   .symm;rw[List.filter_eq_nil_iff];intro x H;rw[A x H];simp
   .congr 1;symm;rw[cD];intro x H;rw[A x H];rfl
def uX(L:List Cp)(K:List Int):List Cp:=L.filter (λz=> !decide ((z.num:Int)∈K))
def pH(L:List E)(K:List Int):List E:=L.filter (λe=> !decide (e.1∈K))
theorem BP(L:List Cp):uX L []=L:=by unfold uX;exact cD.2 (λ_ _=>bV)
theorem sw(L:List E):pH L []=L:=by unfold pH;exact cD.2 (λ_ _=>bV)
theorem xP(L:List Cp)(k:Int)(K:List Int):uX (CP L k) K=uX L (k::K):=by
 unfold uX CP;rw[gI];apply eM
 intro x _;by_cases H:(x.num:Int)=k
 .simp[H]
 .by_cases c:(x.num:Int)∈K<;>simp[H,c]
theorem pI(L:List E)(k:Int)(K:List Int):pH (fU L k) K=pH L (k::K):=by
 unfold pH fU;rw[gI];apply eM
 intro x _;by_cases H:x.1=k
 .simp[H]
 .by_cases c:x.1∈K<;>simp[H,c]
theorem D7: ∀(K:List Int)(s:CF),K.foldl jC s= { s with L:=uX s.L K,E1:=pH s.E1 K,E2:=pH s.E2 K,over:=s.over+K.length }
 | [],s=>by rw[BP,sw,sw];rfl
 |k::K,s=>by
  rw[List.foldl_cons,D7 K];unfold jC Fq;dsimp only;rw[xP,pI,pI,bf];congr 1;omega
theorem xQ: ∀(K:List Int)(s:CF),K.foldl qx s= { s with L:=uX s.L K,E1:=pH s.E1 K,E2:=pH s.E2 K,gone:=s.gone+K.length }
 | [],s=>by rw[BP,sw,sw];rfl
 |k::K,s=>by
  rw[List.foldl_cons,xQ K];unfold qx Fq;dsimp only;rw[xP,pI,pI,bf];congr 1;omega
def nU(L:List Cp)(K:List Int):List Cp:=L.map (λz=>if(z.num:Int)∈K then { z with ses:=0,dl:=0 } else z)
theorem D8: ∀(K:List Int)(s:CF),(∀k∈K,0<=k)->K.foldl (λs k=>oG s k.toNat) s= { s with L:=nU s.L K,E2:=pH s.E2 K }
 | [],s,_=>by
  rw[sw];have:nU s.L []=s.L:=by unfold nU;simp
  rw[this];rfl
 |k::K,s,f=>by
  rw[List.foldl_cons,D8 K _ (λj g=>f j (cv _ g))];have i:=f k bV;unfold oG;dsimp only;have e:((k.toNat:Nat):Int)=k:=ae
  rw[e,pI];have:nU (pF s.L k.toNat 0 0) K=nU s.L (k::K):=by
   unfold nU pF;rw[dJ];apply eH
   intro x _;show(λz:Cp=>if(z.num:Int)∈K then({ z with ses:=0,dl:=0 } :Cp)else z) (if x.num=k.toNat then({ x with ses:=0,dl:=0 } :Cp)else x)=_;by_cases d:x.num=k.toNat
   .have c:(x.num:Int)=k:=ae
    rw[ag d,ag (show(x.num:Int)∈k::K by rw[c];simp)];dsimp only;split<;>rfl
   .have c:(x.num:Int)≠k:=ae
    rw[af d];dsimp only;by_cases H:(x.num:Int)∈K
    .rw[ag H,ag (cv _ H)]
    .rw[af H,af (by simp[c,H])]
  rw[this]
theorem KY: ∀(K:List Int)(L:List Cp),(L.map Cp.num).Nodup->K.Nodup->(∀k∈K,∃z∈L,(z.num:Int)=k)->(uX L K).length+K.length=L.length
 | [],L,_,_,_=>by rw[BP];rfl
 |k::K,L,d,l,c=>by
  obtain⟨z,i,rfl⟩:=c k bV;rw[<-xP,bf];have m:=wj d i;have f:=fL.1 l;have o:=KY K (CP L (z.num:Int)) (fj (gh _ cS) d) f.2 (λj H=>by
   obtain⟨y,g,e⟩:=c j (cv _ H);exact⟨y,nR.2 ⟨g,λE=>f.1 (by rw[<-E,e];exact H)⟩,e⟩)
  omega
theorem nV :z∈uX L K↔z∈L/\(z.num:Int)∉K:=by unfold uX;simp[bj]
theorem BQ{L:List E}:e∈pH L K↔e∈L/\e.1∉K:=by unfold pH;simp[bj]
theorem MN :z∈nU L K↔ ∃y∈L,z=if(y.num:Int)∈K then { y with ses:=0,dl:=0 } else y:=by
 unfold nU;rw[bp];exact⟨λ⟨y,H,c⟩=>⟨y,H,c.symm⟩,λ⟨y,H,c⟩=>⟨y,H,c.symm⟩⟩
theorem PH(O:Ord s)(x:Ev):((mA s.L x).map (λz=>(z.num:Int))).Nodup:=by
 have:((mA s.L x).map Cp.num).Nodup:=fj (gh _ cS) O.nd;have e:(mA s.L x).map (λz=>(z.num:Int))=((mA s.L x).map Cp.num).map (λn:Nat=>(n:Int)):=by rw[dJ];rfl
 rw[e];exact List.Pairwise.map _ (λa b h=>ae) this
theorem sR.outs(o:sR s)(O:Ord s)(m:K.Nodup)(l: ∀k∈K,∃z∈s.L,(z.num:Int)=k)(c:s'.L=uX s.L K)(i:s'.E1=pH s.E1 K)(j:s'.E2=pH s.E2 K)(g:s'.next=s.next)(p:s'.gE+s'.over+s'.gone=s.gE+s.over+s.gone+K.length):sR s':=by
 refine⟨λy H=> ?_,λy H=> ?_,λe=> ?_,λe=> ?_,?_⟩
 .rw[c,nV]at H;rw[g];exact o.bd y H.1
 .rw[c,nV]at H;exact o.sp y H.1
 .rw[i,BQ,o.e1,c];constructor
  .rintro⟨⟨y,H,rfl⟩,d⟩;exact⟨y,nV.2 ⟨H,d⟩,rfl⟩
  .rintro⟨y,H,rfl⟩;have:=nV.1 H;exact⟨⟨y,this.1,rfl⟩,this.2⟩
 .rw[j,BQ,o.e2,c];constructor
  .rintro⟨⟨y,H,f,rfl⟩,d⟩;exact⟨y,nV.2 ⟨H,d⟩,f,rfl⟩
  .rintro⟨y,H,f,rfl⟩;have:=nV.1 H;exact⟨⟨y,this.1,f,rfl⟩,this.2⟩
 .have:=KY K s.L O.nd m l;have:=o.yA;rw[g,c];omega
theorem sR.drop(o:sR s)(O:Ord s)(x:Ev):sR (yE s x):=by
 unfold yE;rw[xQ];refine o.outs O (PH O x) (λk H=> ?_) rfl rfl rfl rfl (by show s.gE+s.over+(s.gone+_)=_;omega);obtain⟨z,c,e⟩:=bp.1 H;exact⟨z,(bj.1 c).1,e⟩
theorem Fv(O:Ord s):e∈cf.due s.E1 now↔e∈s.E1/\e.2<=now:=by
 rw[(gx O.o1).1,bj];unfold jI;simp
theorem MO(O:Ord s)(now:Int):(keys (cf.due s.E1 now)).Nodup:=by
 unfold keys;exact fj (gh _ (List.takeWhile_sublist _)) O.n1
theorem Fw(o:sR s)(O:Ord s)(H:z∈s.L):(z.num:Int)∈keys (cf.due s.E1 now)↔(z.fa:Int)<=now:=by
 unfold keys;rw[bp];constructor
 .rintro⟨e,f,E⟩;obtain⟨c,d⟩:=(Fv O).1 f;obtain⟨y,g,rfl⟩:=(o.e1 e).1 c;obtain rfl:=O.inj g H (Int.ofNat.inj E);exact d
 .intro h;exact⟨(z.num,z.fa),(Fv O).2 ⟨(o.e1 _).2 ⟨z,H,rfl⟩,h⟩,rfl⟩
theorem Th(o:sR s)(O:Ord s)(H:k∈keys (cf.due s.E1 now)): ∃z∈s.L,(z.num:Int)=k:=by
 unfold keys at H;obtain⟨e,c,rfl⟩:=bp.1 H;obtain⟨z,d,rfl⟩:=(o.e1 e).1 ((Fv O).1 c).1;exact⟨z,d,rfl⟩
theorem MP(O:Ord s):pH (cf.rest s.E1 now) (keys (cf.due s.E1 now))=pH s.E1 (keys (cf.due s.E1 now)):=by
 rw[(gx O.o1).1,(gx O.o1).2];unfold pH keys;rw[gI];apply eM
 intro e H;by_cases hd:jI now e=true
 .have:e.1∈(s.E1.filter (jI now)).map (·.1):=bz (bj.2 ⟨H,hd⟩);simp only[this,bu,cU,fI]
 .simp[hd]
def mv(now:Int)(z:Cp):Cp:=if z.ses≠0/\(z.dl:Int)<=now then { z with ses:=0,dl:=0 } else z
def PI(s:CF)(now:Int):CF:= { L:=uX s.L (keys (cf.due s.E1 now)),next:=s.next,gE:=s.gE,over:=s.over+(keys (cf.due s.E1 now)).length,gone:=s.gone,E1:=pH s.E1 (keys (cf.due s.E1 now)),E2:=pH s.E2 (keys (cf.due s.E1 now)) }
def PJ(S:CF)(now:Int):CF:=(keys (cf.due S.E2 now)).foldl (λs k=>oG s k.toNat) { S with E2:=cf.rest S.E2 now }
theorem PK(O:Ord s):jo s now=PJ (PI s now) now:=by
 unfold jo PJ PI;dsimp only;rw[D7];dsimp only;rw[MP O]
theorem MQ(l:sR s)(O:Ord s)(now:Int):sR (jo s now)/\(∀z,z∈(jo s now).L↔ ∃y∈s.L,now<(y.fa:Int)/\z=mv now y)/\(jo s now).next=s.next/\(jo s now).E1.length<=s.E1.length/\(jo s now).E2.length<=s.E2.length/\(jo s now).L=(s.L.filter (λy=>decide (now<(y.fa:Int)))).map (mv now)/\(jo s now).gE=s.gE/\(jo s now).over=s.over+(cf.due s.E1 now).length/\(jo s now).gone=s.gone:=by
 rw[PK O];generalize g:PI s now=S;have o:sR S:=by
  subst g;exact l.outs O (MO O now) (λk j=>Th l O j) rfl rfl rfl rfl (by show s.gE+(s.over+_)+s.gone=_;omega)
 have m:Ord S:=by
  subst g;exact⟨fj (gh _ cS) O.nd,gp _ O.o1,gp _ O.o2,fj (gh _ cS) O.n1,fj (gh _ cS) O.n2⟩
 have M: ∀z,z∈S.L↔z∈s.L/\now<(z.fa:Int):=λz=>by
  subst g;show z∈uX _ _↔_;rw[nV];constructor
  .rintro⟨d,i⟩;exact⟨d,Int.not_le.1 (λe=>i ((Fw l O d).2 e))⟩
  .rintro⟨d,i⟩;exact⟨d,λe=>absurd ((Fw l O d).1 e) (Int.not_le.2 i)⟩
 have P:S.next=s.next:=by subst g;rfl
 have I:S.E1.length<=s.E1.length:=by subst g;exact cP _ _
 have J:S.E2.length<=s.E2.length:=by subst g;exact cP _ _
 have C:S.gE=s.gE/\S.over=s.over+(cf.due s.E1 now).length/\S.gone=s.gone:=by subst g;exact⟨rfl,by show s.over+(keys _).length=_;unfold keys;rw[ay],rfl⟩
 have w:S.L=s.L.filter (λy=>decide (now<(y.fa:Int))):=by
  subst g;show uX _ _=_;unfold uX;refine eM λz c=> ?_
  have:=Fw (now:=now) l O c;by_cases hd:(z.fa:Int)<=now
  .rw[aw (this.2 hd),aB (Int.not_lt.2 hd)];rfl
  .rw[aB (λe=>hd (this.1 e)),aw (Int.not_le.1 hd)];rfl
 clear g;have p: ∀e,e∈cf.due S.E2 now↔e∈S.E2/\e.2<=now:=λe=>by
  rw[(gx m.o2).1,bj];unfold jI;simp
 have D: ∀z∈S.L,((z.num:Int)∈keys (cf.due S.E2 now)↔z.ses≠0/\(z.dl:Int)<=now):=λz c=>by
  unfold keys;rw[bp];constructor
  .rintro⟨e,u,E⟩;obtain⟨d,i⟩:=(p e).1 u;obtain⟨y,H,f,rfl⟩:=(o.e2 e).1 d;obtain rfl:=m.inj H c (Int.ofNat.inj E);exact⟨f,i⟩
  .rintro⟨d,i⟩;exact⟨(z.num,z.dl),(p _).2 ⟨(o.e2 _).2 ⟨z,c,d,rfl⟩,i⟩,rfl⟩
 have x: ∀k∈keys (cf.due S.E2 now),0<=k:=λk j=>by
  unfold keys at j;obtain⟨e,u,rfl⟩:=bp.1 j;obtain⟨z,c,_,rfl⟩:=(o.e2 e).1 ((p e).1 u).1;show(0:Int)<=(z.num:Int);omega
 unfold PJ;rw[D8 _ _ x];have r: ∀z∈S.L,(if(z.num:Int)∈keys (cf.due S.E2 now)then({ z with ses:=0,dl:=0 } :Cp)else z)=mv now z:=λz c=>by
  unfold mv;by_cases hd:z.ses≠0/\(z.dl:Int)<=now
  .rw[ag hd,ag ((D z c).2 hd)]
  .rw[af hd,af (λe=>hd ((D z c).1 e))]
 have F: ∀z,z∈nU S.L (keys (cf.due S.E2 now))↔ ∃y∈S.L,z=mv now y:=λz=>by
  rw[MN];constructor
  .rintro⟨y,H,rfl⟩;exact⟨y,H,r y H⟩
  .rintro⟨y,H,rfl⟩;exact⟨y,H,(r y H).symm⟩
 have q: ∀y,(mv now y).num=y.num:=λy=>by unfold mv;split<;>rfl
 have v: ∀y,(mv now y).fa=y.fa:=λy=>by unfold mv;split<;>rfl
 have A: ∀y,(mv now y).d=y.d:=λy=>by unfold mv;split<;>rfl
 refine⟨⟨λz c=> ?_,λz c=> ?_,λe=> ?_,λe=> ?_,?_⟩,λz=> ?_,P,I,?_,?_,C⟩
 .obtain⟨y,H,rfl⟩:=(F z).1 c;rw[q,A];exact o.bd y H
 .obtain⟨y,H,rfl⟩:=(F z).1 c;unfold mv;split
  .exact eu _
  .exact o.sp y H
 .show e∈S.E1↔ ∃z∈nU _ _,_;rw[o.e1];constructor
  .rintro⟨y,H,rfl⟩;exact⟨_,(F _).2 ⟨y,H,rfl⟩,by rw[q,v]⟩
  .rintro⟨z,c,rfl⟩;obtain⟨y,H,rfl⟩:=(F z).1 c;exact⟨y,H,by rw[q,v]⟩
 .show e∈pH (cf.rest S.E2 now) _↔ ∃z∈nU _ _,_;rw[BQ,(gx m.o2).2,bj];constructor
  .rintro⟨⟨d,i⟩,B⟩;obtain⟨y,H,f,rfl⟩:=(o.e2 e).1 d;have hd: ¬(y.ses≠0/\(y.dl:Int)<=now):=λhd=>B ((D y H).2 hd)
   refine⟨_,(F _).2 ⟨y,H,rfl⟩,?_⟩;unfold mv;rw[af hd];exact⟨f,rfl⟩
  .rintro⟨z,c,f,rfl⟩;obtain⟨y,H,rfl⟩:=(F z).1 c;unfold mv at f⊢;by_cases hd:y.ses≠0/\(y.dl:Int)<=now
   .rw[ag hd]at f;exact absurd rfl f
   .rw[af hd]at f⊢;refine⟨⟨(o.e2 _).2 ⟨y,H,f,rfl⟩,?_⟩,λj=>hd ((D y H).1 j)⟩;have: ¬(y.dl:Int)<=now:=λe=>hd ⟨f,e⟩
    unfold jI;simpa using this
 .have:=o.yA;show S.next=1+(nU _ _).length+_+_+_;unfold nU;rw[ay];exact this
 .show z∈nU _ _↔_;rw[F];constructor
  .rintro⟨y,H,rfl⟩;have:=(M y).1 H;exact⟨y,this.1,this.2,rfl⟩
  .rintro⟨y,H,G,rfl⟩;exact⟨y,(M y).2 ⟨H,G⟩,rfl⟩
 .refine cE (cP _ _) (cE (BO _ _) J)
 .show nU _ _=_;rw[<-w];exact eH r

end gm
end
end Go.Proofs.YtimiaphmdidfhaaGreatDoor
namespace Go.Proofs
open Go.Den
open IntKind (wrap)
open Int (toNat)
section
open Go.Shelf
def Tryz.HR:Go.Shelf.Ren:=⟨fun|284=>154|129=>221|317=>220|318=>222|n=>n,fun|53=>23|3=>3|212=>328|0=>0|4=>4|46=>153|5=>5|9=>9|n=>n,fun|17=>0|n=>n⟩
theorem Tryz.Rn : Go.Proofs.LaysM.n284 Tryz.prog Tryz.HR := {
  mixed := by kernel_rfl
  f129 := Tryz.func221.trans (congrArg some (by kernel_rfl))
  f284 := Tryz.func154.trans (congrArg some (by kernel_rfl))
  f317 := Tryz.func220.trans (congrArg some (by kernel_rfl))
  f318 := Tryz.func222.trans (congrArg some (by kernel_rfl))
  t0 := Tryz.underlying0
  a0 := Tryz.isAgg0
  z0 := Tryz.sizeOf0
  v0 := Tryz.zeroValue0
  t3 := Tryz.underlying3
  a3 := Tryz.isAgg3
  z3 := Tryz.sizeOf3
  v3 := Tryz.zeroValue3
  t4 := Tryz.underlying4
  a4 := Tryz.isAgg4
  z4 := Tryz.sizeOf4
  v4 := Tryz.zeroValue4
  t5 := Tryz.underlying5
  a5 := Tryz.isAgg5
  z5 := Tryz.sizeOf5
  v5 := Tryz.zeroValue5
  t9 := Tryz.underlying9
  a9 := Tryz.isAgg9
  z9 := Tryz.sizeOf9
  v9 := Tryz.zeroValue9
  t46 := Tryz.underlying153
  a46 := Tryz.isAgg153
  z46 := Tryz.sizeOf153
  v46 := Tryz.zeroValue153
  t53 := Tryz.underlying23
  a53 := Tryz.isAgg23
  z53 := Tryz.sizeOf23
  v53 := Tryz.zeroValue23
  t212 := Tryz.underlying328
  a212 := Tryz.isAgg328
  z212 := Tryz.sizeOf328
  v212 := Tryz.zeroValue328
  g17 := by kernel_rfl
  i0 := by kernel_rfl
  i3 := by kernel_rfl
  i4 := by kernel_rfl
  i5 := by kernel_rfl
  i9 := by kernel_rfl
  i46 := by kernel_rfl
  i53 := by kernel_rfl
  i212 := by kernel_rfl
  m17 := by kernel_rfl }
def Tryz.HS:Go.Shelf.Ren:=⟨fun|285=>155|n=>n,fun|37=>26|53=>23|3=>3|4=>4|51=>329|9=>9|5=>5|0=>0|n=>n,fun|n=>n⟩
theorem Tryz.Ro : Go.Proofs.Lays.n285 Tryz.prog Tryz.HS := {
  mixed := by kernel_rfl
  f285 := Tryz.func155.trans (congrArg some (by kernel_rfl))
  t0 := Tryz.underlying0
  a0 := Tryz.isAgg0
  z0 := Tryz.sizeOf0
  v0 := Tryz.zeroValue0
  t3 := Tryz.underlying3
  a3 := Tryz.isAgg3
  z3 := Tryz.sizeOf3
  v3 := Tryz.zeroValue3
  t4 := Tryz.underlying4
  a4 := Tryz.isAgg4
  z4 := Tryz.sizeOf4
  v4 := Tryz.zeroValue4
  t5 := Tryz.underlying5
  a5 := Tryz.isAgg5
  z5 := Tryz.sizeOf5
  v5 := Tryz.zeroValue5
  t9 := Tryz.underlying9
  a9 := Tryz.isAgg9
  z9 := Tryz.sizeOf9
  v9 := Tryz.zeroValue9
  t37 := Tryz.underlying26
  a37 := Tryz.isAgg26
  z37 := Tryz.sizeOf26
  v37 := Tryz.zeroValue26
  t51 := Tryz.underlying329
  a51 := Tryz.isAgg329
  z51 := Tryz.sizeOf329
  v51 := Tryz.zeroValue329
  t53 := Tryz.underlying23
  a53 := Tryz.isAgg23
  z53 := Tryz.sizeOf23
  v53 := Tryz.zeroValue23 }
def Tryz.HT:Go.Shelf.Ren:=⟨fun|283=>153|n=>n,fun|3=>3|9=>9|4=>4|n=>n,fun|n=>n⟩
theorem Tryz.Rp : Go.Proofs.Lays.n283 Tryz.prog Tryz.HT := {
  mixed := by kernel_rfl
  f283 := Tryz.func153.trans (congrArg some (by kernel_rfl))
  t3 := Tryz.underlying3
  a3 := Tryz.isAgg3
  z3 := Tryz.sizeOf3
  v3 := Tryz.zeroValue3
  t4 := Tryz.underlying4
  a4 := Tryz.isAgg4
  z4 := Tryz.sizeOf4
  v4 := Tryz.zeroValue4
  t9 := Tryz.underlying9
  a9 := Tryz.isAgg9
  z9 := Tryz.sizeOf9
  v9 := Tryz.zeroValue9 }

end
end Go.Proofs
namespace Go.Proofs.YtimiaphmdidfhaaGreatDoor
open Go.Den
open IntKind (wrap)
open Int (toNat)
section
namespace lM
variable {h H:aj} {R:fD}
def oD(h:aj):Prop:= ∃t f,h[(0:Nat)]? =some (.cells (Lib.pow10Tab.map λz=>Value.int .u64 z).toArray t f)
theorem oD.frame{S:Nat->Prop}(T:oD h)(f:Fr S h H)(b: ∀c,c<h.size->¬S c):oD H:=by
 obtain⟨t,F,a⟩:=T;exact⟨t,F,f.get a (b _ (aC a))⟩
theorem oD.on(T:oD h)(f:Fr No h H):oD H:=T.frame f bX
theorem oD.is{w:World}{s:String}(b:Tryz.prog.globalNamed s=some 0)(T:oD w.heap):Lib.TabIs Tryz.prog w s .u64 Lib.pow10Tab:=by
 obtain⟨t,f,a⟩:=T;unfold Lib.TabIs World.var?;rw[b];show(match w.heap[(0:Nat)]? with|some (.cells c _ _)=>some c|_=>none)=_;rw[a]
theorem PL{i:Nat}(c:i<100)(d:R (.string ⟨(Lib.decDigits i).toArray⟩) h):Cl 153 #[.I i] h R:=λw f=>
 (Any.internal_strconv_small Tryz.Rp i c w).mono λe g ⟨b,a⟩=>⟨_,b,by rw[a,f];exact d,by rw[a];exact fX.refl _⟩
theorem MR{u:Nat}(T:oD h)(c:1<=u)(d:u<18446744073709551616)(g:R (.I (Lib.nDigits u)) h):Cl 154 #[.U u] h R:=λw a=>
 (Any.internal_strconv_numDigits Tryz.Rn u c d w (by rw[<-a]at T;exact T.is dz)).mono λe i ⟨f,b⟩=>⟨_,f,by rw[b,a];exact g,by rw[b];exact fX.refl _⟩

end lM
end
section
variable {h:aj} {R:fD}
variable {i b:Int}
theorem mY.walk(j:if(b==10)then if(decide (i<100))then Cl 153 #[.I (wrap .i64 i)] h λv d=> ∃T,v=.S T/\R (.S T) d else bh h (.C #[.int .u8 0,.int .u8 0,.int .u8 0,.int .u8 0,.int .u8 0,.int .u8 0,.int .u8 0,.int .u8 0,.int .u8 0,.int .u8 0,.int .u8 0,.int .u8 0,.int .u8 0,.int .u8 0,.int .u8 0,.int .u8 0,.int .u8 0,.int .u8 0,.int .u8 0,.int .u8 0,.int .u8 0,.int .u8 0,.int .u8 0,.int .u8 0] 244) λB e=>Cl 154 #[.U i] e λV f=>Vi V λt=>((0:Int)<=t/\t<=((24:Nat):Int))/\Cl 155 #[.L (cT (Sa B 0) 24 0 1) ((toNat t) - 0) (24 - 0),.U i] f λn H=>n=.T #[]/\((0:Int)<=t/\t<=((24:Nat):Int))/\∃(a:ByteArray),re Tryz.prog 26 9 (.L (cT (Sa B 0) 24 0 1) ((toNat t) - 0) (24 - 0)) H a/\R (.S a) H else Cl 156 #[.Z,.U i,.I b,.B false,.B false] h λo g=> ∃m l k c,o=.T #[.L m l k,.S c]/\R (.S c) g):Cl 96 #[.U i,.I b] h R:=aP (lq (sq (lq (cq (sq (lq (cq ll lf)) (lq (lq (lq ll)))) lf)) (lq ll))) Tryz.func96 j
theorem uY.walk(a:Cl 96 #[.U i,.I b] h λv H=> ∃t,v=.S t/\R (.S t) H):Cl 58 #[.U i,.I b] h R:=aP (lq ll) Tryz.func58 a

end
section
namespace lM
variable {h H:aj} {R:fD}
variable {u:Nat}
theorem MS{B n cap:Nat}{c:Array Value}{t:TypeId}(f:h[B]? =some (.C c t (0,0)))(l: ∀j,j<n->c[j]? =some (.int .u8 0))(r:u<10 ^ n)(s:u<18446744073709551616)(A:n<100)(q: ∀H C d v,H[B]? =some (.C C t (0,0))->Lib.FmtInv n u 0 v d->(∀j,j<n->C[j]? =some (.int .u8 ((d[j]!).toNat:Int)))->H.size=h.size->(∀x,x≠B->H[x]? =h[x]?)->R (.T #[]) H):
  Cl 155 #[.L (Sa B 0) n cap,.U u] h R:=λw y=>by
 subst y;have m:Sort.Holds (λ(b:UInt8)=>Value.int .u8 (b.toNat:Int)) w B 0 (Array.replicate n 0):=λj a=>by
  rw[Array.size_replicate]at a;refine⟨?_,?_⟩
  .rw[kV,kO f,bM,l j a];have:(Array.replicate n (0:UInt8))[j]! =0:=by simp[a]
   rw[this];rfl
  .rw[sD];exact mi f
 have K:=Any.internal_strconv_formatBase10 Tryz.Ro B 0 cap u (Array.replicate n 0) w m (by rw[Array.size_replicate];exact r) s (by rw[Array.size_replicate];omega);rw[Array.size_replicate]at K;refine Calls.mono K λe D ⟨o,k,v,d,i,g⟩=>⟨_,o,?_,?_⟩
 .subst i;have p:((Sort.putRow (λ(b:UInt8)=>Value.int .u8 (b.toNat:Int)) w B 0 d).drewN k).heap=w.heap.modify B (Sort.onCells (Sort.putCells (λ(b:UInt8)=>Value.int .u8 (b.toNat:Int)) 0 d)):=rfl;rw[p];refine q _ (Sort.putCells (λ(b:UInt8)=>Value.int .u8 (b.toNat:Int)) 0 d c) d v ?_ g (λj a=> ?_) bV (λx z=>by rw[dE,af (λe=>z e.symm)])
  .rw[dE,ag rfl,f];rfl
  .unfold Sort.putCells;rw[Array.getElem?_mapIdx,l j a,du,ag ⟨bL _,by rw[g.size];omega⟩,Nat.sub_zero]
 .subst i;exact⟨rfl,rfl,rfl⟩
theorem tS:Tryz.prog.underlying 26=some (.slice 5):=dz
theorem t8:Tryz.prog.underlying 5=some (.int .u8):=dz
theorem tT:Tryz.prog.underlying 9=some .string:=dz
theorem MT(t:oD h)(d:u<18446744073709551616)(g: iq h R (.string ⟨(Lib.decDigits u).toArray⟩)):Cl 96 #[.U u,.I 10] h R:=by
 refine mY.walk ?_;rw[ag (by rfl)];by_cases i:u<100
 .rw[gk,bC ae ae];exact PL i ⟨_,rfl,g h (Fr.refl _ _)⟩
 .rw[af (by simp;omega)];refine cK ?_;generalize q:(#[.int .u8 0,.int .u8 0,.int .u8 0,.int .u8 0,.int .u8 0,.int .u8 0,.int .u8 0,.int .u8 0,.int .u8 0,.int .u8 0,.int .u8 0,.int .u8 0,.int .u8 0,.int .u8 0,.int .u8 0,.int .u8 0,.int .u8 0,.int .u8 0,.int .u8 0,.int .u8 0,.int .u8 0,.int .u8 0,.int .u8 0,.int .u8 0]:Array Value)=c;have o: ∀j,j<24->c[j]? =some (.int .u8 0):=by
   have:c=Array.replicate 24 (.int .u8 0):=by rw[<-q];rfl
   intro j a;rw[this];simp[a]
  have f:Fr No h (h.push (.C c 244)):=Fr.push _ _;have m:(h.push (.C c 244))[h.size]? =some (.C c 244 (0,0)):=bZ;have w:Lib.nDigits u<=20:=by have:=Lib.numDigits_eq u ae d;split at this<;>omega
  refine MR (t.on f) ae d ⟨_,rfl,ae,?_⟩;have E:cT (some ((AA h.size 0):Addr)) 24 0 1=some (AA h.size 0):=rfl;rw[E,aF,Nat.sub_zero];refine MS m (λj a=>o j ae) (Lib.lt_pow_nDigits u) d ae λk C D V n l p S O=>⟨rfl,ae,str (Lib.decDigits u),?_,?_⟩
  .refine Gl tS t8 tT (.inr ⟨_,rfl,hT n (λj v a=> ?_)⟩) (Lib.decDigits_length u).symm;rw[bM];have b:j<(Lib.decDigits u).length:=by have:=(aE.1 a).1;rwa[jP]at this
   have r:j<Lib.nDigits u:=by rwa[Lib.decDigits_length]at b
   rw[p j r,<-Lib.row_is_numeral l j b,<-a];unfold bc;rw[aD,ai b];rfl
  .exact g k (f.fresh (S:=λy=>y=h.size) ⟨ae,λy _ s=>O y s⟩ (λy e=>Nat.le_of_eq e.symm))
theorem tZ(t:oD h)(c:u<18446744073709551616)(b: iq h R (.string ⟨(Lib.decDigits u).toArray⟩)):Cl 58 #[.U u,.I 10] h R:=
 uY.walk (MT t c λa f=>⟨_,rfl,b a f⟩)

end lM
end
section
namespace jA
variable {h:aj} {R:fD}
def gU(x:Ev):cM:=
 if x=.zero then [100,116,110,58,110,111,110,101]
 else if x.km=true then [105,112,110,58]++Lib.decDigits x.node.toNat++ [46]++Lib.decDigits x.gy.toNat
 else [100,116,110,58]++([47,47]++x.host.data.toList++ [47]++x.jN.data.toList)
theorem zX{u:Nat}(a:u<18446744073709551616):(Lib.decDigits u).length<=20:=by
 rw[Lib.decDigits_length];by_cases H:u<10
 .rw[Lib.nDigits_small H];omega
 .have:=Lib.numDigits_eq u ae a;split at this<;>omega
theorem pJ{x:Ev}(H:dc x=true)(b:0<=x.gy):(gU x).length<=100:=by
 unfold gU;unfold dc at H;by_cases z:x=.zero
 .rw[ag z];simp
 rw[af z]at H⊢;by_cases a:x.km=true
 .rw[ag a]at H⊢;have H:=aS H;have l:=zX (u:=x.node.toNat) ae;have L:=zX (u:=x.gy.toNat) ae;simp only[au,bf,bG];omega
 .rw[af a]at H⊢;simp only[aU,aX]at H;simp only[au,bf,bG,lE];omega
theorem oC(x:Ev)(T:lM.oD h)(w:0<=x.gy)(H: iq h R (.T #[.S (if dc x=true then str (gU x)else⟨#[]⟩),.I (if dc x=true then 0 else 3)])):Cl 30 #[lL x] h R:=by
 refine ON.walk (az.box λb v u k g=>az.ld k (fK x λi e=>⟨_,rfl,?_⟩));by_cases a:dc x=true
 .simp only[a,ba]at H;rw[af (cI a)];have c:=e.get k id;have F:=g.tt e;have t:=T.on F;refine az.ld c ⟨_,vD (y:=.zero) (x:=x) rfl rfl,?_⟩;unfold gU at H;unfold dc at a;by_cases z:x=.zero
  .rw[ag (aw z)];rw[ag z]at H;exact H i F
  rw[af (cI z)];rw[af z]at a;simp only[af z]at H;refine⟨_,ak c,?_⟩;have E:(⟨#[105,112,110,58]⟩:ByteArray)=str [105,112,110,58]:=rfl;have m:(⟨#[46]⟩:ByteArray)=str [46]:=rfl;have n:(⟨#[100,116,110,58]⟩:ByteArray)=str [100,116,110,58]:=rfl;by_cases d:x.km=true
  .rw[ag d]at a⊢;simp only[ag d]at H;have a:=aS a;have L:=zX (u:=x.node.toNat) ae;have q:=zX (u:=x.gy.toNat) ae;have r:x.node=(x.node.toNat:Int):=ae
   have s:x.gy=(x.gy.toNat:Int):=ae
   rw[E,m,SW];refine⟨_,ak c,_,ak c,?_⟩;rw[r];refine lM.tZ t ae λj f=>⟨_,rfl,ak (f.get c id),?_⟩
   have C:(⟨(Lib.decDigits x.node.toNat).toArray⟩:ByteArray)=str (Lib.decDigits x.node.toNat):=rfl;have l:(⟨(Lib.decDigits x.gy.toNat).toArray⟩:ByteArray)=str (Lib.decDigits x.gy.toNat):=rfl;rw[C];refine⟨?_,?_,?_⟩
   .rw[iN,iN];simp;omega
   .rw[kh,iN,iN];simp;omega
   rw[s];refine lM.tZ (t.on f) ae λp o=>⟨_,rfl,?_⟩
   rw[l];refine⟨?_,?_⟩
   .rw[kh,kh,iN,iN];simp;omega
   .rw[kh,kh,kh];exact H p (F.tt (f.tt o))
  .rw[af d]at a⊢;simp only[af d]at H;simp only[aU,aX]at a;refine az.ld c (KK x ae ae λj f=>⟨_,rfl,?_⟩);have L:=lE x.host;have q:=lE x.jN;rw[n,SW];refine⟨?_,?_⟩
   .rw[iN,iN];simp;omega
   .rw[kh];exact H j (F.tt f)
 .simp only[a,aq,aL]at H;rw[ag (cI a)];exact H i (g.tt e)

end jA
end
section
variable {h:aj} {R:fD}
theorem JW.walk{c:ck}{A e:Nat}{B:ck}{b f:Nat}(g:if((A:Int) !=(b:Int))then R (.B false) h else∃(I:Int->aj->Prop)(m:Int->aj->Nat),I 0 h/\∀(i:Int)(H:aj),I i H->if(decide (i<(A:Int)))then Bd i A/\aM c λa=>mJ H (a.add (toNat i*1)) λl k j=> ∃(t:ByteArray),re Tryz.prog 26 9 (.L l k j) H t/\Bd i b/\aM B λd=>mJ H (d.add (toNat i*1)) λp o n=> ∃(T:ByteArray),re Tryz.prog 26 9 (.L p o n) H T/\if(!(t.toList==T.toList))then R (.B false) H else(I (wrap .i64 (i+1)) H/\m (wrap .i64 (i+1)) H<m i H)else R (.B true) H):Cl 12 #[.L c A e,.L B b f] h R:=aP (lq (sq (lq (cq ll lf)) (sq (lq (bq (.loop [(5,.one (.int .i64))] (sq (lq (cq lf lf)) (sq (bq (sq (pN 11) (cq ll lf))) lf))))) ll))) Tryz.func12 g

end
section
open Go.fV
namespace iE
variable {h H:aj} {R:fD} {p q:ck} {c d i:Nat}
variable {l:Nat}
structure Rows (h:aj) (p:ck) (l c:Nat) (xs:List BV):Prop where
 len:l=xs.length
 row:Row h p (xs.flatMap jn)
 cap:l<=c
 each: ∀x∈xs,Row h x.p (bc x.b)
theorem BL.KZ{b:List (cM)}(a:BL H h p l c b): ∃x,Rows h p l c x/\x.map BV.b=b:=by
 obtain⟨x,e,E,f,g,j⟩:=a.rows;exact⟨x,⟨e,E,g,j⟩,f⟩
theorem ji{m:Nat}{X f:List BV}(B:Rows h p l c X)(D:Rows h q m d f)(J:l<=1000000000)(j:R (.B (decide (X.map BV.b=f.map BV.b))) h):Cl 12 #[.L p l c,.L q m d] h R:=by
 obtain⟨rfl,z,_,E⟩:=B;obtain⟨rfl,A,_,F⟩:=D;refine JW.walk ?_;by_cases s:X.length=f.length
 .have:((X.length:Int) !=(f.length:Int))=false:=by rw[s];simp
  rw[this];simp only[aq,aL];refine⟨λi g=>g=h/\∃k:Nat,i=(k:Int)/\k<=X.length/\(X.take k).map BV.b=(f.take k).map BV.b,λi _=>X.length - i.toNat,⟨rfl,0,rfl,ae,bV⟩,?_⟩;rintro _ _ ⟨rfl,k,rfl,I,r⟩;by_cases w:k<X.length
  .have Q:(k:Int)<(X.length:Int):=ae
   simp only[Q,bu,ba,aF];have n:X[k]? =some X[k]:=ai w;have G:f[k]? =some (f[k]' ae):=ai _;generalize X[k]=x at n;generalize f[k]' ae=y at G;obtain⟨a,rfl⟩:=z.some (by intro e;cases X with|nil=>simp at w|cons=>simp at e);obtain⟨b,rfl⟩:=A.some (by intro e;cases f with|nil=>simp at G|cons=>simp at e);have C:=(z.fP jH n).1;have u:=(A.fP jH G).1;rw[eX]at C u;refine⟨⟨by first|trivial|omega,by first|trivial|omega⟩,ax.2 ⟨_,_,_,C,_,conv (E x (aK n)) rfl,⟨by first|trivial|omega,by first|trivial|omega⟩,ax.2 ⟨_,_,_,u,_,conv (F y (aK G)) rfl,?_⟩⟩⟩;rw[pg,pg];by_cases o:x.b=y.b
   .rw[o];simp only[fy,cU,aq,aL];rw[bC ae ae];refine⟨⟨by first|trivial|rfl,k+1,ae,ae,?_⟩,by show _ - Int.toNat ((k:Int)+1)<_;omega⟩;rw[bt,bt,n,G,aV,aV,r];simp[o]
   .have:(x.b==y.b)=false:=by simpa using o
    simp only[this,dS,ba];have t:X.map BV.b≠f.map BV.b:=λe=>by
     have v:(X.map BV.b)[k]? =(f.map BV.b)[k]? :=by rw[e]
     rw[aD,aD,n,G]at v;exact o (aZ v)
    rw[aB t]at j;exact j
  .have Q: ¬(k:Int)<(X.length:Int):=ae
   simp only[Q,bg,aq,aL];obtain rfl:k=X.length:=ae
   rw[dT,s,dT]at r;rw[aw r]at j;exact j
 .have:((X.length:Int) !=(f.length:Int))=true:=by simp;omega
  rw[ag this];have t:X.map BV.b≠f.map BV.b:=λe=>s (by have:=bQ List.length e;simpa using this)
  rw[aB t]at j;exact j

end iE
end
section
variable {h:aj} {R:fD}
theorem CQ.walk{c:Nat}(Z:az.LD h (AA c 1) λD' E' F' G' H'=>Cl 30 #[.agg #[.B D',.U E',.U F',.S G',.S H']] h λI' H=> ∃w a',I'=.T #[.S w,.I a']/\Hi H c 0 λg=>Hl H c 6 λe d b=>Hu H c 7 λa=>Hi H c 8 λT=>Hu H c 9 λt=>(Cl 35 #[] H λJ' f=>Vp J' λD=>Cc f c 9 (.U t)/\Cc f c 8 (.I T)/\Cc f c 7 (.U a)/\Cc f c 6 (.L e d b)/\Cc f c 0 (.I g)/\(Cl 38 #[.pointer D,.I g] f λV' p=>Vp V' λc'=>Cc p c 9 (.U t)/\Cc p c 8 (.I T)/\Cc p c 7 (.U a)/\Cc p c 6 (.L e d b)/\aW Tryz.prog (convert 9 26 (.S w)) p λa5 q=>Vl a5 λl' i' f'=>Cc q c 9 (.U t)/\Cc q c 8 (.I T)/\Cc q c 7 (.U a)/\Cc q c 6 (.L e d b)/\Cl 36 #[.pointer c',.L l' i' f'] q λa6 r=>Vp a6 λo'=>Cc r c 9 (.U t)/\Cc r c 8 (.I T)/\Cc r c 7 (.U a)/\Cc r c 6 (.L e d b)/\Cl 36 #[.pointer o',.L e d b] r λa7 v=>Vp a7 λr'=>Cc v c 9 (.U t)/\Cc v c 8 (.I T)/\Cc v c 7 (.U a)/\Cl 37 #[.pointer r',.U a] v λa8 z=>Vp a8 λu'=>Cc z c 9 (.U t)/\Cc z c 8 (.I T)/\Cl 38 #[.pointer u',.I T] z λa9 C=>Vp a9 λx'=>Cc C c 9 (.U t)/\Cl 37 #[.pointer x',.U t] C λb0 X=>Vp b0 λA'=>Cl 39 #[.pointer A'] X λb1 P=> ∃L I E,b1=.L L I E/\R (.L L I E) P)/\(aW Tryz.prog (convert 9 26 (.S w)) f λK' i=>Vl K' λm' j' g'=>Cc i c 9 (.U t)/\Cc i c 8 (.I T)/\Cc i c 7 (.U a)/\Cc i c 6 (.L e d b)/\Cc i c 0 (.I g)/\Cl 38 #[.pointer D,.I g] i λL' l=>Vp L' λd'=>Cc l c 9 (.U t)/\Cc l c 8 (.I T)/\Cc l c 7 (.U a)/\Cc l c 6 (.L e d b)/\Cl 36 #[.pointer d',.L m' j' g'] l λM' m=>Vp M' λp'=>Cc m c 9 (.U t)/\Cc m c 8 (.I T)/\Cc m c 7 (.U a)/\Cc m c 6 (.L e d b)/\Cl 36 #[.pointer p',.L e d b] m λO' s=>Vp O' λs'=>Cc s c 9 (.U t)/\Cc s c 8 (.I T)/\Cc s c 7 (.U a)/\Cl 37 #[.pointer s',.U a] s λP' x=>Vp P' λv'=>Cc x c 9 (.U t)/\Cc x c 8 (.I T)/\Cl 38 #[.pointer v',.I T] x λQ' A=>Vp Q' λy'=>Cc A c 9 (.U t)/\Cl 37 #[.pointer y',.U t] A λR' Q=>Vp R' λB'=>Cl 39 #[.pointer B'] Q λS' S=> ∃M J F,S'=.L M J F/\R (.L M J F) S)/\True)/\(aW Tryz.prog (convert 9 26 (.S w)) H λT' j=>Vl T' λn' k' h'=>Cc j c 9 (.U t)/\Cc j c 8 (.I T)/\Cc j c 7 (.U a)/\Cc j c 6 (.L e d b)/\Cc j c 0 (.I g)/\Cl 35 #[] j λU' k=>Vp U' λb'=>Cc k c 9 (.U t)/\Cc k c 8 (.I T)/\Cc k c 7 (.U a)/\Cc k c 6 (.L e d b)/\Cc k c 0 (.I g)/\Cl 38 #[.pointer b',.I g] k λX' n=>Vp X' λe'=>Cc n c 9 (.U t)/\Cc n c 8 (.I T)/\Cc n c 7 (.U a)/\Cc n c 6 (.L e d b)/\Cl 36 #[.pointer e',.L n' k' h'] n λZ' o=>Vp Z' λq'=>Cc o c 9 (.U t)/\Cc o c 8 (.I T)/\Cc o c 7 (.U a)/\Cc o c 6 (.L e d b)/\Cl 36 #[.pointer q',.L e d b] o λa0 u=>Vp a0 λt'=>Cc u c 9 (.U t)/\Cc u c 8 (.I T)/\Cc u c 7 (.U a)/\Cl 37 #[.pointer t',.U a] u λa1 y=>Vp a1 λw'=>Cc y c 9 (.U t)/\Cc y c 8 (.I T)/\Cl 38 #[.pointer w',.I T] y λa2 B=>Vp a2 λz'=>Cc B c 9 (.U t)/\Cl 37 #[.pointer z',.U t] B λa3 U=>Vp a3 λC'=>Cl 39 #[.pointer C'] U λa4 V=> ∃O K G,a4=.L O K G/\R (.L O K G) V)/\True):Cl 65 #[.P c 0] h R:=aP (lq (lq (sq (.lK (.op 1 (.op 2 (.op 3 (.op 4 (.op 6 (.op 9 (.op 10 (.op 11 (.op 12 (.op 14 (.op 15 (.op 16 (.op 17 (.op 19 (.op 20 (.op 21 (.op 22 (.op 24 (.op 25 (.op 26 (.op 27 (.alts (.fork 0 (.alts (.fork 5 (.op 7 (.op 8 (.op 13 (.op 18 (.op 23 (.op 28 (.op 29 (.op 30 .done)))))))) (.fork 7 (.op 5 (.op 8 (.op 13 (.op 18 (.op 23 (.op 28 (.op 29 (.op 30 .done)))))))) .gM))) (.fork 7 (.op 0 (.op 5 (.op 8 (.op 13 (.op 18 (.op 23 (.op 28 (.op 29 (.op 30 .done))))))))) .gM))))))))))))))))))))))))) lf))) Tryz.func65 Z
theorem wD.walk{t:Nat}(J:Cl 63 #[.P t 0] h λe' H=> ∃C,e'=.B C/\if(!C)then R (.Z) H else Hi H t 1 λx=>Hi H t 2 λn=>Hi H t 3 λk=>Hi H t 4 λg=> ∃T,Cc H t 0 (.map T)/\Cl 35 #[] H λf' e=>Vp f' λt9=>Cc e t 0 (.map T)/\Cc e t 4 (.I g)/\Cc e t 3 (.I k)/\Cc e t 2 (.I n)/\Cc e t 1 (.I x)/\Cl 38 #[.pointer t9,.I x] e λh' f=>Vp h' λK=>Cc f t 0 (.map T)/\Cc f t 4 (.I g)/\Cc f t 3 (.I k)/\Cc f t 2 (.I n)/\Cl 38 #[.pointer K,.I n] f λi' i=>Vp i' λL=>Cc i t 0 (.map T)/\Cc i t 4 (.I g)/\Cc i t 3 (.I k)/\Cl 38 #[.pointer L,.I k] i λj' l=>Vp j' λP=>Cc l t 0 (.map T)/\Cc l t 4 (.I g)/\Cl 38 #[.pointer P,.I g] l λk' m=>Vp k' λQ=>Cc m t 0 (.map T)/\∃y:Int,QA Tryz.prog #[115] 3 (.map T) m (.I y)/\Cl 38 #[.pointer Q,.I y] m λl' u=>Vp l' λS=>Cc u t 0 (.map T)/\Cl 39 #[.pointer S] u λm' v=>Vl m' λX V U=>Cc v t 0 (.map T)/\bh v (.C #[.L X V U] 26) λb w=>Cc w t 0 (.map T)/\Cl 64 #[.P t 0] w λn' E=>Vl n' λZ z _=> ∃(I:ck->Nat->Nat->Int->aj->Prop)(M:ck->Nat->Nat->Int->aj->Nat),I (Sa b 0) 1 1 0 E/\∀(j:ck)(O o:Nat)(d:Int)(c:aj),I j O o d c->if(decide (d<(z:Int)))then Bd d z/\aM Z λa=>kR c (a.add (toNat d*1)) λa'=> ∃A,Cc c t 0 (.map A)/\∃B,iJ Tryz.prog 115 (.map A) (.I a') false c (.pointer B)/\Cl 65 #[.pointer B] c λo' F=>Vl o' λd' c' b'=>bh F (.C #[.L d' c' b'] 26) λD G=>aW Tryz.prog (Builtin.append_ #[53,53] 53 #[.L j O o,.L (Sa D 0) 1 1]) G λg' s=> ∃r q p,g'=.L r q p/\(I r q p (wrap .i64 (d+1)) s/\M r q p (wrap .i64 (d+1)) s<M j O o d c)else R (.L j O o) c):Cl 33 #[.P t 0] h R:=aP (lq (sq (lq (cq ll lf)) (sq (.lK (.op 1 (.op 2 (.op 3 (.op 4 (.op 6 (.op 7 (.op 8 (.op 9 (.op 11 (.op 12 (.op 13 (.op 14 (.op 16 (.op 17 (.op 18 (.op 19 (.op 21 (.op 22 (.op 23 (.op 24 (.op 0 (.op 5 (.op 10 (.op 15 (.op 20 (.op 25 (.op 26 (.op 27 (.op 28 (.op 29 .done))))))))))))))))))))))))))))))) (sq (lq (bq (.loop [(3,.one (.slice)),(41,.one (.int .i64))] (lq (sq (cq lf lf) (sq (bq ll) lf)))))) ll)))) Tryz.func33 J

end
section
open Go.fV Go.kA
namespace gm
open jA cf iE
variable {h H:aj} {R:fD} {t:Nat} {X:Ft} {s:CF} {m A i:Nat} {x:List CV} {f a:Nat→Prop} {j:Nat→Option Nat} {p:ck} {n c:Nat}
variable {z:CV} {g:aj} {b:Nat}
def recC(z:Cp):cM:=ct z.num++dW (gU z.e)++dW z.d++ct z.fa++ct (gC z.ses)++ct z.dl
structure NB (z:Cp):Prop where
 r:dc z.e=true
 v:0<=z.e.gy
 d:z.d.length<=600
 n:z.num<=1000000
 t:z.fa<=1099511627776
 s0:0<=z.ses
 s1:z.ses<=1099511627776
 l:z.dl<=1099511627776
theorem oI(t:cM):(dW t).length<=t.length+10:=by
 have:=(bU t.length).2;unfold dW;rw[au];omega
theorem PM{z:Cp}(k:NB z):(recC z).length<=1000:=by
 have L:=pJ k.r k.v;have o:=oI (gU z.e);have q:=oI z.d;have r:=k.d;have e:=(bU z.num).2;have E:=(bU z.fa).2;have d:=(bU (gC z.ses)).2;have l:=(bU z.dl).2;unfold recC;simp only[au];omega
theorem JI{d:CV}{K:Bool->Int->Int->ByteArray->ByteArray->Prop}(e:d.at g b)(k:K d.e.km d.e.node d.e.gy d.e.host d.e.jN):az.LD g (AA b 1) K:=
 ⟨_,ak e,_,ak e,_,ak e,_,ak e,_,ak e,k⟩
theorem BR{d:aj}{n':Nat}{S:Nat->Prop}{q:ck}{dq:Nat}(k:NB z.abs)(o:z.at d b)(a':Row d z.v.p (bc z.v.b))(G:Fr No d g)(W:Wr g n' S (ct z.num))(T: ∀y,S y->d.size<=y)(s':Row g q (bc (gU z.e)))(hq: ∀y,aN q y->¬S y)(hk: ∀P Q H,fz H P (recC z.abs).length Q 1 (bc (recC z.abs))->Fr No d H->(∀y,aN P y->d.size<=y)->R (.slice P (recC z.abs).length Q) H):
  aY g (AA b 9)=some (.U (z.dl:Int))/\aY g (AA b 8)=some (.I z.ses)/\aY g (AA b 7)=some (.U (z.fa:Int))/\aY g (AA b 6)=some (.L z.v.p z.v.b.length z.v.c)/\
  Cl 36 #[.P n' 0,.slice q (str (gU z.e)).size dq] g λu' r=>
  ∃(f':ck),u'=.pointer f'/\
  aY r (AA b 9)=some (.U (z.dl:Int))/\
  aY r (AA b 8)=some (.I z.ses)/\
  aY r (AA b 7)=some (.U (z.fa:Int))/\
  aY r (AA b 6)=some (.L z.v.p z.v.b.length z.v.c)/\
  Cl 36 #[.pointer f',.L z.v.p z.v.b.length z.v.c] r λv' u=>
  ∃(g':ck),v'=.pointer g'/\
  aY u (AA b 9)=some (.U (z.dl:Int))/\
  aY u (AA b 8)=some (.I z.ses)/\
  aY u (AA b 7)=some (.U (z.fa:Int))/\
  Cl 37 #[.pointer g',.U (z.fa:Int)] u λw' J=>
  ∃(h':ck),w'=.pointer h'/\
  aY J (AA b 9)=some (.U (z.dl:Int))/\
  aY J (AA b 8)=some (.I z.ses)/\
  Cl 38 #[.pointer h',.I z.ses] J λx' Z=>
  ∃(i':ck),x'=.pointer i'/\
  aY Z (AA b 9)=some (.U (z.dl:Int))/\
  Cl 37 #[.pointer i',.U (z.dl:Int)] Z λy' q'=>
  ∃(j':ck),y'=.pointer j'/\
  Cl 39 #[.pointer j'] q' λz' p'=>
  ∃(m':ck)(l' k':Nat),z'=.L m' l' k'/\
  R (.L m' l' k') p':=by
 have kr:dc z.e=true:=k.r;have kv:0<=z.e.gy:=k.v;have kd:z.v.b.length<=600:=k.d;have kt:z.fa<=1099511627776:=k.t;have k0:0<=z.ses:=k.s0;have k1:z.ses<=1099511627776:=k.s1;have kl:z.dl<=1099511627776:=k.l;have lb:=aC o;have bS: ∀{L:Nat->Prop},(∀y,L y->d.size<=y)->¬L b:=λhh hn=>by have:=hh b hn;omega
 have l0:=pJ kr kv;have A':=oI (gU z.e);have B':=oI z.v.b;have e1:=(bU z.num).2;have e2:=(bU z.fa).2;have e3:=(bU (gC z.ses)).2;have v:z.at g b:=G.get o id;have zg:=G.1;refine⟨ak v,ak v,ak v,ak v,iE.oC W ae s' (iN _) ae hq λg1 f W1 b'=> ?_⟩;have I: ∀y,f y->d.size<=y:=λy l=>(b'.new y l).elim (T y) (λd=>ae)
 have F:=G.fresh b'.fr T;have B:z.at g1 b:=F.get o id;have z1:=F.1;refine⟨_,rfl,ak B,ak B,ak B,ak B,iE.nL W1 (by simp only[au];omega) (a'.frame F bX) rfl ae (λy l r' hs=>gG (iZ a' (by intro e;apply r';have:=bQ List.length e;rw[jP]at this;exact gW.1 this) l) (I y hs)) λg2 a W2 c'=> ?_⟩;have U: ∀y,a y->d.size<=y:=λy l=>(c'.new y l).elim (I y) (λd=>ae)
 have w:=F.fresh c'.fr I;have E:z.at g2 b:=w.get o id;have z2:=w.1;refine⟨_,rfl,ak E,ak E,ak E,iE.fM z.fa W2 (by simp only[au];omega) rfl ae λg3 S3 W3 d'=> ?_⟩;have V: ∀y,S3 y->d.size<=y:=λy l=>(d'.new y l).elim (U y) (λd=>ae)
 have C:=w.fresh d'.fr U;have O:z.at g3 b:=C.get o id;have z3:=C.1;refine⟨_,rfl,ak O,ak O,iE.im W3 (by simp only[au];omega) ae λg4 S4 W4 e'=> ?_⟩;have o': ∀y,S4 y->d.size<=y:=λy l=>(e'.new y l).elim (V y) (λd=>ae)
 have D:=C.fresh e'.fr V;have b4:z.at g4 b:=D.get o id;have z4:=D.1;refine⟨_,rfl,ak b4,iE.fM z.dl W4 (by simp only[au];omega) rfl ae λg5 S5 M t'=> ?_⟩;have K:=D.fresh t'.fr o';have er:ct z.num++dW (gU z.e)++dW z.v.b++ct z.fa++ct (gC z.ses)++ct z.dl=recC z.abs:=rfl;rw[er]at M;have lr:=PM k;refine⟨_,rfl,iE.iM M ae λp6 c6 g6 o6 f6 n6=>⟨_,_,_,rfl,?_⟩⟩;have z5:=K.1;exact hk p6 c6 g6 o6 (K.tt f6) (λy l=>bR (n6 y l))
theorem xR(hb:z.at h b)(g':Row h z.v.p (bc z.v.b))(k:NB z.abs)(tb:lM.oD h)(hk: ∀P D H,fz H P (recC z.abs).length D 1 (bc (recC z.abs))->Fr No h H->(∀y,aN P y->h.size<=y)->R (.slice P (recC z.abs).length D) H):Cl 65 #[.P b 0] h R:=by
 have kr:dc z.e=true:=k.r;have kn:z.num<=1000000:=k.n;refine CQ.walk (JI hb (jA.oC z.e tb k.v λo M=> ?_));simp only[kr,ba];have l:z.at o b:=M.get hb id;have z0:=M.1;have U:=g'.frame M bX;have T: ∀P D H,fz H P (recC z.abs).length D 1 (bc (recC z.abs))->Fr No o H->(∀y,aN P y->o.size<=y)->R (.slice P (recC z.abs).length D) H:=λP D H h' f' g=>hk P D H h' (M.tt f') (λy d=>bR (g y d))
 clear hk;have O:(str (gU z.e)).data.toList=gU z.e:=by unfold str;simp
 have e':bc (gU z.e)≠ []:=by
  intro e;have:=bQ List.length e;rw[jP]at this;revert this;unfold gU;split<;>(try split)<;>simp
 have Z:ct (gC (z.num:Int))=ct z.num:=by unfold gC;rw[aF]
 refine⟨_,_,rfl,_,ak l,_,_,_,ak l,_,ak l,_,ak l,_,ak l,?_,?_,trivial⟩
 .refine iE.gL λK i' S E F L=> ?_
  have q:z.at K b:=F.get l id;refine⟨_,rfl,ak q,ak q,ak q,ak q,ak q,?_,?_,trivial⟩
  .refine iE.im E bV ae λh3 S3 G d'=> ?_
   rw[Z,cH]at G;have z2:=F.1;have F3:=F.fresh d'.fr L;have B:z.at h3 b:=F3.get l id;have w: ∀y,S3 y->o.size<=y:=λy d=>(d'.new y d).elim (L y) (λo=>ae)
   refine⟨_,rfl,ak B,ak B,ak B,ak B,R6 λa' b' h4 r cq f4 V=>⟨_,_,_,rfl,?_⟩⟩;rw[O]at r;exact BR k l U (F3.tt f4) (G.frame f4 bX) w r (λy d v=>gG (V y d) (G.lt y v)) T
  .refine R6 λa' b' h3 r cq u w=>⟨_,_,_,rfl,?_⟩
   have B:z.at h3 b:=(F.tt u).get l id;have G:=E.frame u bX;refine⟨ak B,ak B,ak B,ak B,ak B,iE.im G bV ae λh4 S4 I C=>⟨_,rfl,?_⟩⟩;rw[Z,cH]at I;have z2:=(F.tt u).1;have V: ∀y,S4 y->o.size<=y:=λy d=>(C.new y d).elim (L y) (λo=>ae)
   rw[O]at r;refine BR k l U ((F.tt u).fresh C.fr L) I V (r.frame C.fr (λJ Q v=>gG (w J.block ⟨J,Q,rfl⟩) (E.lt _ v))) (λy d v=> ?_) T;have o:=iZ r e' d;have K:=w y d;rcases C.new y v with h3|h3
   .have:=E.lt y h3;omega
   .omega
 .refine R6 λa' b' K r cq F L=>⟨_,_,_,rfl,?_⟩
  have q:z.at K b:=F.get l id;refine⟨ak q,ak q,ak q,ak q,ak q,iE.gL λh3 i' S E u w=> ?_⟩;have B:z.at h3 b:=(F.tt u).get l id;have z2:=F.1;have z3:=u.1;refine⟨_,rfl,ak B,ak B,ak B,ak B,ak B,iE.im E bV ae λh4 S4 I C=>⟨_,rfl,?_⟩⟩;rw[Z,cH]at I;rw[O]at r;have c': ∀y,aN a' y->y<K.size:=λy d=>iZ r e' d
  refine BR k l U ((F.tt u).fresh C.fr (λy d=>bR (w y d))) I (λy d=>(C.new y d).elim (λo=>bR (w y o)) (λo=>ae)) ((r.frame u bX).frame C.fr (λJ Q v=>gG (c' J.block ⟨J,Q,rfl⟩) (w _ v))) (λy d v=> ?_) T;have o:=c' y d;rcases C.new y v with h3|h3
  .have:=w y h3;omega
  .omega
def qH(s:CF):cM:=ct s.next++ct s.gE++ct s.over++ct s.gone++ct s.L.length
def wE(s:CF):List (cM):=qH s::s.L.map recC
theorem mf(l:Ct h t X s)(sm:Small s)(hc:s.gE<=50000/\s.over<=50000/\s.gone<=50000)(ok: ∀z∈s.L,NB z)(tb:lM.oD h)(hk: ∀H p' l' c',BL h H p' l' c' (wE s)->Fr No h H->R (.L p' l' c') H):Cl 33 #[.P t 0] h R:=by
 obtain⟨m,x,A,f,i,a,j,l⟩:=l;have sn:=sm.n;have sl:=sm.l;have xl:=l.len;refine wD.walk (fT l ⟨_,rfl,?_⟩);rw[dB];refine⟨_,ak l.cW,_,ak l.cW,_,ak l.cW,_,ak l.cW,_,ak l.cW,iE.gL λq E' S W f1 n1=> ?_⟩;have w: ∀k:Nat,gC (k:Int)=k:=λk=>by unfold gC;rw[aF]
 have l1:=(bU s.next).2;have l2:=(bU s.gE).2;have l3:=(bU s.over).2;have l4:=(bU s.gone).2;have l5:=(bU s.L.length).2;have G:=l.on f1;refine⟨_,rfl,ak G.cW,ak G.cW,ak G.cW,ak G.cW,ak G.cW,iE.im W bV ae λh2 a W2 h'=> ?_⟩;rw[w,cH]at W2;have z1:=f1.1;have Q:=f1.fresh h'.fr n1;have n2: ∀y,a y->h.size<=y:=λy d=>(h'.new y d).elim (n1 y) (λq=>ae)
 have E:=l.on Q;have z2:=Q.1;refine⟨_,rfl,ak E.cW,ak E.cW,ak E.cW,ak E.cW,iE.im W2 ae ae λh3 S3 W3 i'=> ?_⟩;rw[w]at W3;have T:=Q.fresh i'.fr n2;have n3: ∀y,S3 y->h.size<=y:=λy d=>(i'.new y d).elim (n2 y) (λq=>ae)
 have G3:=l.on T;have z3:=T.1;refine⟨_,rfl,ak G3.cW,ak G3.cW,ak G3.cW,iE.im W3 (by simp only[au];omega) ae λh4 S4 W4 j'=> ?_⟩;rw[w]at W4;have U:=T.fresh j'.fr n3;have n4: ∀y,S4 y->h.size<=y:=λy d=>(j'.new y d).elim (n3 y) (λq=>ae)
 have G4:=l.on U;have z4:=U.1;refine⟨_,rfl,ak G4.cW,ak G4.cW,iE.im W4 (by simp only[au];omega) ae λh5 S5 W5 k'=> ?_⟩;rw[w]at W5;have V:=U.fresh k'.fr n4;have n5: ∀y,S5 y->h.size<=y:=λy d=>(k'.new y d).elim (n4 y) (λq=>ae)
 have G5:=l.on V;have z5:=V.1;refine⟨_,rfl,ak G5.cW,_,IP oF G5.map,?_⟩;rw[ay,xl];refine iE.im W5 (by simp only[au];omega) ae λh6 S6 W6 v'=> ?_
 rw[w]at W6;have Z:=V.fresh v'.fr n5;have G6:=l.on Z;have z6:=Z.1;have er:ct s.next++ct s.gE++ct s.over++ct s.gone++ct s.L.length=qH s:=rfl;rw[er]at W6;have lh:(qH s).length<=50:=by unfold qH;simp only[au];omega
 refine⟨_,rfl,ak G6.cW,iE.iM W6 ae λP C o o7 f7 n7=>⟨_,_,_,rfl,?_⟩⟩;have F7:=Z.tt f7;have z7:=F7.1;have B7:BL h o none 0 0 []:=BL.nil;refine⟨cB (l.on F7).cW rfl,cK ?_⟩;have f8:Fr No o (o.push (.C #[.slice P (qH s).length C] 26)):=Fr.push _ _;have o8:fz (o.push (.C #[.slice P (qH s).length C] 26)) (Sa o.size 0) 1 1 1 (jn ⟨P,C,qH s⟩):=.row o.size 0 _ _ rfl bZ (bm _) bV rfl (λB' v hj=>by rw[bM];simpa using hj);have D:BL h (o.push (.C #[.slice P (qH s).length C] 26)) (Sa o.size 0) 1 1 [qH s]:=by
  refine⟨[⟨P,C,qH s⟩],aN P,rfl,cI o8,rfl,?_,?_,λy ⟨m',e,J⟩=>by cases e;rw[<-J];exact z7⟩
  .intro v u;obtain rfl:=bP.1 u;exact BV.jy (o7.frame f8 bX) (λ_=>id)
  .intro y d;have q:=n7 y d;have h2:=o7.dC d;exact⟨ae,by rw[dk];omega,λ⟨m',e,J⟩=>by cases e;have J:o.size=y:=J;omega⟩
 generalize o.push (.C #[.slice P (qH s).length C] 26)=h8 at f8 D⊢;generalize (some (AA o.size 0):ck)=p8 at D⊢;clear o8;have F8:=F7.tt f8;have G8:=l.on F8;refine⟨ak G8.cW,uR G8 ae λh9 p9 c9 o9 n9 f9=>⟨_,_,_,rfl,?_⟩⟩;have F9:=F8.tt f9;have z8:=F8.1;refine⟨λO ol oc a' g=> ∃k:Nat,a'=(k:Int)/\k<=x.length/\BL h g O ol oc (qH s::(s.L.take k).map recC)/\Fr No h g/\fz g p9 x.length c9 1 ((kU x).map gO)/\(∀y,aN O y->¬aN p9 y),λ_ _ _ a' _=>x.length - a'.toNat,⟨0,rfl,ae,cI (D.on f9),F9,o9,λy d r=>gG (D.lt d) (n9 y r)⟩,?_⟩;rintro O ol oc _ g ⟨k,rfl,A',B,F,M,f'⟩;by_cases s':k<x.length
 .have q1:(k:Int)<(x.length:Int):=ae
  simp only[q1,bu,ba,aF];have L:x[k]? =some x[k]:=ai s';generalize x[k]=v at L;have e':s.L[k]? =some v.abs:=by rw[<-l.abs,aD,L];rfl
  have u:=aK L;have I:=l.on F;obtain⟨ab,n',rfl⟩:=M.addr ae;have cn:=M.cell (j:=k) (v:=gO (v.num:Int)) (by unfold kU;rw[dJ,aD,L];rfl);refine⟨⟨by first|trivial|omega,by first|trivial|omega⟩,ax.2 ⟨_,by rw[cp];exact cn,_,ak I.cW,_,look I u,xR (I.FQ v u) (I.Cj v u).row (ok v.abs (aK e')) (tb.on F) λC' w' y' t' K g'=>⟨_,_,_,rfl,?_⟩⟩⟩;have zg:=F.1;have bl:=B.len;rw[bf,ay,bw]at bl;have u': ∀y,aN (some ((AA ab n'):Addr)) y->y<g.size:=λy d=>M.dC d
  have o': ∀y,aN O y->y<g.size:=λy d=>B.lt d
  have F':=K.1;refine(B.on K).push ae t' (λy d=>⟨bR (g' y d),λho=>gG (o' y ho) (g' y d)⟩) ae λD' x' z' b' d' q'=>⟨_,_,_,rfl,?_⟩
  rw[bC ae ae];refine⟨⟨k+1,ae,ae,?_,?_,(M.frame K bX).frame d' (λy d r=>f' y r d),λy d r=>(q' y d).elim (λq=>f' y q r) (λq=>bR (u' y r))⟩,by show x.length - Int.toNat ((k:Int)+1)<x.length - k;omega⟩
  .rw[bt,e',aV];rw[eJ]at b';exact b'
  .obtain⟨_,_,_,_,_,_,_,r'⟩:=B;exact(F.tt K).fresh d' r'
 .have q1: ¬(k:Int)<(x.length:Int):=ae
  simp only[q1,bg,aq,aL];rw[bn ae]at B;exact hk g O ol oc B F
abbrev Fx(y:CV):List Value:= [.int .i64 (y.num:Int),.bool y.e.km,.int .u64 y.e.node,.int .u64 y.e.gy,.string y.e.host,.string y.e.jN,y.v.val,.int .u64 (y.fa:Int),.int .i64 y.ses,.int .u64 (y.dl:Int)]
theorem gQ(y:CV):(Fx y).length=10:=rfl
theorem Ti(y:CV): ∀v∈Fx y,gw v=true:=by
 intro v d;simp only[Fx,bK,gH,or_false]at d;rcases d with rfl|rfl|rfl|rfl|rfl|rfl|rfl|rfl|rfl|rfl<;>rfl
theorem tA:oN Tryz.prog 296 194 10 112 (.agg #[.I 0,.B false,.U 0,.U 0,.string ⟨#[]⟩,.string ⟨#[]⟩,.Z,.U 0,.I 0,.U 0]):=⟨dz,dz,rfl⟩
theorem uA:Tryz.prog.underlying 296=some (.slice 194):=dz
theorem K0(q:Ct h t X s)(sm:Small s)(hd: ∀z∈s.L,z.d.length<=600)(hk: ∀H p' c' (d:List CV),fz H p' d.length c' 10 (d.flatMap Fx)->d.map CV.abs=s.L->(∀y∈d,BV.ok H (λz=>h.size<=z) y.v)->(∀y,aN p' y->h.size<=y)->Fr No h H->R (.L p' d.length c') H):Cl 199 #[.P t 0] h R:=by
 obtain⟨m,x,A,f,i,a,j,q⟩:=q;have sl:=sm.l;have xl:=q.len;refine xL.walk (uR q ae λh1 p1 c1 o1 n1 L=>⟨_,_,_,rfl,?_⟩);refine⟨λO ol oc a' g=> ∃(k:Nat)(d:List CV),a'=(k:Int)/\k<=x.length/\ol=d.length/\d.length=k/\fz g O ol oc 10 (d.flatMap Fx)/\(∀y,aN O y->h1.size<=y)/\d.map CV.abs=s.L.take k/\(∀y∈d,BV.ok g (λz=>h1.size<=z) y.v)/\(∀y∈d,∀z,aN y.v.p z->y.v.b≠ []->¬aN O z)/\Fr No h1 g,λ_ _ _ a' _=>x.length - a'.toNat,
  ⟨0, [],rfl,ae,rfl,rfl,.nil rfl rfl rfl rfl,(λy ⟨K,e,_⟩=>by cases e),bV,(λy hy=>by cases hy),(λy hy=>by cases hy),Fr.refl _ _⟩,?_⟩
 rintro O ol oc _ g ⟨k,d,rfl,m',rfl,o',o,V,T,l,d',F⟩;have G:=q.on (L.tt F);by_cases i':k<x.length
 .have q1:(k:Int)<(x.length:Int):=ae
  simp only[q1,bu,ba,aF];have I:x[k]? =some x[k]:=ai i';generalize x[k]=v at I;have b':s.L[k]? =some v.abs:=by rw[<-q.abs,aD,I];rfl
  have Z:=aK I;have n':v.v.b.length<=600:=hd v.abs (aK b');have og:=o1.frame F bX;obtain⟨ab,l',rfl⟩:=og.addr ae;have cn:=og.cell (j:=k) (v:=gO (v.num:Int)) (by unfold kU;rw[dJ,aD,I];rfl);have j':=G.FQ v Z;refine⟨⟨by first|trivial|omega,by first|trivial|omega⟩,ax.2 ⟨_,by rw[cp];exact cn,_,ak G.cW,_,look G Z,ax.2 (aQ.ld j' (aQ.new λb2 h2 e2 U M=>⟨_,_,_,ak U,gP ((G.Cj v Z).row.frame M bX) rfl ae λP D h3 o3 Q n3=>⟨_,_,_,rfl,?_⟩⟩))⟩⟩;have h':=Q.get U id;refine bD h' bV λw a4 s4 o4=> ?_
  have f4:Fr (λy=>y=b2) h3 w:=⟨ae,λy _ hn=>o4 y hn⟩;have q':=aC U;have g':aQ.at w b2 (v.num:Int) v.e.km v.e.node v.e.gy v.e.host v.e.jN P v.v.b.length D (v.fa:Int) v.ses (v.dl:Int):=a4;refine aQ.ld g' ?_;have zg:=F.1;have z2:=M.1;have z3:=Q.1;have C:Fr No g w:=(M.tt Q).fresh f4 (λy e=>ae);have oo:=o.frame C bX;refine iS tA uA oo rfl (λk' hw=>Ti ({ v with v:=⟨P,D,v.v.b⟩ } :CV) k' (cI hw)) ae ae λp5 c5 h5 o5 E S=>⟨_,_,_,rfl,?_⟩
  have z4:=C.1;have z5:=E.1;rw[bC ae ae];have e':fz w P v.v.b.length D 1 (bc v.v.b):=o3.frame f4 (λy hy e=>bR (n3 y hy));have J: ∀y,aN P y->g.size<=y/\y<w.size:=λy hy=>⟨bR (n3 y hy),e'.dC hy⟩
  have f': ∀y,aN O y->y<g.size:=λy hy=>o.dC hy
  refine⟨⟨k+1,d++ [{ v with v:=⟨P,D,v.v.b⟩ }],ae,ae,by rw[au];rfl,by rw[au];show d.length+1=_;omega,?_,λy hy=>(S y hy).elim (V y) (λh1=>ae),?_,?_,?_,(F.tt C).fresh E V⟩,by show x.length - Int.toNat ((k:Int)+1)<x.length - k;omega⟩
  .rw[cg];simpa using o5
  .rw[aV,T,bt,b'];rfl
  .intro y hy;rcases bE.1 hy with hy|hy
   .have r1:=(l y hy).row.frame C bX;refine⟨?_,(l y hy).own,(l y hy).cap⟩;by_cases B:y.v.b= []
    .rw[B];exact Row.nil
    .exact r1.frame E (λK ea r=>d' y hy K.block ⟨K,ea,rfl⟩ B r)
   .obtain rfl:=bP.1 hy;exact BV.jy (e'.frame E (λy hy r=>gG (J y hy) (f' y r))) (λy hy=>bR (J y hy))
  .intro y hy z u B r;rcases bE.1 hy with hy|hy
   .rcases S z r with h1|h1
    .exact d' y hy z u B h1
    .have:=iZ (l y hy).row (by intro e;apply B;have:=bQ List.length e;rw[jP]at this;exact gW.1 this) u;omega
   .obtain rfl:=bP.1 hy;rcases S z r with h1|h1
    .have:=(J z u).1;have:=f' z h1;omega
    .have:=(J z u).2;omega
 .have q1: ¬(k:Int)<(x.length:Int):=ae
  simp only[q1,bg,aq,aL];rw[bn ae]at T;have z1:=L.1;exact hk g O oc d o T (λy hy=>⟨(l y hy).row,λe z u=>bR ((l y hy).own e z u),(l y hy).cap⟩) (λy hy=>bR (V y hy)) (L.tt F)
theorem sy(k:Ct h t X s)(S:Small s)(hd: ∀z∈s.L,z.d.length<=600)(l: ∀H P C (d:List CV),fz H P d.length C 10 (d.flatMap Fx)->d.map CV.abs=s.L->(∀y∈d,Row H y.v.p (bc y.v.b))->Fr No h H->R (.L P d.length C) H):Cl 199 #[.P t 0] h R:=
 K0 k S hd λH P C d o e r _ F=>l H P C d o e (λy q=>(r y q).row) F
def JX(L:List Cp)(d:Ev):Nat:=((mA L d).filter (λz=>decide (z.ses=0))).length
theorem PN(l:Ct h t X s)(Z:Small s)(o:Ev)(T: iq h R (.I (JX s.L o:Int))):Cl 135 #[.P t 0,lL o] h R:=by
 obtain⟨m,x,A,f,i,a,j,l⟩:=l;have sl:=Z.l;have xl:=l.len;refine uO.walk (az.box λb h1 eb S w=>az.ld S (wi (l.on w) o ae λK p2 c2 O n2 I=>⟨_,_,_,rfl,?_⟩));have F:=w.tt I;generalize u:x.filter (λy=>decide (y.e=o))=d at O⊢;have V: ∀y∈d,y∈x:=λy C=>by rw[<-u]at C;exact(bj.1 C).1
 have P:d.map CV.abs=mA s.L o:=by unfold mA;rw[<-l.abs,dQ,<-u];rfl
 have yl:d.length<=50000:=by rw[<-u];exact cE (cP _ _) ae
 refine⟨λn q g=> ∃k:Nat,q=(k:Int)/\k<=d.length/\n=((((d.take k).map CV.abs).filter (λz=>decide (z.ses=0))).length:Int)/\g=K,λ_ q _=>d.length - q.toNat,⟨0,rfl,ae,bV,rfl⟩,?_⟩;rintro _ _ _ ⟨k,rfl,b',rfl,rfl⟩;have c':(((d.take k).map CV.abs).filter (λz=>decide (z.ses=0))).length<=k:=cE (cP _ _) (by rw[ay,bw];omega);have G:=l.on F;by_cases U:k<d.length
 .have Q:(k:Int)<((d.length:Nat):Int):=ae
  simp only[Q,bu,ba,aF];have r:d[k]? =some d[k]:=ai U;generalize d[k]=v at r;have B:=V v (aK r);obtain⟨ab,a',rfl⟩:=O.addr ae;have D:=O.cell (j:=k) (v:=gO (v.num:Int)) (by unfold kU;rw[dJ,aD,r];rfl);have E:(((d.take (k+1)).map CV.abs).filter (λz=>decide (z.ses=0))).length=(((d.take k).map CV.abs).filter (λz=>decide (z.ses=0))).length+if v.ses=0 then 1 else 0:=by
   rw[bt,r,aV,gi,au];congr 1
   by_cases e:v.ses=0
   .have:v.abs.ses=0:=e;simp[e,this]
   .have: ¬v.abs.ses=0:=e;simp[e,this]
  refine aH.of λJ L=>⟨⟨by first|trivial|omega,by first|trivial|omega⟩,ax.2 ⟨_,by rw[cp];exact D,_,ak G.cW,_,look G B,ax.2 ⟨_,ak (G.FQ v B),aH.of λJ1 M=> ?_⟩⟩⟩
  subst M;subst L;dsimp only;rw[bC (n:=(k:Int)+1) ae ae];by_cases e:v.ses=0
  .rw[ag (cI e),bC ae ae];rw[ag e]at E;exact⟨⟨k+1,ae,ae,ae,rfl⟩,by show d.length - Int.toNat ((k:Int)+1)<d.length - k;omega⟩
  .rw[af (cI e)];rw[af e]at E;exact⟨⟨k+1,ae,ae,ae,rfl⟩,by show d.length - Int.toNat ((k:Int)+1)<d.length - k;omega⟩
 .have Q: ¬(k:Int)<((d.length:Nat):Int):=ae
  simp only[Q,bg,aq,aL];rw[bn ae,P];exact T _ F

end gm
end
section
open Go.kA
namespace gm
open jA
structure OP where
 kind:Int
 num:Int
 ses:Int
 e:Ev
 p:ck
 c:Nat
 b:cM
 fa:Nat

end gm
end
section
open Go.fV Go.kA
namespace gm
open jA cf iE
variable {s S:CF} {k:Nat} {f:OP}
variable {z:Cp} {ses:Int} {dl:Nat}
theorem K1 {α : Type} [DecidableEq α] : ∀ {l1 l2 : List α}, l1.Nodup → (∀ a ∈ l1, a ∈ l2) → l1.length ≤ l2.length
  | [], _, _, _ => Nat.zero_le _
  | a :: l, l2, h, hs => by
    obtain ⟨h1, h2⟩ := List.nodup_cons.1 h
    have := K1 (l1 := l) (l2 := l2.erase a) h2 (λb hb => (List.mem_erase_of_ne (λe => h1 (by rw [← e]; exact hb))).2 (hs b (List.mem_cons_of_mem _ hb)))
    have h3 := List.length_erase_of_mem (hs a (by simp))
    have h4 : 0 < l2.length := List.length_pos_of_mem (hs a (by simp))
    rw [List.length_cons]; omega
theorem Tj{b:Type}[DecidableEq b]{l L:List b}(c:l.Nodup)(d:L.Nodup)(H: ∀a,a∈l↔a∈L):l.length=L.length:=
 Nat.le_antisymm (K1 c (λa h=>(H a).1 h)) (K1 d (λa h=>(H a).2 h))
theorem JY(o:sR s)(O:Ord s):s.E2.length=(s.L.filter (λz=>decide (z.ses≠0))).length:=by
 have e:((s.L.filter (λz=>decide (z.ses≠0))).map (λz=>(((z.num:Int),(z.dl:Int)):E))).length=(s.L.filter (λz=>decide (z.ses≠0))).length:=ay ..;rw[<-e];refine Tj ?_ ?_ λa=> ?_
 .have:=O.n2;unfold keys at this;exact(fu.1 this).imp (λh e=>h (bQ _ e))
 .have H:((s.L.filter (λz=>decide (z.ses≠0))).map Cp.num).Nodup:=fj (gh _ cS) O.nd;exact fu.2 ((fu.1 H).imp (λh e=>h (Int.ofNat.inj (bQ Prod.fst e))))
 .rw[o.e2,bp];constructor
  .rintro⟨z,b,d,rfl⟩;exact⟨z,bj.2 ⟨b,aw d⟩,rfl⟩
  .rintro⟨z,b,rfl⟩;obtain⟨H,c⟩:=bj.1 b;exact⟨z,H,aS c,rfl⟩
theorem NB.free(k:NB z):NB { z with ses:=0,dl:=0 } :=⟨k.r,k.v,k.d,k.n,k.t,by show(0:Int)<=0;omega,by show(0:Int)<=1099511627776;omega,by show 0<=1099511627776;omega⟩
theorem NB.DY(k:NB z)(h:uW ses dl):NB { z with ses:=ses,dl:=dl } :=⟨k.r,k.v,k.d,k.n,k.t,by have:=h.1;show 0<=ses;omega,h.2.1,h.2.2⟩
structure Good (s:CF) (k:Nat):Prop where
 ok:sR s
 all: ∀z∈s.L,NB z
 may: ∀z∈s.L,zq z.e z.d.length (z.fa:Int)=true
 fr: ∀z∈s.L,z.ses=0->z.dl=0
 full: ∀e,(mA s.L e).length<=16
 len:s.next<=k+1
theorem Good.nil:Good ⟨[],1,0,0,0, [], []⟩ 0:=⟨⟨(λz h=>by cases h),(λz h=>by cases h),(λe=>bV),(λe=>bV),rfl⟩,(λz h=>by cases h),(λz h=>by cases h),(λz h=>by cases h),λ_=>bL _,bm _⟩
theorem Good.L(G:Good s k):s.L.length<=k/\s.gE<=k/\s.over<=k/\s.gone<=k:=by
 have:=G.ok.yA;have:=G.len;omega
theorem Good.small (G : Good s k) (O : Ord s) (hk : k ≤ 40000) : Small s := by
  have h1 := G.L
  have h2 := G.len
  have nd : ∀ {l : List E}, (keys l).Nodup → l.Nodup := fun {l} hn => (List.pairwise_map.1 hn).imp (λh e => h (congrArg _ e))
  have e1 : s.E1.length ≤ s.L.length := by
    have := K1 (l2 := s.L.map (λz => (((z.num : Int), (z.fa : Int)) : E))) (nd O.n1) (λe he => by
      obtain ⟨z, hz, rfl⟩ := (G.ok.e1 e).1 he
      exact List.mem_map.2 ⟨z, hz, rfl⟩)
    rwa [List.length_map] at this
  have e2 : s.E2.length ≤ s.L.length := by
    rw [JY G.ok O]; exact List.length_filter_le _ _
  exact ⟨by omega, by omega, by omega, by omega⟩
theorem Good.held(G:Good s k):HO s:=λj h=>by
 unfold keys at h;obtain⟨e,H,rfl⟩:=bp.1 h;obtain⟨z,a,_,rfl⟩:=(G.ok.e2 e).1 H;exact⟨z,a,rfl⟩
theorem Good.more(G:Good s k):Good s (k+1):=⟨G.ok,G.all,G.may,G.fr,G.full,bR G.len⟩
theorem Good.sub(G:Good s k)(o:sR S)(P:Cp->Bool)(g:Cp->Cp)(b: ∀z,(g z).e=z.e/\(g z).d=z.d/\(g z).fa=z.fa)(a: ∀z∈s.L,NB (g z)/\((g z).ses=0->(g z).dl=0))(c:S.L=(s.L.filter P).map g)(i:S.next=s.next):Good S (k+1):=by
 have m: ∀z∈S.L,∃y∈s.L,z=g y:=λz a=>by
  rw[c]at a;obtain⟨y,H,rfl⟩:=bp.1 a;exact⟨y,(bj.1 H).1,rfl⟩
 refine⟨o,λz h=> ?_,λz h=> ?_,λz h=> ?_,λe=> ?_,bR G.len⟩
 .obtain⟨y,H,rfl⟩:=m z h;exact(a y H).1
 .obtain⟨y,H,rfl⟩:=m z h;rw[(b y).1,(b y).2.1,(b y).2.2];exact G.may y H
 .obtain⟨y,H,rfl⟩:=m z h;exact(a y H).2
 .have d:mA S.L e=(mA (s.L.filter P) e).map g:=by
   rw[c];unfold mA;rw[dQ];congr 1
   refine eM λz _=> ?_
   show decide ((g z).e=e)=decide (z.e=e);rw[(b z).1]
  rw[d,ay];exact cE ((List.Sublist.filter _ cS).length_le) (G.full e)
theorem MU(L:List Cp):L.filter (λ_=>true)=L:=cD.2 λ_ _=>rfl
theorem Good.set(G:Good s k)(o:sR S){n:Nat}(h:uW ses dl\/(ses=0/\dl=0))(a:S.L=pF s.L n ses dl)(b:S.next=s.next):Good S (k+1):=by
 refine G.sub o (λ_=>true) (λx=>if x.num=n then { x with ses:=ses,dl:=dl } else x) (λz=>by split<;>exact⟨rfl,rfl,rfl⟩) (λz H=> ?_) (by rw[MU];exact a) b;split
 .rcases h with h|⟨rfl,rfl⟩
  .exact⟨(G.all z H).DY h,λe=>by have:=h.1;dsimp only at e;omega⟩
  .exact⟨(G.all z H).free,λ_=>rfl⟩
 .exact⟨G.all z H,G.fr z H⟩
theorem Good.out(G:Good s k)(o:sR S){P:Cp->Bool}(H:S.L=s.L.filter P)(a:S.next=s.next):Good S (k+1):=
 G.sub o P id (λ_=>⟨rfl,rfl,rfl⟩) (λz h=>⟨G.all z h,G.fr z h⟩) (by rw[List.map_id];exact H) a
instance (ses : Int) (dl : Nat) : Decidable (uW ses dl) := by unfold uW; infer_instance
def TI(f:OP)(s:CF):CF:=
 if f.kind=0 then kT s f.e f.b f.fa
 else if f.kind=1 then(if uW f.ses f.fa then(match mI s.L f.e with|none=>s|some z=>su s z f.ses f.fa)else s)
 else if f.kind=2 then tL s f.num f.ses
 else if f.kind=3 then Fs s f.num f.ses
 else if f.kind=4 then jo s (f.fa:Int)
 else if f.kind=5 then yE s f.e
 else s
theorem Good.do(G:Good s k)(O:Ord s)(p:0<=f.e.gy)(q:k<=30000):Good (TI f s) (k+1):=by
 unfold TI;split
 ·
  have o:=G.ok.add f.e f.b f.fa;by_cases h:jJ s f.e f.b f.fa=0
  .have E:kT s f.e f.b f.fa= { s with L:=s.L++ [⟨s.next,f.e,f.b,f.fa,0,0⟩],next:=s.next+1,E1:=Br s.E1 (s.next:Int) (f.fa:Int) } :=ag h;have H:zq f.e f.b.length (f.fa:Int)=true/\(mA s.L f.e).length<16:=by
    unfold jJ at h;split at h
    .rename_i H;refine⟨H,?_⟩;split at h
     .cases h
     .omega
    .cases h
   have b:dc f.e=true/\f.b.length<=600/\f.fa<=1099511627776:=by
    have:=H.1;unfold zq at this;simp only[aU,Bool.not_eq_true',aX,fv]at this;exact⟨this.1,ae,ae⟩
   have L:=G.len;rw[E]at o⊢;have m: ∀{Q:Cp->Prop},(∀z∈s.L,Q z)->Q ⟨s.next,f.e,f.b,f.fa,0,0⟩->∀z∈s.L++ [⟨s.next,f.e,f.b,f.fa,0,0⟩],Q z:=λa i z hz=>by
    rcases bE.1 hz with hz|hz
    .exact a z hz
    .obtain rfl:=bP.1 hz;exact i
   refine⟨o,m G.all ⟨b.1,p,b.2.1,by show s.next<=1000000;omega,b.2.2,by show(0:Int)<=0;omega,by show(0:Int)<=1099511627776;omega,by show 0<=1099511627776;omega⟩,m G.may H.1,m G.fr (λ_=>rfl),λe=> ?_,by show s.next+1<=_;omega⟩;show(mA (s.L++ [⟨s.next,f.e,f.b,f.fa,0,0⟩]) e).length<=16;unfold mA;rw[gi,au];have g:=G.full e;have d:=H.2;unfold mA at g d;by_cases c:f.e=e
   .subst c;simp;omega
   .simp[c];exact g
  .have E:kT s f.e f.b f.fa=s:=af h;rw[E];exact G.more
 split
 ·
  split
  .rename_i H;cases n:mI s.L f.e with
   |none=>exact G.more
   |some z=>exact G.set (G.ok.DY O (JV n).1 H) (.inl H) rfl rfl
  .exact G.more
 split
 ·
  have o:=G.ok.VF O f.num f.ses;unfold tL at o⊢;split
  .rename_i h;rw[ag h]at o;exact G.out o (P:=λx=> !decide ((x.num:Int)=f.num)) rfl rfl
  .exact G.more
 split
 ·
  have o:=G.ok.rel O f.num f.ses;unfold Fs at o⊢;split
  .rename_i h;rw[ag h]at o;exact G.set o (.inr ⟨rfl,rfl⟩) rfl rfl
  .exact G.more
 split
 ·
  obtain⟨a,_,j,_,_,l,_⟩:=MQ G.ok O (f.fa:Int);refine G.sub a _ (mv (f.fa:Int)) (λz=>by unfold mv;split<;>exact⟨rfl,rfl,rfl⟩) (λz hz=> ?_) l j;unfold mv;split
  .exact⟨(G.all z hz).free,λ_=>rfl⟩
  .exact⟨G.all z hz,G.fr z hz⟩
 split
 ·
  have e:=xQ ((mA s.L f.e).map (λz=>(z.num:Int))) s;refine G.out (G.ok.drop O f.e) (P:=λz=> !decide ((z.num:Int)∈(mA s.L f.e).map (λz=>(z.num:Int)))) ?_ ?_
  .unfold yE;rw[e];rfl
  .unfold yE;rw[e]
 .exact G.more

end gm
end
section
variable {h:aj} {R:fD}
variable {x:Int}
theorem CR.walk(a:Cl 221 #[.U x] h λv H=> ∃t,v=.I t/\R (.I t) H):Cl 158 #[.U x] h R:=aP (lq (sq (cq ll lf) ll)) Tryz.func158 a
theorem zt.walk (g:aH (λ(X:Int) (n:Int) (H:aj)=>aH (λ(a:Int) (e:Int) (d:aj)=>aH (λ(b:Int) (i:Int) (f:aj)=>((0:Int)<=wrap .u8 b/\wrap .u8 b<(((⟨#[0,1,2,2,3,3,3,3,4,4,4,4,4,4,4,4,5,5,5,5,5,5,5,5,5,5,5,5,5,5,5,5,6,6,6,6,6,6,6,6,6,6,6,6,6,6,6,6,6,6,6,6,6,6,6,6,6,6,6,6,6,6,6,6,7,7,7,7,7,7,7,7,7,7,7,7,7,7,7,7,7,7,7,7,7,7,7,7,7,7,7,7,7,7,7,7,7,7,7,7,7,7,7,7,7,7,7,7,7,7,7,7,7,7,7,7,7,7,7,7,7,7,7,7,7,7,7,7,8,8,8,8,8,8,8,8,8,8,8,8,8,8,8,8,8,8,8,8,8,8,8,8,8,8,8,8,8,8,8,8,8,8,8,8,8,8,8,8,8,8,8,8,8,8,8,8,8,8,8,8,8,8,8,8,8,8,8,8,8,8,8,8,8,8,8,8,8,8,8,8,8,8,8,8,8,8,8,8,8,8,8,8,8,8,8,8,8,8,8,8,8,8,8,8,8,8,8,8,8,8,8,8,8,8,8,8,8,8,8,8,8,8,8,8,8,8,8,8,8,8,8,8,8,8,8,8]⟩:ByteArray).size:Nat):Int))/\R (.I (wrap .i64 (i+(wrap .i64 ((((⟨#[0,1,2,2,3,3,3,3,4,4,4,4,4,4,4,4,5,5,5,5,5,5,5,5,5,5,5,5,5,5,5,5,6,6,6,6,6,6,6,6,6,6,6,6,6,6,6,6,6,6,6,6,6,6,6,6,6,6,6,6,6,6,6,6,7,7,7,7,7,7,7,7,7,7,7,7,7,7,7,7,7,7,7,7,7,7,7,7,7,7,7,7,7,7,7,7,7,7,7,7,7,7,7,7,7,7,7,7,7,7,7,7,7,7,7,7,7,7,7,7,7,7,7,7,7,7,7,7,8,8,8,8,8,8,8,8,8,8,8,8,8,8,8,8,8,8,8,8,8,8,8,8,8,8,8,8,8,8,8,8,8,8,8,8,8,8,8,8,8,8,8,8,8,8,8,8,8,8,8,8,8,8,8,8,8,8,8,8,8,8,8,8,8,8,8,8,8,8,8,8,8,8,8,8,8,8,8,8,8,8,8,8,8,8,8,8,8,8,8,8,8,8,8,8,8,8,8,8,8,8,8,8,8,8,8,8,8,8,8,8,8,8,8,8,8,8,8,8,8,8,8,8,8,8,8,8]⟩:ByteArray).data.toList.getD (toNat (wrap .u8 b)) 0).toNat:Nat):Int))))) f) (λc=>if(decide (a≥256))then c (Int.fdiv a (2 ^ min (toNat 8) (IntKind.bits .u64))) (wrap .i64 (e+8)) d else c a e d)) (λj=>if(decide (X≥65536))then j (Int.fdiv X (2 ^ min (toNat 16) (IntKind.bits .u64))) (wrap .i64 (n+16)) H else j X n H)) (λJ=>if(decide (x≥4294967296))then J (Int.fdiv x (2 ^ min (toNat 32) (IntKind.bits .u64))) 32 h else J x 0 h)):Cl 221 #[.U x] h R:=aP (lq (sq (lq (.join [(0,.one (.int .u64)),(2,.one (.int .i64))] (cq ll lf))) (sq (lq (.join [(0,.one (.int .u64)),(2,.one (.int .i64))] (cq ll lf))) (sq (lq (.join [(0,.one (.int .u64)),(2,.one (.int .i64))] (cq ll lf))) ll)))) Tryz.func221 g

end
section
namespace gD
open jA
variable {h H:aj} {R:fD} {b:Nat} {X:Ft} {L x:List Rg} {m n c:Nat} {p:ck}
theorem BT(r:Rg): ∀v∈wu r,gw v=true:=by
 intro v a;simp only[bK,gH,or_false]at a;rcases a with rfl|rfl|rfl|rfl|rfl|rfl|rfl<;>rfl
theorem Tk(a y:Rg)(j: iq h R (.I (if lC a.e y.e=true then -1 else 1))):Cl 99 #[a.val,y.val] h R:=by
 refine xH.walk (bB.box λB o E g F=>bB.box λk r l i f=>JI (r:=a) (f.get g id) (JI (r:=y) i (Q0 a.e y.e λe d=>⟨_,rfl,?_⟩)));have K:=j e (F.tt (f.tt d));by_cases q:lC a.e y.e=true
 .rw[ag q];rw[ag q]at K;exact K
 .rw[af q];rw[af q]at K;exact K
theorem tG:oN Tryz.prog 143 146 7 72 (Rg.zero).val:=⟨dz,dz,rfl⟩
theorem uG:Tryz.prog.underlying 143=some (.slice 146):=dz
def Wd(d:Ev×Value):Rg:=
 match d.2 with
 | .agg ⟨[_,_,_,_,_,.int _ a,.int _ b]⟩=>⟨d.1,a,b⟩
 |_=> .zero
abbrev xS(x:List Rg):Prop:=(x.map Rg.e).Nodup
theorem xS.ne{i j:Nat}{d y:Rg}(k:xS x)(a:x[i]? =some d)(l:x[j]? =some y)(g:i≠j):d.e≠y.e:=λe=>by
 apply g
 have f:=(aE.1 a).1;exact(eE (l:=x.map Rg.e) (cI f) k).1 (by rw[aD,aD,a,l];simp[e])
theorem Fy(c':fz h p n c 7 (x.flatMap wu))(l:n=x.length)(k:x.length<=1000)(nd:xS x)(hk: ∀H (a:List Rg),fz H p n c 7 (a.flatMap wu)->a.Perm x->a.Pairwise kQ->Fr (aN p) h H->R (.T #[]) H):
  Cl 225 #[.L p n c,.I 0,.I (n:Int),.func (.func 99) #[] #[]] h R:=by
 subst l;refine kx.Ug.walk ?_;have M: ∀{a:List Rg},a.Perm x->a.length=x.length:=λhp=>hp.length_eq
 refine⟨λt g=> ∃(i:Nat)(a:List Rg),t=(i:Int)/\1<=i/\(i<=x.length\/i=1)/\fz g p x.length c 7 (a.flatMap wu)/\a.Perm x/\kB kQ a 0 i/\Fr (aN p) h g,λt _=>x.length - t.toNat,⟨1,x,by rw[bC ae ae];rfl,ae,.inr rfl,c',.refl _,kB.small ae,Fr.refl _ _⟩,?_⟩;rintro _ g ⟨i,a,rfl,h1,h2,K,P,S,u⟩;have ly:=M P;by_cases hi:i<x.length
 .have Q:(i:Int)<(x.length:Int):=ae
  simp only[Q,bu,ba];refine⟨λt w=> ∃(j:Nat)(Z:List Rg),t=(j:Int)/\j<=i/\fz w p x.length c 7 (Z.flatMap wu)/\EC kQ a Z 0 i j/\Fr (aN p) h w,λt _=>t.toNat,⟨i,a,rfl,bm _,K,EC.start S,u⟩,?_⟩;rintro _ A ⟨j,Z,rfl,B,o,I,v⟩;have r:=I.perm.trans P;have lz:=M r;have b':xS Z:=(r.map Rg.e).nodup_iff.2 nd;obtain⟨T,U,rfl⟩:=o.addr ae;refine aH.of λJ q=> ?_
  have stop:(j=0\/∀f y,Z[j]? =some f->Z[j - 1]? =some y->kQ y f)->∀G,Fr No A G->J false G:=by
   intro he G F;subst q;simp only[aq,aL];rw[bC ae ae];refine⟨⟨i+1,Z,ae,ae,.inl ae,o.frame F bX,r,I.stop uB (bL _) B ae he,v.on F⟩,by show x.length - Int.toNat ((i:Int)+1)<x.length - i;omega⟩
  by_cases a':0<j
  .have s:(j:Int)>0:=ae
   have V:IntKind.wrap .i64 ((j:Int) - 1)=((j - 1:Nat):Int):=by rw[bC ae ae];omega
   have d:Z[j]? =some (Z[j]' ae):=ai _;have e:Z[j - 1]? =some (Z[j - 1]' ae):=ai _;generalize Z[j]' ae=f at d;generalize Z[j - 1]' ae=y at e;simp only[s,bu,ba,V,aF]at q⊢;refine⟨ae,ax.2 (bB.w5 (o.fP nQ d) ⟨ae,ax.2 (bB.w5 (o.fP nQ e) (Tk f y λG F=>⟨_,rfl,?_⟩))⟩)⟩;by_cases k:lC f.e y.e=true
   .rw[ag k,aw ae];have O:=o.frame F bX;subst q;simp only[ba];refine⟨ae,ax.2 (bB.w5 (O.fP nQ e) ⟨ae,ax.2 (bB.w5 (O.fP nQ d) ⟨ae,ax.2 (bB.Cu (O.Gx nQ (BT y) ae λg4 o4 s4 q4=>⟨ae,ax.2 (bB.Cu (o4.Gx nQ (BT f) (by rw[dt];omega) λg5 E s5 q5=> ?_))⟩))⟩)⟩)⟩;have e5:(Z.set j y).set (j - 1) f=swp Z j (j - 1):=SH d e;rw[e5]at E;have f5:Fr (aN (Sa T U)) G g5:=⟨ae,λz _ l=>by rw[q5 z l,q4 z l]⟩;exact⟨⟨j - 1,_,rfl,ae,E,I.swap a' B ae d e k,(v.on F).tt f5⟩,by show Int.toNat ((j - 1:Nat):Int)<j;omega⟩
   .rw[af k,aB ae];refine stop (.inr λx' y' C D=> ?_) G F;rw[d]at C;rw[e]at D;cases C;cases D;exact(AL (b'.ne d e ae)).resolve_left k
  .have s: ¬(j:Int)>0:=ae
   simp only[s,bg,aq,aL];exact stop (.inl ae) A (Fr.refl _ _)
 .have Q: ¬(i:Int)<(x.length:Int):=ae
  simp only[Q,bg,aq,aL];have:kB kQ a 0 a.length:=by
   rcases h2 with h2|h2
   .have:i=a.length:=ae
    rw[<-this];exact S
   .exact kB.small ae
  exact hk g a K P this.pair u
theorem Jt{f:Int}(e: ∀n:Int,R (.I n) h):Cl 158 #[.U f] h R:=by
 refine CR.walk (zt.walk (aH.of λJ a=> ?_));have w: ∀n:Int,0<=IntKind.wrap .u8 n/\IntKind.wrap .u8 n<256:=λn=>by rw[IntKind.wrap_u8];omega
 have k: ∀y n,J y n h:=by
  intro y n;subst a;refine aH.of λJ a=> ?_
  have K: ∀y n,J y n h:=by
   intro y n;subst a;refine aH.of λJ a=> ?_
   have d: ∀y n,J y n h:=by
    intro y n;subst a;exact⟨w y,_,rfl,e _⟩
   split
   .exact d _ _
   .exact d _ _
  split
  .exact K _ _
  .exact K _ _
 split
 .exact k _ _
 .exact k _ _
theorem Fo(o:fz h p n c 7 (x.flatMap wu))(e:n=x.length)(q:x.length<=12)(j:xS x)(d: ∀H (y:List Rg),fz H p n c 7 (y.flatMap wu)->y.Perm x->y.Pairwise kQ->Fr (aN p) h H->R (.T #[]) H):
  Cl 98 #[.L p n c,.func (.func 99) #[] #[]] h R:=by
 subst e;refine kG.Ug.walk (Jt λi=>⟨_,rfl,mb.Ug.walk ?_⟩);refine⟨λa b l _ _ g=>a=0/\b=(x.length:Int)/\l=i/\g=h,λ_ _ _ _ _ _=>0,⟨rfl,rfl,rfl,rfl⟩,?_⟩;rintro _ _ _ w r _ ⟨rfl,rfl,rfl,rfl⟩;refine aH.of λJ k=> ?_
 rw[bC ae ae,ag (by simp;omega)];exact Fy o rfl ae j λH y O P s f=>⟨rfl,rfl,d H y O P s f⟩
theorem sy(i:Tb h b X L)(hl:L.length<=12)(hk: ∀H P C,fz H P L.length C 7 (L.flatMap wu)->(∀y,aN P y->h.size<=y)->Fr No h H->R (.L P L.length C) H):
  Cl 61 #[.P b 0] h R:=by
 obtain⟨m,i⟩:=i;refine BK.walk (fT i ⟨_,rfl,aH.of λg' hJ=> ?_⟩);rw[ag rfl];refine⟨_,cB i.cW rfl,Aw oF i.map λj E e1 I A=>⟨_,rfl,?_⟩⟩;refine⟨λO o v g=> ∃f:List Rg,o=f.length/\fz g O o v 7 (f.flatMap wu)/\(∀y,aN O y->h.size<=y/\y≠j)/\Iter g j m lL (L.map Rg.pair) (f.map Rg.pair)/\Fr No h g,λ_ o _ _=>L.length - o,
  ⟨[],rfl,.nil rfl rfl rfl rfl,(λy ⟨a,e,_⟩=>by cases e),I,A⟩,?_⟩
 rintro O o v g ⟨f,rfl,M,G,z,t⟩;have zy:=t.1;have b':=z.le;rw[ay,ay]at b';refine Du z (λhp=> .inl ⟨rfl,?_⟩) (λa f' s hm i' I s1 o1=> .inr ⟨_,_,rfl,?_⟩)
 .subst hJ;dsimp only;have u:f.Perm L:=by
   have e: ∀l:List Rg,(l.map Rg.pair).map Wd=l:=λl=>by
    rw[dJ];conv=>rhs;rw[<-List.map_id l]
    exact eH (λr _=>rfl)
   have:=hp.map Wd;rwa[e,e]at this
  have nd:xS f:=(u.map Rg.e).nodup_iff.2 (JJ i.so);have c':=u.length_eq;refine Fo M rfl ae nd λh3 zs K p3 s3 F=>⟨rfl,?_⟩
  have:zs=L:=(List.Perm.eq_of_pairwise (le:=kQ) (λa b _ _ E Z=>by have:=uB E Z;rw[oz]at this;cases this) s3 i.so (p3.trans u));subst this;rw[c']at K⊢;exact hk h3 O v K (λy d=>(G y d).1) (t.fresh F (λy d=>(G y d).1))
 .obtain⟨r,J,e⟩:=bp.1 hm;have T:a=r.e:=(bQ Prod.fst e).symm;have U:f'=r.val:=(bQ Prod.snd e).symm;subst T U;refine Az I ⟨_,_,rfl,_,_,_,_,_,_,_,rfl,bB.new λb2 k e2 a' q=>bB.ld a' (cK ?_)⟩;have F:Fr No k (k.push (.C #[.B r.e.km,.U r.e.node,.U r.e.gy,.S r.e.host,.S r.e.jN,.I r.kH,.I r.own] 146)):=Fr.push _ _;have Q:Row (k.push (.C #[.B r.e.km,.U r.e.node,.U r.e.gy,.S r.e.host,.S r.e.jN,.I r.kH,.I r.own] 146)) (Sa k.size 0) (wu r):=iT (cs:=wu r);generalize k.push (.C #[.B r.e.km,.U r.e.node,.U r.e.gy,.S r.e.host,.S r.e.jN,.I r.kH,.I r.own] 146)=V at F Q⊢;have D:Fr (λy=>y=j) g s:=⟨ae,λy _ hn=>o1 y hn⟩;have e':=(M.frame D (λy d e=>(G y d).2 e)).frame (q.tt F) (λ_ _=>id);have w:Fr No h s:=t.fresh D (λy e=>by have:=A.1;omega);have S:=w.tt (q.tt F);have j':s.size<=V.size:=(q.tt F).1;have k':j<s.size:=by
   obtain⟨_,_,_,_,_,_,J,_⟩:=I;exact aC J
  refine dH (cs:=f.flatMap wu) (ds:=wu r) tG uG e' Q rfl (BT r) ae ae λp4 c4 g4 o4 _ B k4=>⟨_,_,_,rfl,?_⟩
  have d': ∀y,aN p4 y->h.size<=y/\y≠j:=by
   intro y d;rcases k4 y d with h5|h5
   .exact G y h5
   .have:=w.1;exact⟨ae,ae⟩
  refine⟨⟨f++ [r],bV,?_,d',?_,S.fresh B (λy d=>(G y d).1)⟩,?_⟩
  .rw[cg,List.flatMap_singleton];exact o4
  .rw[aV];have h':m<h.size:=i.map.lt;exact(I.frame (q.tt F) id id).frame B (λd=>(G j d).2 rfl) (λd=>by have:=(G m d).1;omega)
  .have:=I.le;rw[au,ay,ay,dF]at this;show L.length - (f.length+1)<L.length - f.length;omega

end gD
end
section
variable {h:aj} {R:fD}
theorem zx.walk{t:Nat}(q:Cl 61 #[.P t 0] h λv k=>Vl v λP j _=> ∃(I:ck->Nat->Nat->Int->aj->Prop)(m:ck->Nat->Nat->Int->aj->Nat),I none 0 0 0 k/\∀(c:ck)(O o:Nat)(T:Int)(H:aj),I c O o T H->if(decide (T<(j:Int)))then Bd T j/\aM P λa=>bB.LD H (a.add (toNat T*7)) λr s u w x y z=>bh H (.C #[.B false,.U 0,.U 0,.S gg,.S gg,.I 0,.I 0] 146) λb l=>bB.ST l (AA b 0) r s u w x y z λg=>bB.LD g (AA b 0) λA C D E F G J=>Cl 62 #[.agg #[.B A,.U C,.U D,.S E,.S F,.I G,.I J]] g λV n=>Vl V λM L K=>bh n (.C #[.L M L K] 26) λB p=>aW Tryz.prog (Builtin.append_ #[53,53] 53 #[.L c O o,.L (Sa B 0) 1 1]) p λQ i=> ∃f e d,Q=.L f e d/\(I f e d (wrap .i64 (T+1)) i/\m f e d (wrap .i64 (T+1)) i<m c O o T H)else R (.L c O o) H):Cl 32 #[.P t 0] h R:=aP (lq (lq (sq (lq (bq (.loop [(3,.one (.slice)),(9,.one (.int .i64))] (lq (sq (cq lf lf) (sq (bq ll) lf)))))) ll))) Tryz.func32 q
theorem HU.walk{r:Bool}{m:Int}{n:Int}{o:ByteArray}{p:ByteArray}{q:Int}{s:Int}(E:bh h (.C #[.B r,.U m,.U n,.S o,.S p,.I q,.I s] 146) λb j=>az.LD j (AA b 0) λZ a' b' c' d'=>Cl 30 #[.agg #[.B Z,.U a',.U b',.S c',.S d']] j λf' H=> ∃i e',f'=.T #[.S i,.I e']/\Hi H b 5 λT=>Hi H b 6 λt=>(Cl 35 #[] H λg' d=>Vp g' λF=>Cc d b 6 (.I t)/\Cc d b 5 (.I T)/\aW Tryz.prog (convert 9 26 (.S i)) d λk' e=>Vl k' λM K I=>Cc e b 6 (.I t)/\Cc e b 5 (.I T)/\Cl 36 #[.pointer F,.L M K I] e λl' f=>Vp l' λP=>Cc f b 6 (.I t)/\Cc f b 5 (.I T)/\Cl 38 #[.pointer P,.I T] f λm' l=>Vp m' λS=>Cc l b 6 (.I t)/\Cl 38 #[.pointer S,.I t] l λn' C=>Vp n' λV=>Cl 39 #[.pointer V] C λo' D=> ∃y w u,o'=.L y w u/\R (.L y w u) D)/\(aW Tryz.prog (convert 9 26 (.S i)) H λp' g=>Vl p' λO L J=>Cc g b 6 (.I t)/\Cc g b 5 (.I T)/\Cl 35 #[] g λq' a=>Vp q' λG=>Cc a b 6 (.I t)/\Cc a b 5 (.I T)/\Cl 36 #[.pointer G,.L O L J] a λr' c=>Vp r' λQ=>Cc c b 6 (.I t)/\Cc c b 5 (.I T)/\Cl 38 #[.pointer Q,.I T] c λh' k=>Vp h' λU=>Cc k b 6 (.I t)/\Cl 38 #[.pointer U,.I t] k λi' A=>Vp i' λX=>Cl 39 #[.pointer X] A λj' B=> ∃z x v,j'=.L z x v/\R (.L z x v) B)/\True):Cl 62 #[.agg #[.B r,.U m,.U n,.S o,.S p,.I q,.I s]] h R:=aP (lq (lq (sq (.lK (.op 1 (.op 4 (.op 5 (.op 7 (.op 8 (.alts (.fork 0 (.op 2 (.op 3 (.op 6 (.op 9 (.op 10 (.op 11 .done)))))) (.fork 2 (.op 0 (.op 3 (.op 6 (.op 9 (.op 10 (.op 11 .done)))))) .gM))))))))) lf))) Tryz.func62 E

end
section
open Go.fV
namespace gD
open jA iE
variable {h H:aj} {R:fD} {b:Nat} {X:Ft} {L:List Rg} {r:Rg}
def xT(r:Rg):cM:=dW (gU r.e)++ct (gC r.kH)++ct (gC r.own)
structure TJ (r:Rg):Prop where
 rt:ja r=true
 sv:0<=r.e.gy
theorem TJ.e(k:TJ r):dc r.e=true/\0<=r.kH/\r.kH<=2/\1<=r.own/\r.own<=1099511627776:=by
 have:=k.rt;unfold ja at this;simp only[aU,Bool.not_eq_true',aX,fv]at this;exact⟨this.1,this.2.2.1.1,this.2.2.1.2,this.2.2.2.1,this.2.2.2.2⟩
theorem PO(k:TJ r):(xT r).length<=200:=by
 have l:=pJ k.e.1 k.sv;have a:=(bU (gU r.e).length).2;have c:=(bU (gC r.kH)).2;have d:=(bU (gC r.own)).2;unfold xT dW;simp only[au];omega
theorem xR(k:TJ r)(tb:lM.oD h)(hk: ∀P J H,fz H P (xT r).length J 1 (bc (xT r))->Fr No h H->(∀y,aN P y->h.size<=y)->R (.slice P (xT r).length J) H):Cl 62 #[r.val] h R:=by
 have K:=k.e;refine HU.walk (bB.box λb m eb V O=>JI V (jA.oC r.e (tb.on O) k.sv λc Q=> ?_));simp only[K.1,ba];refine⟨_,_,rfl,?_⟩;have i:r.at c b:=Q.get V id;have C:=O.tt Q;have l0:=pJ K.1 k.sv;have sz:(str (gU r.e)).size=(gU r.e).length:=iN _;have M:(str (gU r.e)).data.toList=gU r.e:=by unfold str;simp
 have h': ∀g (w:Nat) (S:Nat->Prop) q d,Fr No c g->Wr g w S []->(∀y,S y->c.size<=y)->Row g q (bc (gU r.e))->(∀y,aN q y->¬S y)->aY g (AA b 6)=some (.I r.own)/\aY g (AA b 5)=some (.I r.kH)/\Cl 36 #[.P w 0,.slice q (str (gU r.e)).size d] g λl' x=>
   ∃(b':ck),l'=.pointer b'/\
   aY x (AA b 6)=some (.I r.own)/\
   aY x (AA b 5)=some (.I r.kH)/\
   Cl 38 #[.pointer b',.I r.kH] x λm' U=>
   ∃(c':ck),m'=.pointer c'/\
   aY U (AA b 6)=some (.I r.own)/\
   Cl 38 #[.pointer c',.I r.own] U λn' i'=>
   ∃(d':ck),n'=.pointer d'/\
   Cl 39 #[.pointer d'] i' λo' j'=>
   ∃(g':ck)(f' e':Nat),o'=.L g' f' e'/\
   R (.L g' f' e') j':=by
  intro g w S q d p l u j hq;have I: ∀{E:Nat->Prop},(∀y,E y->c.size<=y)->¬E b:=λhh hn=>by have:=hh b hn;have:=aC i;omega
  have A:r.at g b:=p.get i id;have zg:=p.1;refine⟨ak A,ak A,iE.oC l bV j sz ae hq λg1 S1 W1 s=> ?_⟩;have v: ∀y,S1 y->c.size<=y:=λy a=>(s.new y a).elim (u y) (λm=>ae)
  have z:r.at g1 b:=s.fr.get A (I u);have z1:=s.fr.1;have lt:=pJ K.1 k.sv;have l1:=(bU (gU r.e).length).2;have l2:=(bU (gC r.kH)).2;have l3:=(bU (gC r.own)).2;have el:(dW (gU r.e)).length=(ct (gU r.e).length).length+(gU r.e).length:=by unfold dW;rw[au]
  refine⟨_,rfl,ak z,ak z,im W1 (by rw[cH];omega) ae λg2 S2 W2 o=>⟨_,rfl,?_⟩⟩;have T: ∀y,S2 y->c.size<=y:=λy a=>(o.new y a).elim (v y) (λm=>ae)
  have k':r.at g2 b:=o.fr.get z (I v);have z2:=o.fr.1;refine⟨ak k',im W2 (by rw[cH,au];omega) ae λg3 S3 G a'=>⟨_,rfl,?_⟩⟩;have p': ∀y,S3 y->c.size<=y:=λy a=>(a'.new y a).elim (T y) (λm=>ae)
  have er: []++dW (gU r.e)++ct (gC r.kH)++ct (gC r.own)=xT r:=by unfold xT;rw[cH]
  rw[er]at G;have lr:=PO k;refine iM G ae λp4 c4 g4 o4 F n=>⟨_,_,_,rfl,?_⟩
  have D:Fr No c g3:=((p.fresh s.fr u).fresh o.fr v).fresh a'.fr T;have z3:=D.1;have zz:=C.1;exact hk p4 c4 g4 o4 (C.tt (D.tt F)) (λy a=>bR (n y a))
 refine⟨_,ak i,_,ak i,iE.gL λh3 w S l f Z=>⟨_,rfl,ak (f.get i id),ak (f.get i id),R6 λq d t j cq F n=>⟨_,_,_,rfl,?_⟩⟩,R6 λq d h3 j cq f Z=>⟨_,_,_,rfl,ak (f.get i id),ak (f.get i id),iE.gL λt w S l F n=>⟨_,rfl,?_⟩⟩,trivial⟩
 .rw[M]at j;exact h' t w S q d (f.tt F) (l.frame F bX) Z j (λy a B=>gG (n y a) (l.lt y B))
 .rw[M]at j;have z3:=f.1;refine h' t w S q d (f.tt F) l (λy a=>bR (n y a)) (j.frame F bX) (λy a B=> ?_);have m:=n y B;have c:=iZ j (by unfold gU;intro e;have:=bQ List.length e;rw[jP]at this;revert this;split<;>(try split)<;>simp) a;omega
theorem mf(w:Tb h b X L)(G:L.length<=12)(P: ∀r∈L,TJ r)(T:lM.oD h)(E: ∀H p l C,BL h H p l C (L.map xT)->Fr No h H->R (.L p l C) H):Cl 32 #[.P b 0] h R:=by
 refine zx.walk (sy w G λi p1 V K n1 c=>⟨_,_,_,rfl,?_⟩);refine⟨λe O o t g=> ∃k:Nat,t=(k:Int)/\k<=L.length/\BL i g e O o ((L.take k).map xT)/\Fr No i g,λ_ _ _ t _=>L.length - t.toNat,⟨0,rfl,ae,cI BL.nil,Fr.refl _ _⟩,?_⟩;rintro e O o _ g ⟨k,rfl,a',B,f⟩;by_cases I:k<L.length
 .have q:(k:Int)<((L.length:Nat):Int):=ae
  simp only[q,bu,ba,aF];have a:L[k]? =some L[k]:=ai I;generalize L[k]=v at a;have m:=K.frame f bX;obtain⟨Q,S,rfl⟩:=m.addr ae;refine⟨⟨by first|trivial|omega,by first|trivial|omega⟩,ax.2 (bB.w5 (m.fP nQ a) (bB.new λU h2 e2 D d=>bB.ld D ?_))⟩;have u:=c.tt (f.tt d);refine xR (r:=v) (P v (aK a)) (T.on u) λp3 Z h3 M x n=>⟨_,_,_,rfl,?_⟩
  have z1:=f.1;have z2:=d.1;have bl:=B.len;rw[ay,bw]at bl;have F:=d.tt x;refine(B.on F).push (bR F.1) M (λy j=>⟨bR (n y j),λJ=>gG (B.lt J) (n y j)⟩) ae λp4 c4 h4 s z g4=>⟨_,_,_,rfl,?_⟩
  rw[bC ae ae];refine⟨⟨k+1,ae,ae,?_,?_⟩,by show L.length - Int.toNat ((k:Int)+1)<L.length - k;omega⟩
  .rw[bt,a,aV];exact s
  .obtain⟨_,_,_,_,_,_,_,A⟩:=B;exact(f.tt F).fresh z A
 .have q: ¬(k:Int)<((L.length:Nat):Int):=ae
  simp only[q,bg,aq,aL];rw[bn ae]at B;exact E g e O o (B.mono c.1) (c.tt f)

end gD
end
section
open Go.fV
namespace gD
open jA iE
variable {L:List Rg}
structure FP (L:List Rg):Prop where
 len:L.length<=8
 all: ∀r∈L,TJ r
theorem FP.add(k:FP L)(r:Rg)(H:0<=r.e.gy):FP (CN L r):=by
 unfold CN;rcases BN L r with⟨_,e⟩|⟨_,_,e⟩|⟨_,_,_,e⟩|⟨h,_,b,e⟩<;>rw[e]
 .exact k
 .exact k
 .exact k
 .rw[ag rfl];exact⟨by rw[PC];omega,λz a=>(HK.1 a).elim (λe=>e▸⟨h,H⟩) (k.all z)⟩
theorem FP.rem(k:FP L)(x:Ev)(o:Int):FP (BM L x o):=by
 unfold BM;split
 .exact⟨cE (cP _ _) k.len,λz h=>k.all z (bj.1 h).1⟩
 .exact k
theorem FP.kH(k:FP L)(x:Ev)(o q:Int):FP (HL L x o q):=by
 unfold HL;split
 .rename_i H;have a:0<=q/\q<=2:=by
   unfold MF at H;split at H
   .assumption
   .cases H
  refine⟨by unfold JH;rw[ay];exact k.len,λz c=> ?_⟩;obtain⟨y,b,rfl⟩:=bp.1 c;have K:=k.all y b;split
  .refine⟨?_,K.sv⟩;have h:=K.rt;unfold ja at h⊢;simp only[aU,Bool.not_eq_true',aX,fv]at h⊢;exact⟨h.1,h.2.1,⟨a.1,a.2⟩,h.2.2.2⟩
  .exact K
 .exact k

end gD
end
section
namespace dM
open hZ (It)
open jA (Ev dc)
variable {d:SS} {k:Nat}
variable {l:List It} {s:gm.CF} {owner:Int}
structure Good (d:SS) (k:Nat):Prop where
 a:fw.mH d.A
 g:gD.FP d.G
 c:gm.Good d.C k
 b:d.B.next<=k+1
 v:d.B.over<=k
 q:d.Q=d.B.items
 ok:tf d.Q
 n:d.now<=1099511627776
 e:dc d.e=true/\d.e≠Ev.zero/\0<=d.e.gy
 t:d.tm<=1099511627776/\d.sq<=1099511627776
 r:d.rf<=k
def MV(e:Ev):SS:=⟨[], [],⟨[],1,0,0,0, [], []⟩,⟨[],1,0,0,0⟩, [],e,0,0,0,0⟩
theorem Good.new{e:Ev}(H:dc e=true)(a:e≠Ev.zero)(b:0<=e.gy):Good (MV e) 0:=
 ⟨fw.mH.nil,⟨bL _,λ_ h=>(by cases h)⟩,gm.Good.nil,bm _,bm _,rfl,tf.nil,bL _,⟨H,a,b⟩,⟨bL _,bL _⟩,bm _⟩
def lQ(s:hZ.BS)(n:Nat):hZ.BS:= { s with items:=s.items.filter (λx=>decide ((n:Int)<(x.fa:Int))),over:=s.over+(s.items.filter (λx=>decide ((x.fa:Int)<=(n:Int)))).length }
def mO(d:SS)(n:Nat):Int:=if n>1099511627776 then 1 else if n<d.now then 18 else 0
def oJ(d:SS)(n:Nat):SS:= { d with C:=gm.jo d.C (n:Int),B:=lQ d.B n,Q:=(lQ d.B n).items,now:=n }
def yF(d:SS)(n:Nat):SS:=if mO d n=0 then oJ d n else d
theorem tf.filter(O:tf l)(P:It->Bool):tf (l.filter P):=by
 induction l with
 |nil=>exact O
 |cons x l i=>
  rw[cC];split
  .obtain⟨a,b,c,D,e,f⟩:=O;have t:yL (l.filter P)<=yL l:=by
    clear i f e D;induction l with
    |nil=>exact eu _
    |cons y l i=>rw[cC,ke];split<;>(try rw[ke])<;>omega
   have T: ∀o,own (l.filter P) o<=own l o:=λo=>by
    clear i f e D t;induction l with
    |nil=>exact eu _
    |cons y l i=>rw[cC,nO];split<;>(try rw[nO])<;>(try split)<;>omega
   rw[ke]at D e;have n:=Jx (l:=l.filter P);refine⟨a,b,c,by rw[ke];omega,by rw[ke];omega,λk=>⟨Jy,?_⟩⟩;have:=(f k).2;have:=T k;rw[nO]at*;omega
  .exact i O.sub
theorem PQ(G:gm.Good s k)(O:gm.Ord s)(H:k<=30000)(n:Nat):gm.Good (gm.jo s (n:Int)) (k+1):=by
 have h:=G.do (f:=⟨4,0,0,Ev.zero,none,0, [],n⟩) O (eu 0) H;unfold gm.TI at h;exact h
theorem Rr(G:gm.Good s k)(O:gm.Ord s)(a:k<=30000)(e:Ev)(H:0<=e.gy)(D:cM)(t:Nat):gm.Good (gm.kT s e D t) (k+1):=by
 have h:=G.do (f:=⟨0,0,0,e,none,0,D,t⟩) O H a;unfold gm.TI at h;exact h
theorem Good.more(G:Good d k):Good d (k+1):=⟨G.a,G.g,G.c.more,bR G.b,bR G.v,G.q,G.ok,G.n,G.e,G.t,bR G.r⟩
theorem Good.pass(G:Good d k)(O:gm.Ord d.C)(L:List Go.kA.E)(ok:hZ.okB d.B L)(H:k<=30000)(n:Nat):Good (yF d n) (k+1):=by
 unfold yF;split
 .rename_i h;have a:n<=1099511627776:=by
   unfold mO at h;split at h
   .cases h
   .omega
  have c:=ok.yA;have b:=G.b;have e:(d.B.items.filter (λx=>decide ((x.fa:Int)<=(n:Int)))).length<=d.B.items.length:=cP _ _;refine⟨G.a,G.g,PQ G.c O H n,by show d.B.next<=_;omega,by show d.B.over+_<=_;omega,rfl,?_,a,G.e,G.t,by have:=G.r;show d.rf<=_;omega⟩;show tf (d.B.items.filter _);rw[<-G.q];exact G.ok.filter _
 .exact G.more
abbrev qI(l:List It)(owner:Int)(n:Nat):Bool:=nN.fits 4800 1600 (yL l) (own l) owner (n:Int)
def Fz(d:SS)(owner:Int)(D:cM)(t:Nat):Int:=if d.B.items.length≥16\/qI d.Q owner D.length=false then 15 else hZ.jJ d.B owner D t
def PR(d:SS)(owner:Int)(D:cM)(t:Nat):Int:=if d.B.items.length≥16\/qI d.Q owner D.length=false then 0 else hZ.BG d.B owner D t
def zA(d:SS)(owner:Int)(D:cM)(t:Nat):SS:=if Fz d owner D t=0 then { d with B:=hZ.HJ d.B owner D t,Q:=(hZ.HJ d.B owner D t).items } else d
def D9(d:SS)(num owner:Int):SS:= { d with B:=hZ.nP d.B num owner,Q:=(hZ.nP d.B num owner).items }
def Ea(d:SS):SS:=match d.B.items with| []=>d|_::r=> { d with B:= { d.B with items:=r,taken:=d.B.taken+1 },Q:=r }
theorem tf.add{x:It}(o:tf l)(H:qI l x.owner x.d.length=true):tf (l++ [x]):=by
 have h:=nN.Ok.take o H;rw[KT,show yL l+(x.d.length:Int)=yL (x::l) by rw[ke];omega]at h;exact tf.perm h (eK _ _).symm
theorem MW{D:cM}{t:Nat}(h:Fz d owner D t=0):qI d.Q owner D.length=true/\hZ.jJ d.B owner D t=0:=by
 unfold Fz at h;split at h
 .cases h
 .rename_i H;cases a:qI d.Q owner D.length with
  |false=>exact absurd (.inr a) H
  |true=>exact⟨rfl,h⟩
theorem Good.put(G:Good d k)(owner:Int)(D:cM)(t:Nat):Good (zA d owner D t) (k+1):=by
 unfold zA;split
 .rename_i h;obtain⟨H,a⟩:=MW h;have e:hZ.HJ d.B owner D t= { d.B with items:=d.B.items++ [⟨d.B.next,owner,D,t⟩],next:=d.B.next+1 } :=ag a;rw[e];refine⟨G.a,G.g,G.c.more,by show d.B.next+1<=_;have:=G.b;omega,by show d.B.over<=_;have:=G.v;omega,rfl,?_,G.n,G.e,G.t,by show d.rf<=_;have:=G.r;omega⟩;show tf (d.B.items++ [_]);rw[<-G.q];exact tf.add G.ok H
 .exact G.more
theorem JZ{s:hZ.BS}{num:Int}: ∃P:It->Bool,(hZ.nP s num owner).items=s.items.filter P/\(hZ.nP s num owner).next=s.next/\(hZ.nP s num owner).over=s.over:=by
 unfold hZ.nP;split
 .exact⟨_,rfl,rfl,rfl⟩
 .exact⟨λ_=>true,(cD.2 λ_ _=>rfl).symm,rfl,rfl⟩
theorem Good.qq(G:Good d k)(num owner:Int):Good (D9 d num owner) (k+1):=by
 obtain⟨P,h,H,a⟩:=JZ (s:=d.B) (num:=num) (owner:=owner);refine⟨G.a,G.g,G.c.more,by show(hZ.nP d.B num owner).next<=_;rw[H];have:=G.b;omega,by show(hZ.nP d.B num owner).over<=_;rw[a];have:=G.v;omega,rfl,?_,G.n,G.e,G.t,by show d.rf<=_;have:=G.r;omega⟩;show tf (hZ.nP d.B num owner).items;rw[h,<-G.q];exact G.ok.filter _
theorem Good.take(G:Good d k):Good (Ea d) (k+1):=by
 unfold Ea;split
 .exact G.more
 .rename_i x r h;refine⟨G.a,G.g,G.c.more,by show d.B.next<=_;have:=G.b;omega,by show d.B.over<=_;have:=G.v;omega,rfl,?_,G.n,G.e,G.t,by show d.rf<=_;have:=G.r;omega⟩;have ok:=G.ok;rw[G.q,h]at ok;exact ok.sub
theorem Good.wh(G:Good d k)(t:Nat):Good { d with A:=fw.wh d.A t } (k+1):=
 ⟨G.a.open t,G.g,G.c.more,by show d.B.next<=_;have:=G.b;omega,by show d.B.over<=_;have:=G.v;omega,G.q,G.ok,G.n,G.e,G.t,by show d.rf<=_;have:=G.r;omega⟩
theorem Good.VG(G:Good d k)(O:gm.Ord d.C)(H:k<=30000)(e:Ev)(h:0<=e.gy)(D:cM)(t:Nat):Good { d with C:=gm.kT d.C e D t } (k+1):=
 ⟨G.a,G.g,Rr G.c O H e h D t,by show d.B.next<=_;have:=G.b;omega,by show d.B.over<=_;have:=G.v;omega,G.q,G.ok,G.n,G.e,G.t,by show d.rf<=_;have:=G.r;omega⟩

end dM
end
section
namespace Ask
open jA (Ev dc)
open dM (SS Good)
open Bn (jq mr Prim mT zP jR lD rU mE)
open Go.fV (RD)
variable {V:cM→Bool} {σ:SS} {k:Nat} {ses:Int} {q:Rq}
def nW(a l:Nat):Nat:=min (a+l) 1099511627776
def qJ(σ:SS):Option (Nat×Nat):=if σ.tm<σ.now then some (σ.now,0)else if 1099511627776<=σ.sq then none else some (σ.tm,σ.sq+1)
structure Ot where
 σ:SS
 e:Int
 num:Int
 yA:Int
 d:cM
def bad(σ:SS)(e:Int):Ot:=⟨σ,e,0,0, []⟩
def HV(σ:SS)(ses:Int)(d:cM)(t:Nat)(n:Nat×Nat):Ot:=
 if dM.Fz σ ses d t=0 then⟨{ dM.zA σ ses d t with tm:=n.1,sq:=n.2 },0,dM.PR σ ses d t,d.length, []⟩else⟨σ,dM.Fz σ ses d t,dM.PR σ ses d t,d.length, []⟩
def nY(V:cM->Bool)(σ:SS)(ses:Int)(b:mr)(n:Nat×Nat):Ot:=match jR V b with
 |none=>bad σ 3
 |some d=>HV σ ses d (nW σ.now b.p.fW) n
def pL(q:Rq)(n:Nat×Nat):mr:=⟨⟨if q.on=true then 131072 else 0,0,q.dest,if q.on=true then q.ep else .zero,⟨q.ep,n.1,n.2⟩,q.fW⟩, [⟨1,1,0,0,q.mz⟩]⟩
def Eb(V:cM->Bool)(σ:SS)(ses:Int)(q:Rq):Ot:=
 if gD.jZ σ.G q.ep ses=0 then(match qJ σ with
  |none=>bad σ 5
  |some n=>nY V σ ses (pL q n) n)
 else bad σ (gD.jZ σ.G q.ep ses)
def MX(V:cM->Bool)(d:cM):Nat:=match lD V d with| .ok b=>(rU b).length| .error _=>0
def Sg(σ:SS)(q:Rq):Nat:=nW σ.now q.jm.toNat
def Ec(V:cM->Bool)(σ:SS)(ses:Int)(q:Rq):Ot:=
 if gD.jZ σ.G q.ep ses=0 then
  if gm.uW ses (Sg σ q)then(match gm.mI σ.C.L q.ep with
   |none=>bad σ 4
   |some z=>⟨{ σ with C:=gm.su σ.C z ses (Sg σ q) },0,(z.num:Int),(MX V z.d:Int),z.d⟩)
  else bad σ 1
 else bad σ (gD.jZ σ.G q.ep ses)
def FA(n m:Int):Bool:=IntKind.wrap .u64 ((BitVec.ofInt (IntKind.bits .u64) n &&& BitVec.ofInt (IntKind.bits .u64) m).toNat:Int)==0
def yG(p:Prim):Bool:= !FA (p.fl:Int) 131072 && FA (p.fl:Int) 2
def nZ(V:cM->Bool)(σ:SS)(ses:Int)(d:cM):SS×Int:=match lD V d with
 | .error _=>(σ,0)
 | .ok b=>if yG b.p=true then(match qJ σ with
  |none=>(σ,0)
  |some n=>(match mE V ⟨false,true,false,0,σ.now,b.p.id⟩ b.p.rep ⟨σ.e,n.1,n.2⟩ b.p.fW with
   |none=>(σ,0)
   |some r=>((nY V σ ses r n).σ,if(nY V σ ses r n).e=0 then 1 else 0)))
  else(σ,0)
def MY(V:cM->Bool)(σ:SS)(ses:Int)(num:Int):Ot:=
 if gm.lP σ.C.L num ses=0 then(match gm.zp σ.C.L num with
  |none=>bad { σ with C:=gm.tL σ.C num ses } 0
  |some z=>⟨(nZ V { σ with C:=gm.tL σ.C num ses } ses z.d).1,0,0,(nZ V { σ with C:=gm.tL σ.C num ses } ses z.d).2, []⟩)
 else bad σ (gm.lP σ.C.L num ses)
def xU(σ:SS)(ses:Int)(o:Bool):Ot:=
 if fw.xF σ.A ses=0 then⟨{ σ with A:=fw.DX (fw.ku σ.A ses o) ses },fw.Px (fw.ku σ.A ses o) ses,0,fw.KV (fw.ku σ.A ses o) ses,fw.DW (fw.ku σ.A ses o) ses⟩
 else bad σ (fw.xF σ.A ses)
def K2(V:cM->Bool)(σ:SS)(ses:Int)(q:Rq):Ot:=
 if q.kind=1 then bad { σ with G:=gD.CN σ.G ⟨q.ep,q.kH,ses⟩ } (gD.jJ σ.G ⟨q.ep,q.kH,ses⟩)
 else if q.kind=2 then(if gD.jZ σ.G q.ep ses=0 then⟨{ σ with G:=gD.BM σ.G q.ep ses,C:=gm.yE σ.C q.ep },0,0,((gm.mA σ.C.L q.ep).length:Int), []⟩else bad σ (gD.jZ σ.G q.ep ses))
 else if q.kind=3 then bad { σ with G:=gD.HL σ.G q.ep ses q.kH } (gD.MF σ.G q.ep ses q.kH)
 else if q.kind=4 then Eb V σ ses q
 else if q.kind=5 then bad (dM.D9 σ q.num ses) (hZ.oE σ.B q.num ses)
 else if q.kind=6 then⟨σ,gD.jZ σ.G q.ep ses,(gm.JX σ.C.L q.ep:Int),0, []⟩
 else if q.kind=7 then Ec V σ ses q
 else if q.kind=8 then MY V σ ses q.num
 else if q.kind=9 then bad { σ with C:=gm.Fs σ.C q.num ses } (gm.lP σ.C.L q.num ses)
 else if q.kind=10 then xU σ ses q.on
 else bad σ 3
def pM(id:Nat)(o:Ot):RD:=if o.e=0 then⟨id,0,o.num,o.yA,0,o.d⟩else⟨id,o.e,0,0,0, []⟩
def Si(x:RD):cM:=if x.pk then x.enc else []
def lR(id:Nat)(e:Int):RD:=⟨id,e,0,0,0, []⟩
def CS(V:cM->Bool)(σ:SS)(ses:Int)(q:Rq):SS×RD:=
 if jS q=true/\q.kind<11 then
  if fw.Pr σ.A ses=true then(match fw.DT σ.A ses q.id with
   |some b=>(σ,(Go.fV.LB b).getD RD.zero)
   |none=>({ (K2 V σ ses q).σ with A:=fw.BD (K2 V σ ses q).σ.A ses q.id (Si (pM q.id (K2 V σ ses q))) },pM q.id (K2 V σ ses q)))
  else(σ,lR q.id 16)
 else(σ,lR q.id 3)
theorem Good.pF{C:gm.CF}(G:dM.Good σ k)(c:gm.Good C (k+1)):dM.Good { σ with C:=C } (k+1):=
 ⟨G.a,G.g,c,by show σ.B.next<=_;have:=G.b;omega,by show σ.B.over<=_;have:=G.v;omega,G.q,G.ok,G.n,G.e,G.t,by show σ.rf<=_;have:=G.r;omega⟩
theorem Good.ma{A:List fw.fw}(G:dM.Good σ k)(a:fw.mH A):dM.Good { σ with A:=A } k:=⟨a,G.g,G.c,G.b,G.v,G.q,G.ok,G.n,G.e,G.t,G.r⟩
theorem Good.Tl{L:List gD.Rg}(G:dM.Good σ k)(a:gD.FP L):dM.Good { σ with G:=L } k:=⟨G.a,a,G.c,G.b,G.v,G.q,G.ok,G.n,G.e,G.t,G.r⟩
theorem Good.mk{t s:Nat}(G:dM.Good σ k)(H:t<=1099511627776)(h:s<=1099511627776):dM.Good { σ with tm:=t,sq:=s } k:=⟨G.a,G.g,G.c,G.b,G.v,G.q,G.ok,G.n,G.e,⟨H,h⟩,G.r⟩
theorem BU(G:dM.Good σ k){n:Nat×Nat}(h:qJ σ=some n):n.1<=1099511627776/\n.2<=1099511627776:=by
 unfold qJ at h;have:=G.n;have:=G.t;split at h
 .cases h;exact⟨by assumption,by show 0<=_;omega⟩
 split at h
 .cases h
 .cases h;exact⟨G.t.1,by show σ.sq+1<=_;omega⟩
theorem Good.HV(G:dM.Good σ k)(ses:Int)(d:cM)(t:Nat){n:Nat×Nat}(h:n.1<=1099511627776/\n.2<=1099511627776):dM.Good (HV σ ses d t n).σ (k+1):=by
 unfold Ask.HV;split
 .exact Good.mk (dM.Good.put G ses d t) h.1 h.2
 .exact dM.Good.more G
theorem Good.nY(G:dM.Good σ k)(ses:Int)(b:mr){n:Nat×Nat}(h:n.1<=1099511627776/\n.2<=1099511627776):dM.Good (nY V σ ses b n).σ (k+1):=by
 unfold Ask.nY;split
 .exact dM.Good.more G
 .exact Good.HV G _ _ _ h
theorem Good.tell(G:dM.Good σ k)(ses:Int)(d:cM):dM.Good (nZ V σ ses d).1 (k+1):=by
 unfold nZ;split
 .exact dM.Good.more G
 split
 .split
  .exact dM.Good.more G
  .rename_i n h;split
   .exact dM.Good.more G
   .exact Good.nY G _ _ (BU G h)
 .exact dM.Good.more G
theorem Good.Um(G:dM.Good σ k)(O:gm.Ord σ.C)(h:k<=30000)(f:gm.OP)(H:0<=f.e.gy):dM.Good { σ with C:=gm.TI f σ.C } (k+1):=Good.pF G (G.c.do O H h)
theorem Good.K2(G:dM.Good σ k)(O:gm.Ord σ.C)(H:k<=30000)(a:0<=q.ep.gy):dM.Good (K2 V σ ses q).σ (k+2):=by
 unfold Ask.K2;split
 .exact dM.Good.more (dM.Good.more (Good.Tl G (G.g.add _ a)))
 split
 .split
  .have h:=Good.Um G O H ⟨5,0,0,q.ep,none,0, [],0⟩ a;exact dM.Good.more (Good.Tl h (G.g.rem _ _))
  .exact dM.Good.more (dM.Good.more G)
 split
 .exact dM.Good.more (dM.Good.more (Good.Tl G (G.g.kH _ _ _)))
 split
 .unfold Eb;split
  .split
   .exact dM.Good.more (dM.Good.more G)
   .rename_i n c;exact dM.Good.more (Good.nY G _ _ (BU G c))
  .exact dM.Good.more (dM.Good.more G)
 split
 .exact dM.Good.more (dM.Good.qq G _ _)
 split
 .exact dM.Good.more (dM.Good.more G)
 split
 .unfold Ec;split
  .split
   .rename_i b;have h:=Good.Um G O H ⟨1,0,ses,q.ep,none,0, [],Sg σ q⟩ a;unfold gm.TI at h;rw[af (show¬(1:Int)=0 by decide),ag (show(1:Int)=1 from rfl),ag b]at h;dsimp only at h;split
    .exact dM.Good.more (dM.Good.more G)
    .rename_i z d;rw[d]at h;exact dM.Good.more h
   .exact dM.Good.more (dM.Good.more G)
  .exact dM.Good.more (dM.Good.more G)
 split
 .unfold MY;have h:=Good.Um G O H ⟨2,q.num,ses,.zero,none,0, [],0⟩ (eu 0);split
  .split
   .exact dM.Good.more h
   .exact Good.tell h _ _
  .exact dM.Good.more (dM.Good.more G)
 split
 .have h:=Good.Um G O H ⟨3,q.num,ses,.zero,none,0, [],0⟩ (eu 0);exact dM.Good.more h
 split
 .unfold xU;split
  .exact dM.Good.more (dM.Good.more (Good.ma G ((G.a.watch _ _).read _)))
  .exact dM.Good.more (dM.Good.more G)
 .exact dM.Good.more (dM.Good.more G)
theorem Good.CS(G:dM.Good σ k)(O:gm.Ord σ.C)(H:k<=30000)(a:0<=q.ep.gy):dM.Good (CS V σ ses q).1 (k+2):=by
 have h:=Good.K2 (V:=V) (ses:=ses) G O H a;have m:=dM.Good.more (dM.Good.more G);unfold Ask.CS;split
 .split
  .split
   .exact m
   .exact Good.ma h (h.a.qU _ _ _)
  .exact m
 .exact m
section
open fw
variable {A : List fw.fw} {m n : Int}
end
end Ask
end
section
variable {h:aj} {R:fD}
theorem zB.walk{b:Nat}(hv:Cl 66 #[.P b 0] h λz' H=> ∃S,z'=.B S/\if(!S)then R (.Z) H else Hi H b 1 λL=>Hi H b 2 λy=>Hi H b 3 λq=>Hi H b 4 λk=>Hl H b 0 λc t T=>Cl 35 #[] H λA' e=>Vp A' λt9=>Cc e b 0 (.L c t T)/\Cc e b 4 (.I k)/\Cc e b 3 (.I q)/\Cc e b 2 (.I y)/\Cc e b 1 (.I L)/\Cl 38 #[.pointer t9,.I L] e λG' j=>Vp G' λc'=>Cc j b 0 (.L c t T)/\Cc j b 4 (.I k)/\Cc j b 3 (.I q)/\Cc j b 2 (.I y)/\Cl 38 #[.pointer c',.I y] j λH' n=>Vp H' λd'=>Cc n b 0 (.L c t T)/\Cc n b 4 (.I k)/\Cc n b 3 (.I q)/\Cl 38 #[.pointer d',.I q] n λI' w=>Vp I' λe'=>Cc w b 0 (.L c t T)/\Cc w b 4 (.I k)/\Cl 38 #[.pointer e',.I k] w λJ' G=>Vp J' λf'=>Cc G b 0 (.L c t T)/\Cl 38 #[.pointer f',.I (t:Int)] G λK' J=>Vp K' λg'=>Cc J b 0 (.L c t T)/\Cl 39 #[.pointer g'] J λL' K=>Vl L' λj' i' h'=>Cc K b 0 (.L c t T)/\bh K (.C #[.L j' i' h'] 26) λU x=>Cc x b 0 (.L c t T)/\Hl x b 0 λk' P _=> ∃(I:ck->Nat->Nat->Int->aj->Prop)(M:ck->Nat->Nat->Int->aj->Nat),I (Sa U 0) 1 1 0 x/\∀(p:ck)(O o:Nat)(d:Int)(f:aj),I p O o d f->if(decide (d<(P:Int)))then Bd d P/\aM k' λa=>aJ.LD f (a.add (toNat d*4)) λl' m' p' o' n' q'=>bh f (.C #[.I 0,.I 0,.Z,.U 0] 132) λB X=>aJ.ST X (AA B 0) l' m' p' o' n' q' λg=>Hi g B 0 λQ=>Hi g B 1 λz=>Hl g B 2 λu s r=>Hu g B 3 λl=>Cl 35 #[] g λM' i=>Vp M' λr'=>Cc i B 3 (.U l)/\Cc i B 2 (.L u s r)/\Cc i B 1 (.I z)/\Cc i B 0 (.I Q)/\Cl 38 #[.pointer r',.I Q] i λO' m=>Vp O' λs'=>Cc m B 3 (.U l)/\Cc m B 2 (.L u s r)/\Cc m B 1 (.I z)/\Cl 38 #[.pointer s',.I z] m λB' v=>Vp B' λt'=>Cc v B 3 (.U l)/\Cc v B 2 (.L u s r)/\Cl 36 #[.pointer t',.L u s r] v λC' E=>Vp C' λu'=>Cc E B 3 (.U l)/\Cl 37 #[.pointer u',.U l] E λD' Z=>Vp D' λv'=>Cl 39 #[.pointer v'] Z λE' a'=>Vl E' λy' x' w'=>bh a' (.C #[.L y' x' w'] 26) λV b'=>aW Tryz.prog (Builtin.append_ #[53,53] 53 #[.L p O o,.L (Sa V 0) 1 1]) b' λF' F=> ∃D C A,F'=.L D C A/\(I D C A (wrap .i64 (d+1)) F/\M D C A (wrap .i64 (d+1)) F<M p O o d f)else R (.L p O o) f):Cl 34 #[.P b 0] h R:=aP (lq (sq (lq (cq ll lf)) (sq (.lK (.op 1 (.op 2 (.op 3 (.op 4 (.op 6 (.op 7 (.op 8 (.op 9 (.op 11 (.op 12 (.op 13 (.op 14 (.op 16 (.op 17 (.op 18 (.op 19 (.op 21 (.op 22 (.op 23 (.op 24 (.op 25 (.op 0 (.op 5 (.op 10 (.op 15 (.op 20 (.op 26 (.op 27 (.op 28 (.op 29 .done))))))))))))))))))))))))))))))) (sq (lq (bq (.loop [(3,.one (.slice)),(43,.one (.int .i64))] (lq (sq (cq lf lf) (sq (bq (lq (.lK (.op 0 (.op 2 (.op 3 (.op 5 (.op 6 (.op 8 (.op 9 (.op 11 (.op 12 (.op 1 (.op 4 (.op 7 (.op 10 (.op 13 (.op 14 (.op 15 (.op 16 (.op 17 .done))))))))))))))))))))) lf)))))) ll)))) Tryz.func34 hv

end
section
open Go.fV Go.kA
namespace hZ
open iE
variable {h H a:aj} {b:Nat} {X:Ft} {R:fD} {p:ck} {c d:Nat} {L:List E} {s:BS}
def IL(a h:aj)(p:ck)(l c:Nat)(i:List It):Prop:=
 ∃(e:List IV)(D:Nat->Prop),l=e.length/\fz h p l c 4 (e.flatMap gO)/\e.map IV.abs=i/\(∀y∈e,y.v.ok h D)/\(∀y,D y->a.size<=y/\y<h.size/\¬aN p y)/\∀y,aN p y->a.size<=y
theorem IL.len{l:Nat}{i:List It}(e:IL a h p l c i):l=i.length:=by
 obtain⟨y,D,f,_,g,_⟩:=e;rw[f,<-g,ay]
theorem sy(i:za h b X s)(hk: ∀H E z C,IL h H E z C s.items->Fr No h H->R (.L E z C) H):Cl 193 #[.P b 0] h R:=by
 obtain⟨L,⟨lp,lc,f,A,S,i⟩,D⟩:=i;obtain⟨hL,n'⟩:=i.FP D;refine Bt.walk (fT i ⟨_,rfl,aH.of λg' hJ=> ?_⟩);simp only[ba];refine⟨_,_,_,ak i.cW,?_⟩;refine⟨λr q O t g=> ∃k:Nat,t=(k:Int)/\k<=f.length/\IL h g r q O (s.items.take k)/\Fr No h g,λ_ _ _ t _=>f.length - t.toNat,⟨0,rfl,ae,⟨[],λ_=>False,rfl,.nil rfl rfl rfl rfl,bV,(λy hy=>by cases hy),(λy hy=>hy.elim),λy ⟨A,e,_⟩=>by cases e⟩,Fr.refl _ _⟩,?_⟩;rintro r q O _ g ⟨k,rfl,l',I,m⟩;have M:=i.on m;by_cases c':k<f.length
 .have Q:(k:Int)<(f.length:Int):=ae
  simp only[Q,bu,ba,aF];have n:f[k]? =some f[k]:=ai c';generalize f[k]=x at n;obtain⟨ab,h',rfl⟩:=M.own.addr ae;refine⟨⟨by first|trivial|omega,by first|trivial|omega⟩,ax.2 (aJ.w5 (M.own.fP iB n) (aJ.new λb1 h8 j' b' o=>aJ.ld b' ?_))⟩;have K:s.items[k]? =some x.abs:=by rw[<-i.abs,aD,n];rfl
  have d':=D.it x.abs (aK K);have dl:x.v.b.length<=600:=d'.2.2.2.1;have f':=((M.Cj x (aK n)).row).frame o bX;refine sM f' rfl ae λv P c9 B f9 g9=>⟨_,_,_,_,_,_,rfl,?_⟩
  have F:Fr No g v:=o.tt f9;obtain⟨Z,a',y1,u,T,y4,U,V⟩:=I;have yl:Z.length<=16:=by
   have:=bQ List.length T;rw[ay,bw]at this;omega
  have z9:=F.1;have zg:=m.1;have z8:=o.1;refine iS tI uI (u.frame F bX) rfl (λw hw=>by simp at hw;rcases hw with rfl|rfl|rfl|rfl<;>rfl) ae ae λo' i' k' e' l G=>⟨_,_,_,rfl,?_⟩
  rw[bC ae ae];have J: ∀y,aN P y->g.size<=y/\y<v.size:=λy hy=>⟨bR (g9 y hy),B.dC hy⟩
  have p':=l.1;refine⟨⟨k+1,ae,ae,⟨Z++ [⟨x.num,x.owner,⟨P,c9,x.v.b⟩,x.fa⟩],λy=>a' y\/aN P y,by rw[au,y1];rfl,?_,?_,?_,?_,?_⟩,?_⟩,by show f.length - Int.toNat ((k:Int)+1)<f.length - k;omega⟩
  .rw[cg];simpa using e'
  .rw[aV,T,bt,K];rfl
  .intro w hw;rcases bE.1 hw with hw|hw
   .exact(((y4 w hw).frame F bX).frame l (λy hy=>(U y hy).2.2)).mono (λy=> .inl)
   .obtain rfl:=bP.1 hw;exact BV.jy (B.frame l (λy hy j=>gG (J y hy) (u.dC j))) (λy=> .inr)
  .rintro y (hy|hy)
   .have A:=U y hy;exact⟨A.1,ae,λj=>(G y j).elim A.2.2 (λh2=>ae)⟩
   .have A:=J y hy;exact⟨ae,ae,λj=>(G y j).elim (λh2=>bR (u.dC h2)) (λh2=>ae)⟩
  .intro y hy;rcases G y hy with h2|h2
   .exact V y h2
   .omega
  .exact(m.tt F).fresh l V
 .have Q: ¬(k:Int)<(f.length:Int):=ae
  simp only[Q,bg,aq,aL];subst hJ;have m':=i.len;rw[bn ae]at I;exact hk g r q O I m
def pO(s:BS):cM:=ct s.next++ct s.taken++ct s.qq++ct s.over++ct s.items.length
def PS(x:It):cM:=ct x.num++ct x.owner.toNat++dW x.d++ct x.fa
def wF(s:BS):List (cM):=pO s::s.items.map PS
theorem MZ(s:BS):(pO s).length<=60:=by
 unfold pO;simp only[au];have A:=(bU s.next).2;have e:=(bU s.taken).2;have f:=(bU s.qq).2;have g:=(bU s.over).2;have i:=(bU s.items.length).2;omega
theorem PT{x:It}(h:x.d.length<=600):(PS x).length<=700:=by
 unfold PS dW;simp only[au];have A:=(bU x.num).2;have e:=(bU x.owner.toNat).2;have f:=(bU x.d.length).2;have g:=(bU x.fa).2;omega
theorem mf(f:za h b X s)(a9:s.next<=1000000000)(hk: ∀H p' l' c',BL h H p' l' c' (wF s)->Fr No h H->R (.L p' l' c') H):Cl 34 #[.P b 0] h R:=by
 obtain⟨L,⟨lp,lc,l,g',S,f⟩,V⟩:=f;obtain⟨hL,b0⟩:=f.FP V;have a7:=V.yA;have E':=f.len;have t: ∀(n:Nat),gC (n:Int)=n:=λn=>by unfold gC;omega
 refine zB.walk (fT f ⟨_,rfl,?_⟩);simp only[cU,aq,aL];refine⟨_,ak f.cW,_,ak f.cW,_,ak f.cW,_,ak f.cW,_,_,_,ak f.cW,?_⟩;refine iE.gL λh2 L' S2 W2 f2 g2=>⟨_,rfl,?_⟩
 have u2:Up h S2 h2:=⟨f2,g2⟩;have lb:=aC f.cW;have w: ∀{S:Nat->Prop}{H:aj},Up h S H->¬S b:=λb' j=>by have:=b'.ge b j;omega
 have o:=f2.get f.cW id;refine⟨ak o,ak o,ak o,ak o,ak o,?_⟩;refine im W2 bV ae λh3 S3 W3 s3=>⟨_,rfl,?_⟩
 have u:=s3.fr.get o (w u2);have u3:=u2.step s3;rw[t,cH]at W3;have l1:=(bU s.next).2;refine⟨ak u,ak u,ak u,ak u,?_⟩;refine im W3 ae ae λh4 S4 W4 s4=>⟨_,rfl,?_⟩
 have z:=s4.fr.get u (w u3);have u4:=u3.step s4;rw[t]at W4;have l2:=(bU s.taken).2;refine⟨ak z,ak z,ak z,?_⟩;refine im W4 (by simp only[au];omega) ae λh5 S5 W5 s5=>⟨_,rfl,?_⟩
 have O:=s5.fr.get z (w u4);have u5:=u4.step s5;rw[t]at W5;have l3:=(bU s.qq).2;refine⟨ak O,ak O,?_⟩;refine im W5 (by simp only[au];omega) ae λh6 S6 W6 s6=>⟨_,rfl,?_⟩
 have b6:=s6.fr.get O (w u5);have u6:=u5.step s6;rw[t]at W6;have l4:=(bU s.over).2;refine⟨ak b6,?_⟩;refine im W6 (by simp only[au];omega) ae λh7 S7 W7 s7=>⟨_,rfl,?_⟩
 have b7:=s7.fr.get b6 (w u6);have u7:=u6.step s7;rw[t,E']at W7;refine⟨ak b7,?_⟩;have hh:=MZ s;refine iM (bs:=pO s) W7 ae λq D i o8 f8 g8=>⟨_,_,_,rfl,?_⟩
 have b8:=f8.get b7 id;refine⟨ak b8,cK ?_⟩;have f9:Fr No i (i.push (.C #[.slice q (pO s).length D] 26)):=Fr.push _ _;have o9:fz (i.push (.C #[.slice q (pO s).length D] 26)) (Sa i.size 0) 1 1 1 (jn ⟨q,D,pO s⟩):=.row i.size 0 _ _ rfl bZ (bm _) bV rfl (λb2 b9 hj=>by rw[bM];simpa using hj);have F8:Fr No h i:=u7.fr.tt f8;have z8:=F8.1;have z7:=u7.fr.1;have I:BL h (i.push (.C #[.slice q (pO s).length D] 26)) (Sa i.size 0) 1 1 [pO s]:=by
  refine⟨[⟨q,D,pO s⟩],aN q,rfl,cI o9,rfl,?_,?_,λy ⟨g',e,E⟩=>by cases e;rw[<-E];exact z8⟩
  .intro x j;obtain rfl:=bP.1 j;exact BV.jy (o8.frame f9 bX) (λ_=>id)
  .intro y m;have h1:=g8 y m;have h2:=o8.dC m;exact⟨ae,by rw[dk];omega,λ⟨g',e,E⟩=>by cases e;have E:i.size=y:=E;omega⟩
 have K:Fr No h (i.push (.C #[.slice q (pO s).length D] 26)):=F8.tt f9;generalize i.push (.C #[.slice q (pO s).length D] 26)=h9 at I K⊢;generalize (some (AA i.size 0):ck)=p9 at I⊢;have M9:=f.on K;refine⟨ak M9.cW,_,_,_,ak M9.cW,?_⟩;refine⟨λop Z T a' g=> ∃k:Nat,a'=(k:Int)/\k<=l.length/\BL h g op Z T (pO s::(s.items.take k).map PS)/\Fr No h g,λ_ _ _ a' _=>l.length - a'.toNat,⟨0,rfl,ae,cI I,K⟩,?_⟩;rintro op Z T _ g ⟨k,rfl,a8,B,G⟩;have M:=f.on G;by_cases F':k<l.length
 .have q1:(k:Int)<(l.length:Int):=ae
  simp only[q1,bu,ba,aF];have j:l[k]? =some l[k]:=ai F';generalize l[k]=x at j;obtain⟨ab,R',rfl⟩:=M.own.addr ae;refine⟨⟨by first|trivial|omega,by first|trivial|omega⟩,ax.2 (aJ.w5 (M.own.fP iB j) (aJ.new λb1 j' U' r F=> ?_))⟩;have s':s.items[k]? =some x.abs:=by rw[<-f.abs,aD,j];rfl
  have v:=V.it x.abs (aK s');have dl:x.v.b.length<=600:=v.2.2.2.1;have xo:1<=x.owner/\x.owner<=1099511627776:=⟨v.2.2.2.2.1,v.2.2.2.2.2.1⟩;have xt:x.fa<=1099511627776:=v.2.2.2.2.2.2;have xn:x.num<s.next:=v.2.1;refine⟨_,ak r,_,ak r,_,_,_,ak r,_,ak r,?_⟩;refine iE.gL λB' L' t' u' h' A'=>⟨_,rfl,?_⟩
  have o':Up j' t' B':=⟨h',A'⟩;have b3:=aC r;have Q: ∀{S:Nat->Prop}{H:aj},Up j' S H->¬S b1:=λb' j=>by have:=b'.ge b1 j;omega
  have C:=h'.get r id;refine⟨ak C,ak C,ak C,ak C,?_⟩;refine im u' bV ae λX' M' e' k'=>⟨_,rfl,?_⟩
  have A:=k'.fr.get C (Q o');have q':=o'.step k';rw[t,cH]at e';have l5:=(bU x.num).2;refine⟨ak A,ak A,ak A,?_⟩;refine im e' ae ae λZ' O' f' m'=>⟨_,rfl,?_⟩
  have P:=m'.fr.get A (Q q');have U:=q'.step m';have eo:gC x.owner=x.owner.toNat:=by unfold gC;omega
  rw[eo]at f';have l6:=(bU x.owner.toNat).2;refine⟨ak P,ak P,?_⟩;have I':=((M.Cj x (aK j)).row).frame (F.tt U.fr) bX;refine nL f' (by simp only[au];omega) I' rfl ae (λy m G' hS=> ?_) λa0 P' v' n'=>⟨_,rfl,?_⟩
  .have a1:=(M.Cj x (aK j)).own G' y m;have a2:=M.FO y a1;have a3:=U.ge y hS;have a4:=F.1;omega
  have x':=n'.fr.get P (Q U);have K':=U.step n';have el:(dW x.v.b).length=(ct x.v.b.length).length+x.v.b.length:=by unfold dW;rw[au]
  have l7:=(bU x.v.b.length).2;refine⟨ak x',?_⟩;refine fM x.fa v' (by simp only[au];omega) rfl ae λa5 Q' w' J'=>⟨_,rfl,?_⟩
  have r':=K'.step J';have rl:=PT (x:=x.abs) dl;refine iM (bs:=PS x.abs) w' ae λb5 T' C' H' y' i'=>⟨_,_,_,rfl,?_⟩
  have J:Fr No g C':=F.tt (r'.fr.tt y');have c1:=J.1;have zg:=G.1;have c0:=(F.tt r'.fr).1;have bl:=B.len;rw[bf,ay,bw]at bl;refine(B.on J).push ae H' (λy m=>⟨bR (i' y m),λho=>gG (B.lt ho) (i' y m)⟩) ae ?_;intro b4 S' a6 d' z' V';refine⟨_,_,_,rfl,?_⟩;rw[bC ae ae];refine⟨⟨k+1,ae,ae,?_,?_⟩,by show l.length - Int.toNat ((k:Int)+1)<l.length - k;omega⟩
  .rw[bt,s',aV];rw[eJ]at d';exact d'
  .obtain⟨_,_,_,_,_,_,_,D'⟩:=B;exact(G.tt J).fresh z' D'
 .have q1: ¬(k:Int)<(l.length:Int):=ae
  simp only[q1,bg,aq,aL];rw[bn ae]at B;exact hk g op Z T B G

end hZ
end
section
variable {h:aj} {R:fD}
variable {s a S:Nat} {o:Int} {b:ck}
theorem M0.walk{e:Bool}{f:Int}{g:Int}{i:ByteArray}{j:ByteArray}(w:bh h (.C #[.B e,.U f,.U g,.S i,.S j] 25) λB H=>az.LD H (AA B 0) λC D E F G=>Cl 13 #[.agg #[.B C,.U D,.U E,.S F,.S G]] H λv c=> ∃l T,v=.T #[.pointer l,.I T]/\if(T !=0)then R (.T #[.pointer none,.I T]) c else Cl 14 #[.I 4800,.I 1600] c λV d=> ∃k t,V=.T #[.pointer k,.I t]/\if(t !=0)then R (.T #[.pointer none,.I t]) d else Cl 15 #[] d λI n=>Vp I λx=>Cl 16 #[] n λJ p=>Vp J λy=>Cl 17 #[] p λK q=>Vp K λz=>Cl 18 #[] q λL r=>Vp L λA=>bh r (.C #[.pointer x,.pointer y,.pointer z,.pointer A,.pointer k,.pointer l,.U 0,.I 0] 43) λm u=>R (.T #[.P m 0,.I 0]) u):Cl 4 #[.agg #[.B e,.U f,.U g,.S i,.S j]] h R:=aP (lq (lq (sq (lq (cq ll lf)) (lq (sq (lq (cq ll lf)) ll))))) Tryz.func4 w
theorem xV.walk(H: ∃f,Cc h s 0 (.pointer f)/\if(!f.isNone)then∃t,Cc h s 1 (.pointer t)/\if(!t.isNone)then∃T,Cc h s 2 (.pointer T)/\if(!T.isNone)then∃c,Cc h s 3 (.pointer c)/\if(!c.isNone)then∃d,Cc h s 4 (.pointer d)/\if(!d.isNone)then∃e,Cc h s 5 (.pointer e)/\R (.B (!e.isNone)) h else R (.B false) h else R (.B false) h else R (.B false) h else R (.B false) h else R (.B false) h):Cl 28 #[.P s 0] h R:=aP (lq ll) Tryz.func28 H
theorem xW.walk{n:Int}(q:Cl 28 #[.P s 0] h λv H=> ∃k,v=.B k/\if(!k)then R (.I 6) H else if(decide (n>1099511627776))then R (.I 1) H else∃T,Cc H s 6 (.U T)/\if(decide (n<T))then R (.I 18) H else aT H (AA s 6) (.U n) λf=>Hp f s 2 λr=>Cl 48 #[.pointer r,.U n] f λV g=>Vl V λ_ _ _=>Hp g s 3 λu=>Cl 49 #[.pointer u,.U n] g λL l=>Vl L λw i _=> ∃(I:Int->aj->Prop)(m:Int->aj->Nat),I 0 l/\∀(t:Int)(c:aj),I t c->if(decide (t<(i:Int)))then Bd t i/\aM w λA=>aJ.LD c (A.add (toNat t*4)) λx y D C z E=>bh c (.C #[.I 0,.I 0,.Z,.U 0] 132) λB p=>aJ.ST p (AA B 0) x y D C z E λd=>Hp d s 4 λF=>Hi d B 1 λG=>Hl d B 2 λK j J=>Cl 50 #[.pointer F,.I G,.I (j:Int)] d λM e=>Vi M λ_=>Cc e B 2 (.L K j J)/\(I (wrap .i64 (t+1)) e/\m (wrap .i64 (t+1)) e<m t c)else R (.I 0) c):Cl 24 #[.P s 0,.U n] h R:=aP (lq (sq (bq (lq (cq ll (lq (cq ll (lq (cq ll lf))))))) (lq (lq (sq (lq (bq (.loop [(38,.one (.int .i64))] (lq (sq (cq lf lf) (sq (bq (lq (pN 10))) lf)))))) ll))))) Tryz.func24 q
theorem zC.walk{g:ck}{d D:Nat}{V:Int} (q:Cl 28 #[.P s 0] h λv H=> ∃T,v=.B T/\if(!T)then R (.T #[.I 0,.I 6]) H else aH (λ(r:Bool) (c:aj)=>if r then R (.T #[.I 0,.I 15]) c else Hp c s 3 λz=>Cl 296 #[.pointer z,.I o,.L g d D,.U V] c λC e=> ∃l t,C=.T #[.I l,.I t]/\aH (λ(m:aj)=>R (.T #[.I l,.I t]) m) (λj=>if(t==0)then Hp e s 4 λA=>Cl 297 #[.pointer A,.I o,.I (d:Int)] e λE n=> ∃B,E=.I B/\j n else j e)) (λJ=>Hp H s 3 λu=>Cl 193 #[.pointer u] H λF f=> ∃x i w,F=.L x i w/\if(decide (((i:Nat):Int)≥16))then J true f else Hp f s 4 λy=>Cl 295 #[.pointer y,.I o,.I (d:Int)] f λG p=> ∃k,G=.B k/\J (!k) p)):Cl 262 #[.P s 0,.I o,.L g d D,.U V] h R:=aP (lq (sq (bq (lq (cq ll (sq (.join [(16,.one (.bool))] lf) (cq ll lf))))) (lq (sq (lq (.join [] (cq lf lf))) ll)))) Tryz.func262 q
theorem uZ.walk{num:Int} (q:bh h (.C #[.I num] 3) λB m=>Cl 28 #[.P s 0] m λv c=> ∃T,v=.B T/\if(!T)then R (.I 6) c else Hp c s 3 λr=>Cl 193 #[.pointer r] c λV d=>Vl V λi g u=>Hp d s 3 λw=>Hi d B 0 λx=>Cl 194 #[.pointer w,.I x,.I o] d λE n=>Vi E λk=>Cl 118 #[.L i g u,.func (.func 195) #[] #[.P B 0]] n λF e=>Vi F λt=>aH (λ(y:Bool) (H:aj)=>aH (λ(p:aj)=>R (.I k) p) (λj=>if y then Hp H s 4 λz=>Bd t g/\aM i λA=>mJ H ((A.add (toNat t*4)).add 2) λD l C=>Cl 50 #[.pointer z,.I o,.I (l:Int)] H λG f=>Vi G λ_=>aY f ((A.add (toNat t*4)).add 2)=some (.L D l C)/\j f else j H)) (λJ=>if(k==0)then J (decide (t≥0)) e else J false e)):Cl 134 #[.P s 0,.I num,.I o] h R:=aP (lq (sq (lq (cq ll lf)) (lq (sq (pN 8) (sq (lq (sq (.join [(33,.one (.bool))] lf) (.join [] (cq (pN 12) lf)))) ll))))) Tryz.func134 q
theorem sA.walk{x:Int}{X:Int}{f:ck}{e d:Nat}{g:Int}{c:Nat}(i:bh h (.C #[.I x,.I X,.L f e d,.U g] 132) λB H=>Hi H B 0 λT=> ∃t,Cc H c 0 (.I t)/\R (.B (T==t)) H):Cl 195 #[.agg #[.I x,.I X,.L f e d,.U g],.P c 0] h R:=aP (lq ll) Tryz.func195 i
theorem xX.walk(w:bh h (.C #[.I 0,.I 0,.Z,.U 0] 132) λc r=>Cl 28 #[.P s 0] r λd' d=> ∃q,d'=.B q/\if(!q)then aJ.ST d (AA c 0) 0 0 none 0 0 0 λe=>aJ.LD e (AA c 0) λx z G E C K=>R (.T #[.agg #[.I x,.I z,.L G E C,.U K],.I 6]) e else Hp d s 3 λM=>Cl 95 #[.pointer M] d λe' u=> ∃T j m l k n t,e'=.T #[.agg #[.I T,.I j,.L m l k,.U n],.I t]/\bh u (.C #[.I 0,.I 0,.Z,.U 0] 132) λB v=>aJ.ST v (AA B 0) T j m l k n λH=>aH (λ(f:aj)=>aJ.LD f (AA B 0) λV X b' a' Z c'=>aJ.ST f (AA c 0) V X b' a' Z c' λg=>aJ.LD g (AA c 0) λy A I F D L=>R (.T #[.agg #[.I y,.I A,.L I F D,.U L],.I t]) g) (λJ=>if(t==0)then Hp H s 4 λO=>Hi H B 1 λP=>Hl H B 2 λU p Q=>Cl 50 #[.pointer O,.I P,.I (p:Int)] H λf' i=>Vi f' λ_=>Cc i B 2 (.L U p Q)/\J i else J H)):Cl 56 #[.P s 0] h R:=aP (lq (sq (lq (cq ll lf)) (lq (sq (lq (.join [] (cq (pN 10) lf))) ll)))) Tryz.func56 w
theorem xY.walk (hv:Cl 28 #[.P s 0] h λj0 K=> ∃x',j0=.B x'/\if(!x')then R (.Z) K else Hp K s 5 λc0=>Cl 29 #[.pointer c0] K λj1 a5=> ∃y' z' A' B' C' D' E',j1=.agg #[.B y',.U z',.U A',.S B',.S C',.U D',.U E']/\bh a5 (.C #[.B false,.U 0,.U 0,.S gg,.S gg,.U 0,.U 0] 71) λB a7=>ah.ST a7 (AA B 0) y' z' A' B' C' D' E' λp'=>az.LD p' (AA B 0) λc1 c2 c3 c4 c5=>Cl 30 #[.agg #[.B c1,.U c2,.U c3,.S c4,.S c5]] p' λk2 j=> ∃V c6,k2=.T #[.S V,.I c6]/\aH (λ(w':ck) (k:aj)=>aH (λ(w:ck) (u':aj)=>aM w' λU'=>cQ.LD u' U' λ_ h6 _ _ h7 _ _ h8 _ _ h9 _=> ∃(I:Int->aj->Prop)(m:Int->aj->Nat),I 0 u'/\∀(t:Int)(H:aj),I t H->if(decide (t<4))then Bd t 4/\(t=((0:Nat):Int)->Cl 38 #[.pointer w,.I (h6:Int)] H λl3 v'=> ∃i0,l3=.pointer i0/\(I (wrap .i64 (t+1)) v'/\m (wrap .i64 (t+1)) v'<m t H))/\(t=((1:Nat):Int)->Cl 38 #[.pointer w,.I (h7:Int)] H λm4 j'=> ∃i1,m4=.pointer i1/\(I (wrap .i64 (t+1)) j'/\m (wrap .i64 (t+1)) j'<m t H))/\(t=((2:Nat):Int)->Cl 38 #[.pointer w,.I (h8:Int)] H λm5 k'=> ∃i2,m5=.pointer i2/\(I (wrap .i64 (t+1)) k'/\m (wrap .i64 (t+1)) k'<m t H))/\(t=((3:Nat):Int)->Cl 38 #[.pointer w,.I (h9:Int)] H λm6 l'=> ∃i3,m6=.pointer i3/\(I (wrap .i64 (t+1)) l'/\m (wrap .i64 (t+1)) l'<m t H))/\True else aM w' λd'=>Cl 39 #[.pointer w] H λm7 m'=>Vl m7 λM' L' K'=>(bh m' (.C #[.L M' L' K'] 26) λV' Z'=>Cl 40 #[.L (cT (some d') 4 0 1) (4 - 0) (4 - 0)] Z' λm8 a0=>Vl m8 λi8 i6 i4=>aW Tryz.prog (Builtin.append_ #[53,53] 53 #[.L (Sa V' 0) 1 1,.L i8 i6 i4]) a0 λm9 a1=> ∃S' Q' O',m9=.L S' Q' O'/\R (.L S' Q' O') a1)/\(Cl 40 #[.L (cT (some d') 4 0 1) (4 - 0) (4 - 0)] m' λj2 a2=>Vl j2 λi9 i7 i5=>bh a2 (.C #[.L M' L' K'] 26) λX' a3=>aW Tryz.prog (Builtin.append_ #[53,53] 53 #[.L (Sa X' 0) 1 1,.L i9 i7 i5]) a3 λj3 a4=> ∃T' R' P',j3=.L T' R' P'/\R (.L T' R' P') a4)/\True) (λc'=>Hu k s 6 λg=>Hi k s 7 λf=>Hu k B 5 λe=>Hu k B 6 λc=>(Cl 35 #[] k λj4 l=>Vp j4 λg0=>Cc l B 6 (.U c)/\Cc l B 5 (.U e)/\Cc l s 7 (.I f)/\Cc l s 6 (.U g)/\aW Tryz.prog (convert 9 26 (.S V)) l λj5 n=>Vl j5 λg6 g4 g2=>Cc n B 6 (.U c)/\Cc n B 5 (.U e)/\Cc n s 7 (.I f)/\Cc n s 6 (.U g)/\Cl 36 #[.pointer g0,.L g6 g4 g2] n λj6 p=>Vp j6 λg8=>Cc p B 6 (.U c)/\Cc p B 5 (.U e)/\Cc p s 7 (.I f)/\Cc p s 6 (.U g)/\Cl 37 #[.pointer g8,.U g] p λj7 y=>Vp j7 λh0=>Cc y B 6 (.U c)/\Cc y B 5 (.U e)/\Cc y s 7 (.I f)/\Cl 38 #[.pointer h0,.I f] y λj8 L=>Vp j8 λh2=>Cc L B 6 (.U c)/\Cc L B 5 (.U e)/\Cl 37 #[.pointer h2,.U e] L λj9 n'=>Vp j9 λh4=>Cc n' B 6 (.U c)/\Cl 37 #[.pointer h4,.U c] n' λk0 a6=> ∃I',k0=.pointer I'/\c' I' a6)/\(aW Tryz.prog (convert 9 26 (.S V)) k λk1 q=>Vl k1 λg7 g5 g3=>Cc q B 6 (.U c)/\Cc q B 5 (.U e)/\Cc q s 7 (.I f)/\Cc q s 6 (.U g)/\Cl 35 #[] q λk3 r=>Vp k3 λg1=>Cc r B 6 (.U c)/\Cc r B 5 (.U e)/\Cc r s 7 (.I f)/\Cc r s 6 (.U g)/\Cl 36 #[.pointer g1,.L g7 g5 g3] r λk4 u=>Vp k4 λg9=>Cc u B 6 (.U c)/\Cc u B 5 (.U e)/\Cc u s 7 (.I f)/\Cc u s 6 (.U g)/\Cl 37 #[.pointer g9,.U g] u λk5 z=>Vp k5 λh1=>Cc z B 6 (.U c)/\Cc z B 5 (.U e)/\Cc z s 7 (.I f)/\Cl 38 #[.pointer h1,.I f] z λk6 M=>Vp k6 λh3=>Cc M B 6 (.U c)/\Cc M B 5 (.U e)/\Cl 37 #[.pointer h3,.U e] M λk7 o'=>Vp k7 λh5=>Cc o' B 6 (.U c)/\Cl 37 #[.pointer h5,.U c] o' λk8 a8=> ∃J',k8=.pointer J'/\c' J' a8)/\True)) (λJ=>Hp j s 0 λX=>Hp j s 1 λi=>Hp j s 2 λd=>Hp j s 3 λT=>(Cl 31 #[.pointer X] j λk9 v=>Vl k9 λG F E=>Cc v s 3 (.pointer T)/\Cc v s 2 (.pointer d)/\Cc v s 1 (.pointer i)/\(Cl 32 #[.pointer i] v λl0 A=>Vl l0 λb' a' Z=>Cc A s 3 (.pointer T)/\Cc A s 2 (.pointer d)/\(Cl 33 #[.pointer d] A λl1 O=>Vl l1 λH' G' F'=>Cc O s 3 (.pointer T)/\(Cl 34 #[.pointer T] O λl2 a9=>Vl l2 λf5 f0 e5=>bh a9 (.C #[.Z,.Z,.Z,.Z] 95) λe' b0=>cQ.ST b0 (AA e' 0) G F E b' a' Z H' G' F' f5 f0 e5 λb1=>J (Sa e' 0) b1)/\(bh O (.C #[.Z,.Z,.Z,.Z] 95) λf' q'=>Cc q' s 3 (.pointer T)/\Cl 34 #[.pointer T] q' λl4 b2=>Vl l4 λf6 f1 e6=>cQ.ST b2 (AA f' 0) G F E b' a' Z H' G' F' f6 f1 e6 λb3=>J (Sa f' 0) b3)/\True)/\(bh A (.C #[.Z,.Z,.Z,.Z] 95) λg' P=>Cc P s 3 (.pointer T)/\Cc P s 2 (.pointer d)/\Cl 33 #[.pointer d] P λl5 r'=>Vl l5 λe2 d9 d6=>Cc r' s 3 (.pointer T)/\Cl 34 #[.pointer T] r' λl6 b4=>Vl l6 λf7 f2 e7=>cQ.ST b4 (AA g' 0) G F E b' a' Z e2 d9 d6 f7 f2 e7 λb5=>J (Sa g' 0) b5)/\True)/\(bh v (.C #[.Z,.Z,.Z,.Z] 95) λh' C=>Cc C s 3 (.pointer T)/\Cc C s 2 (.pointer d)/\Cc C s 1 (.pointer i)/\Cl 32 #[.pointer i] C λl7 Q=>Vl l7 λd4 d2 d0=>Cc Q s 3 (.pointer T)/\Cc Q s 2 (.pointer d)/\Cl 33 #[.pointer d] Q λl8 s'=>Vl l8 λe3 e0 d7=>Cc s' s 3 (.pointer T)/\Cl 34 #[.pointer T] s' λl9 b6=>Vl l9 λf8 f3 e8=>cQ.ST b6 (AA h' 0) G F E d4 d2 d0 e3 e0 d7 f8 f3 e8 λb7=>J (Sa h' 0) b7)/\True)/\(bh j (.C #[.Z,.Z,.Z,.Z] 95) λi' x=>Cc x s 3 (.pointer T)/\Cc x s 2 (.pointer d)/\Cc x s 1 (.pointer i)/\Cc x s 0 (.pointer X)/\Cl 31 #[.pointer X] x λm0 D=>Vl m0 λc9 c8 c7=>Cc D s 3 (.pointer T)/\Cc D s 2 (.pointer d)/\Cc D s 1 (.pointer i)/\Cl 32 #[.pointer i] D λm1 U=>Vl m1 λd5 d3 d1=>Cc U s 3 (.pointer T)/\Cc U s 2 (.pointer d)/\Cl 33 #[.pointer d] U λm2 t'=>Vl m2 λe4 e1 d8=>Cc t' s 3 (.pointer T)/\Cl 34 #[.pointer T] t' λm3 b8=>Vl m3 λf9 f4 e9=>cQ.ST b8 (AA i' 0) c9 c8 c7 d5 d3 d1 e4 e1 d8 f9 f4 e9 λb9=>J (Sa i' 0) b9)/\True)):Cl 10 #[.P s 0] h R:=aP (lq (sq (lq (cq ll lf)) (lq (lq (sq (.join [(6,.one (.ptr))] (.lK (.op 0 (.op 1 (.op 2 (.op 3 (.op 5 (.op 6 (.op 7 (.op 8 (.op 10 (.op 11 (.op 12 (.op 13 (.op 15 (.op 16 (.op 17 (.op 18 (.alts (.fork 4 (.alts (.fork 9 (.alts (.fork 14 (.alts (.fork 19 (ga 3 20 .done) (.fork 21 (.op 19 (.op 20 (.op 22 .done))) .gM))) (.fork 21 (.op 14 (.op 19 (.op 20 (.op 22 .done)))) .gM))) (.fork 21 (.op 9 (.op 14 (.op 19 (.op 20 (.op 22 .done))))) .gM))) (.fork 21 (.op 4 (.op 9 (.op 14 (.op 19 (.op 20 (.op 22 .done)))))) .gM))))))))))))))))))))) (sq (.join [(7,.one (.ptr))] (.lK (.op 1 (.op 4 (.op 5 (.op 6 (.op 7 (.op 9 (.op 10 (.op 11 (.op 12 (.op 14 (.op 15 (.op 17 (.op 18 (.alts (.fork 0 (.op 2 (.op 3 (.op 8 (.op 13 (.op 16 (.op 19 (.op 20 .done))))))) (.fork 2 (.op 0 (.op 3 (.op 8 (.op 13 (.op 16 (.op 19 (.op 20 .done))))))) .gM)))))))))))))))))) (sq (lq (bq (.loop [(66,.one (.int .i64))] (lq (sq (cq lf lf) (sq (bq ll) lf)))))) (sq (.lK (.op 0 (.op 3 (.op 1 (.alts (.fork 2 (ga 3 4 .done) (.fork 4 (.op 2 (.op 5 (.op 6 .done))) .gM))))))) lf)))))))) Tryz.func10 hv
theorem M1.walk{f:Bool}{g:Int}{i:Int}{j:ByteArray}{k:ByteArray}(n:bh h (.C #[.B f,.U g,.U i,.S j,.S k] 25) λB d=>aH (λ(T:Bool) (H:aj)=>if T then R (.T #[.pointer none,.I 3]) H else az.LD H (AA B 0) λp q r u w=>bh H (.C #[.B p,.U q,.U r,.S u,.S w,.U 0,.U 0,.B true] 108) λl m=>R (.T #[.P l 0,.I 0]) m) (λJ=>az.LD d (AA B 0) λx y z A C=>Cl 44 #[.agg #[.B x,.U y,.U z,.S A,.S C]] d λv c=> ∃t,v=.B t/\if(!t)then J true c else az.LD c (AA B 0) λD E F G I=> ∃(e:Bool),zJ Tryz.prog 25 (.agg #[.B D,.U E,.U F,.S G,.S I]) (.agg #[.B false,.U 0,.U 0,.S gg,.S gg]) e/\J e c)):Cl 13 #[.agg #[.B f,.U g,.U i,.S j,.S k]] h R:=aP (lq (sq (sq (.join [(11,.one (.bool))] lf) (cq ll lf)) ll)) Tryz.func13 n
theorem xZ.walk{m:Nat}(f:bh h (.C #[.B false,.U 0,.U 0,.S gg,.S gg,.U 0,.U 0] 71) λB c=>aH (λ(T:Bool) (H:aj)=>if T then ah.ST H (AA B 0) false 0 0 gg gg 0 0 λd=>ah.LD d (AA B 0) λr i k n q v x=>R (.agg #[.B r,.U i,.U k,.S n,.S q,.U v,.U x]) d else ah.LD H (AA m 0) λz A C D E F G=>ah.ST H (AA B 0) z A C D E F G λe=>ah.LD e (AA B 0) λg j l p u w y=>R (.agg #[.B g,.U j,.U l,.S p,.S u,.U w,.U y]) e) (λJ=> ∃t,Cc c m 7 (.B t)/\J (!t) c)):Cl 29 #[.P m 0] h R:=aP (lq (sq (sq (.join [(11,.one (.bool))] lf) (cq ll lf)) ll)) Tryz.func29 f
theorem mw.walk{j:ck}{e D:Nat} (C: ∃(I:Int->Int->aj->Prop)(M:Int->Int->aj->Nat),I 0 0 h/\∀(d:Int)(t:Int)(H:aj),I d t H->if(decide (t<(e:Int)))then aH (λ(u:Int) (p:aj)=>(I u (wrap .i64 (t+1)) p/\M u (wrap .i64 (t+1)) p<M d t H)) (λJ=>Bd t e/\aM j λA=>mJ H (A.add (toNat t*1)) λ_ w _=>aH (λ(z:aj)=>J (wrap .i64 (d+(w:Int))) z) (λx=>if(decide ((wrap .i64 (d+(w:Int)))<0))then False else x H))else Cl 67 #[.Z,.I d] H λv B=>Vl v λG F E=> ∃(i:ck->Nat->Nat->Int->aj->Prop)(r:ck->Nat->Nat->Int->aj->Nat),i G F E 0 B/\∀(g:ck)(f n:Nat)(T:Int)(c:aj),i g f n T c->if(decide (T<(e:Int)))then Bd T e/\aM j λy=>mJ c (y.add (toNat T*1)) λO L K=>aW Tryz.prog (Builtin.append_ #[53,53] 53 #[.L g f n,.L O L K]) c λV q=> ∃m l k,V=.L m l k/\(i m l k (wrap .i64 (T+1)) q/\r m l k (wrap .i64 (T+1)) q<r g f n T c)else R (.L g f n) c):Cl 40 #[.L j e D] h R:=aP (lq (lq (sq (lq (bq (.loop [(3,.one (.int .i64)),(11,.one (.int .i64))] (lq (sq (cq lf lf) (sq (.join [(3,.one (.int .i64))] (bq (lq (lq (lq (.join [] (cq lf lf))))))) lf)))))) (lq (sq (lq (bq (.loop [(6,.one (.slice)),(27,.one (.int .i64))] (lq (sq (cq lf lf) (sq (bq ll) lf)))))) ll))))) Tryz.func40 C
theorem mZ.walk{n:Int} (e:aH (λ(H:aj)=>aH (λ(i:ck) (g f:Nat) (c:aj)=>R (.L i g f) c) (λj=>if(decide ((wrap .i64 (n - (wrap .i64 ((S:Int) - (a:Int)))))>0))then((0:Int)<=(S:Int)/\(S:Int)<=(S:Int))/\aW Tryz.prog (Builtin.append_ #[53,3] 53 #[.L (cT b S 0 1) ((toNat (S:Int)) - 0) (S - 0),.I (wrap .i64 (n - (wrap .i64 ((S:Int) - (a:Int)))))]) H λv d=>Vl v λT _ t=>((0:Int)<=(a:Int)/\(a:Int)<=(t:Int))/\j (cT T t 0 1) ((toNat (a:Int)) - 0) (t - 0) d else j b a S H)) (λJ=>if(decide (n<0))then False else J h)):Cl 67 #[.L b a S,.I n] h R:=aP (lq (sq (lq (.join [] (cq lf lf))) (sq (lq (lq (.join [(0,.one (.slice))] (cq lf lf)))) ll))) Tryz.func67 e
theorem fQ.cancel.walk{f:Nat}(d: ∃(I:Int->aj->Prop)(m:Int->aj->Nat),I 0 h/\∀(t:Int)(H:aj),I t H->if(decide (t<(a:Int)))then Bd t a/\aM b λA=>aJ.LD H (A.add (toNat t*4)) λe g k j i l=>Cl 195 #[.agg #[.I e,.I g,.L k j i,.U l],.P f 0] H λv c=> ∃T,v=.B T/\if T then R (.I t) c else(I (wrap .i64 (t+1)) c/\m (wrap .i64 (t+1)) c<m t H)else R (.I (-1)) H):Cl 118 #[.L b a S,.func (.func 195) #[] #[.P f 0]] h R:=aP (lq (sq (lq (bq (.loop [(8,.one (.int .i64))] (lq (sq (cq lf lf) (sq (bq (lq (lq (cq ll lf)))) lf)))))) ll)) Tryz.func118 d

end
section
namespace dM
open hZ (It)
open jA (Ev dc lL)
variable {h H:aj} {R:fD} {s k:Nat} {X:Ft} {I:pG} {a:SS}
variable {n r:Nat} {x:It} {l:List It} {L:List Go.kA.E} {B:hZ.BS}
theorem fT(B:Bk h s I n r)(b:R (.B true) h):Cl 28 #[pt s] h R:=by
 refine xV.walk ?_;repeat (first|exact b|refine⟨_,ak B,?_⟩|rw[ag rfl])
theorem Pt.put(f:Pt h s X I a)(b:Bk H s I n r)(p:H.size=h.size)(o: ∀x,x≠s->H[x]? =h[x]?): ∃d,Pt H s d I { a with now:=n,rf:=r } /\bA X h d H:=by
 obtain⟨Z,⟨q,on⟩,t,z,go⟩:=f.use 6;obtain⟨d,g,S,_,_⟩:=go H Z { a with now:=n,rf:=r } ⟨b,on⟩ (bA.vw (Fr.of_eq p λc j=>o c (λe=>j ((on c).1.2 e)))) (λi m=>Tg _ _ m);exact⟨d,g,S⟩
theorem Pt.Tm{n o:Int}(c:Pt h s X I a)(e:a.Q.Perm (x::l))(O:tf a.Q)(K:VC x)(q:n=(x.d.length:Int))(t:o=x.owner)(j: ∀H b,Pt H s b I { a with Q:=l } ->bA X h b H->R (.I 0) H):Cl 50 #[pt I.p,.I o,.I n] h R:=by
 subst t;obtain⟨Z,⟨m,P,on⟩,v,z,go⟩:=c.use 4;refine Ue (P.perm e) (tf.perm O e) K q λH p f=> ?_
 obtain⟨b,d,S,_,_⟩:=go H Z { a with Q:=l } ⟨m,p,on⟩ (bA.vw (f.mono λy _ u=>(on y).1.2 u)) (λi g=>JS _ g);exact j H b d S
theorem Pt.perm(d:Pt h s X I a)(e:a.Q.Perm l):Pt h s X I { a with Q:=l } :=by
 obtain⟨y,c,r⟩:=d;refine⟨y,λi=> ?_,r⟩;by_cases b:i=4
 .subst b;obtain⟨m,P,on⟩:=c 4;exact⟨m,P.perm e,on⟩
 .rw[JS _ b];exact c i
theorem HW{r:List It}(o:tf (l++r)): ∀j,tf (l.drop j++r)
 |0=>o
 |j+1=>by
  have h:=HW o j;rcases Nat.lt_or_ge j l.length with q|q
  .rw[cX q]at h;exact tf.sub h
  .rw[List.drop_eq_nil_of_le q]at h;rw[List.drop_eq_nil_of_le ae];exact h
theorem Pt.okB(b:Pt h s X I a): ∃L,hZ.okB a.B L:=by
 obtain⟨Z,L,B,o⟩:=b.box;exact⟨L,o⟩
theorem Pt.ord(b:Pt h s X I a):gm.Ord a.C:=by
 obtain⟨y,c,_⟩:=b;exact gm.Ct.ord (c 2)
theorem J0(o:hZ.okB B L)(b:x∈B.items):VC x:=by
 have:=o.it x b;exact⟨this.2.2.1,this.2.2.2.1,this.2.2.2.2.1,this.2.2.2.2.2.1⟩
theorem Good.small(G:Good a k)(O:gm.Ord a.C)(b:k<=40000):gm.Small a.C:=G.c.small O b
theorem M4(o:hZ.okB B L){P:It->Bool}{d:List It}(i: ∀y∈d,y∈B.items)(g:(d.map It.kv).Perm ((B.items.filter P).map It.kv)):d.Perm (B.items.filter P):=by
 have m: ∀{l:List It},l.Sublist B.items->(l.map It.num).Nodup:=λp=>((o.inc.sublist (p.map It.num))).imp λh=>Nat.ne_of_lt h
 have f:((d.map It.kv).map (λe=>e.1)).Nodup:=by
  refine(g.map _).nodup_iff.2 ?_;rw[dJ];have:=m (cS (l:=B.items) (p:=P));unfold List.Nodup at this⊢;rw[fu]at this⊢;exact this.imp λh e=>h (by have e:(_:Int)=(_:Int):=e;exact Int.ofNat.inj e)
 have q:d.Nodup:=by
  rw[dJ]at f;unfold List.Nodup at f⊢;rw[fu]at f;exact f.imp λh e=>h (by rw[e])
 have t:(B.items.filter P).Nodup:=by
  have:=m (cS (l:=B.items) (p:=P));unfold List.Nodup at this⊢;rw[fu]at this;exact this.imp λh e=>h (by rw[e])
 rw[List.perm_ext_iff_of_nodup q t];have j: ∀x∈B.items,∀y∈B.items,x.kv=y.kv->x=y:=λx b y c e=>hZ.uniq o.inc b c (by have e:((x.num:Nat):Int)=((y.num:Nat):Int):=bQ Prod.fst e;exact Int.ofNat.inj e)
 intro x;constructor
 .intro b;obtain⟨y,c,e⟩:=bp.1 (g.mem_iff.1 (bp.2 ⟨x,b,rfl⟩));rw[j x (i x b) y (bj.1 c).1 e.symm];exact c
 .intro b;obtain⟨y,c,e⟩:=bp.1 (g.mem_iff.2 (bp.2 ⟨x,b,rfl⟩));rw[j x (bj.1 b).1 y (i y c) e.symm];exact c
theorem Ka(l:List It)(b:Nat):l.Perm (l.filter (λx=>decide ((x.fa:Int)<=(b:Int)))++l.filter (λx=>decide ((b:Int)<(x.fa:Int)))):=by
 have h:=(List.filter_append_perm (λx:It=>decide ((x.fa:Int)<=(b:Int))) l).symm;have e:(λx:It=> !decide ((x.fa:Int)<=(b:Int)))=λx:It=>decide ((b:Int)<(x.fa:Int)):=funext λx=>by
  by_cases q:(x.fa:Int)<=(b:Int)
  .rw[aw q,aB ae];rfl
  .rw[aB q,aw ae];rfl
 rw[e]at h;exact h
theorem wk{n:Int}(b:Nat)(hn:n=(b:Int))(m:Pt h s X I a)(G:Good a k)(m':k<=30000)(f: ∀H Q,Pt H s Q I (yF a b)->bA X h Q H->R (.I (mO a b)) H):Cl 24 #[pt s,.U n] h R:=by
 subst hn;have B:=m.cW;refine xW.walk (fT B ⟨_,rfl,?_⟩);rw[dB];unfold yF at f;by_cases w:b>1099511627776
 .have e:mO a b=1:=ag w;rw[e,dB]at f;rw[gk];exact f h X m (bA.refl _ _)
 rw[af (λe=>w (bR (aS e)))];refine⟨_,ak B,?_⟩;by_cases z:b<a.now
 .have e:mO a b=18:=by unfold mO;rw[af w,ag z]
  rw[e,dB]at f;rw[gk];exact f h X m (bA.refl _ _)
 rw[af (λe=>z (bR (aS e)))];have e:mO a b=0:=by unfold mO;rw[af w,af z]
 rw[e,ag rfl]at f;refine bD B bV λz a1 a2 a3=> ?_
 obtain⟨T,q,S⟩:=m.put (n:=b) (r:=a.rf) a1 a2 a3;have a':=m.ord;have sm:=G.small a' ae;obtain⟨Z,p,zm,zd,go⟩:=q.use 2;refine⟨_,ak q.cW,gm.wk p sm (by have:=G.c.L;show a.C.over<=_;omega) (gm.Good.held G.c) (b:Int) λV Z3 p3 c3 C3 s3 N3 g3=>⟨_,_,_,rfl,?_⟩⟩;obtain⟨X3,P,h',_,_⟩:=go V Z3 { a with now:=b,C:=gm.jo a.C (b:Int) } C3 s3 (λi D=>xO (σ:= { a with now:=b }) _ D);obtain⟨Z,p,zm,zd,go⟩:=P.use 3;obtain⟨L,okB⟩:=m.okB;refine⟨_,ak P.cW,hZ.wk b rfl p (by have:=G.b;show a.B.next<=_;omega) λh4 Z4 p4 c4 c k' K s4 o4 d4 E e4 o' g' m4=>⟨_,_,_,rfl,?_⟩⟩;have yp:(c.map hZ.IV.abs).Perm (a.B.items.filter (λx=>decide ((x.fa:Int)<=(b:Int)))):=M4 okB (λy d=>by obtain⟨j',p,rfl⟩:=bp.1 d;exact m4 j' p) (by rw[e4];exact g');have yl:c.length=(a.B.items.filter (λx=>decide ((x.fa:Int)<=(b:Int)))).length:=by rw[<-yp.length_eq,ay]
 have eB:({ a.B with items:=a.B.items.filter (λx=>decide ((b:Int)<(x.fa:Int))),over:=a.B.over+c.length } :hZ.BS)=lQ a.B b:=by unfold lQ;rw[yl]
 rw[eB]at K;obtain⟨u,H4,i',l',d'⟩:=go h4 Z4 { a with now:=b,C:=gm.jo a.C (b:Int),B:=lQ a.B b } K s4 (λi D=>Fu (σ:= { a with now:=b,C:=gm.jo a.C (b:Int) }) _ D);have st:=S.trans (h'.trans i');have c': ∀y,aN p4 y->¬(u.M y\/u.D y)/\V.size<=y:=λy d=>⟨λo=>(E y d).2 (d' y (E y d).1 o),(E y d).1⟩
 have hq:(a.Q).Perm (c.map hZ.IV.abs++(lQ a.B b).items):=by
  rw[G.q];exact(Ka _ b).trans (yp.symm.append_right _)
 have e':tf (c.map hZ.IV.abs++(lQ a.B b).items):=tf.perm G.ok hq;refine⟨λi g=> ∃(j:Nat)(v:Ft),i=(j:Int)/\j<=c.length/\Pt g s v I { a with now:=b,C:=gm.jo a.C (b:Int),B:=lQ a.B b,Q:=(c.map hZ.IV.abs).drop j++(lQ a.B b).items } /\bA u h4 v g/\fz g p4 c.length c4 4 (c.flatMap hZ.gO),λi _=>c.length - i.toNat,
  ⟨0,u,rfl,bL _,H4.perm hq,bA.refl _ _,o4⟩,?_⟩
 rintro _ g ⟨j,v,rfl,hj,t,J,O⟩;have n':c.length<=16:=by rw[yl];exact cE (cP _ _) okB.le
 by_cases C:j<c.length
 .rw[gk];have d:c[j]? =some c[j]:=ai C;obtain⟨pb,po,rfl⟩:=O.addr ae;refine⟨ae,ax.2 (aJ.w5 (by rw[aF];exact O.fP hZ.iB d) (aJ.new λb' g1 eb A F=> ?_))⟩;have M:=t.on F;have ed:(c.map hZ.IV.abs).drop j=c[j].abs::(c.map hZ.IV.abs).drop (j+1):=by
   rw[cX (by rw[ay];exact C),List.getElem_map]
  have f':=HW e' j;refine⟨_,ak M.cW,_,ak A,_,_,_,ak A,M.Tm (x:=c[j].abs) (l:=(c.map hZ.IV.abs).drop (j+1)++(lQ a.B b).items) (by show((c.map hZ.IV.abs).drop j++_).Perm _;rw[ed];exact .refl _) f' (J0 okB (m4 _ (dI C))) rfl rfl λg2 T q S=>⟨_,rfl,?_,?_⟩⟩
  .have lb:=aC A;exact S.fr.cell (ak A) (λo=>bR (t.lt b' (.inl o)))
  .rw[bC ae ae];have s2:=J.on F|>.trans S
   refine⟨⟨j+1,T,ae,ae,q,s2,(O.frame F bX).frame S.fr (λy d o=> ?_)⟩,by show c.length - Int.toNat ((j:Int)+1)<c.length - Int.toNat (j:Int);omega⟩;rcases J.iz y o with U|U
   .exact(c' y d).1 (.inl U)
   .have:=o4.dC d;omega
 .rw[af (λe=>C (bR (aS e)))];refine f g v ?_ (st.trans J);rw[List.drop_eq_nil_of_le (by rw[ay];omega)]at t;exact t

end dM
end
section
open Go.fV
namespace fw
open iE
variable {h d:aj} {t:Nat} {X:Ft} {R:fD} {p:ck} {c i:Nat} {l:Rh} {D:Nat→Prop} {L:List SC} {A:List fw}
variable {num k:Int} {b:cM} {n m nc':Nat} {s:SC} {H a:aj} {K':List BV} {np':ck} {E:Nat->Prop}
theorem oD.on(T:oD h t l D L)(f:Fr No h d):oD d t l D L:=by
 obtain⟨p,c,e,O,j⟩:=T.cW;refine⟨⟨p,c,f.get e id,O.frame f bX,j⟩,T.Pn,λi s q=>(T.ses i s q).frame f (λ_ _ _ _ _=>id) bX,?_,?_,T.ap⟩
 .intro c r o;exact cA (T.Po c r o) f.1
 .intro c g;exact cA (T.FO c g) f.1
theorem Kb(e:List AV)(id:Nat):(e.filter (λx=>decide (x.id≠id))).map AV.abs=(e.map AV.abs).filter (λf=>decide (f.1≠id)):=by
 rw[dQ];rfl
theorem PU{B:List Nat}(id:Nat)(C':k=(id:Int))(h':tH h t X A B)(ok:mH A)(hr:Row h p (bc b))(M:n=b.length)(hp:b≠ []->∀x,aN p x->¬X.M x)(o: ∀d U,tH d t U (BD A num id b) B->bA X h U d->R (.I (Pw A num id b)) d):
  Cl 92 #[.P t 0,.I num,.U k,.L p n m] h R:=by
 subst C' M;have T:=h';obtain⟨l,L,TB,rfl,rfl,hS⟩:=h';have hl:=ok.le;rw[ay]at hl;refine tB.walk (cK ?_);have F:Fr No h (h.push (.C #[.U (id:Int)] 23)):=Fr.push _ _;have e':sg (h.push (.C #[.U (id:Int)] 23)) h.size id:=bZ;have T':(h.push (.C #[.U (id:Int)] 23)).size=h.size+1:=dk _;generalize h.push (.C #[.U (id:Int)] 23)=H at F e' T'⊢;have c':=TB.on F;have g':bA X h X H:=bA.hH F;unfold BD Pw at o;refine iu c' (λi s e hs=>⟨_,_,rfl,?_⟩) (λM=>⟨_,_,rfl,?_⟩) ae
 .rw[af bV];subst e;rw[qu,kL hs]at o;dsimp only at o;refine aH.of λi' hJ=> ?_
  have jt:(id>1099511627776\/b.length>1000)->i' true H:=by
   intro hh;subst hJ;simp only[ba];simp only[hh,ba]at o;exact o H X (T.frame F (λ_ _ x=>x)) g'
  have jf: ¬(id>1099511627776\/b.length>1000)->i' false H:=by
   intro hh;subst hJ;simp only[aq,aL];simp only[hh,aL]at o;have S:=c'.ses i s hs;have oX:=ok.at_ i _ (kL hs);have kl:s.kept.length<=6:=by have:=oX.kl;rwa[show s.abs.kept.length=s.kept.length from ay _]at this
   have a': ∀c,aN s.kp c->c≠s.b:=λc g e=>by have H:=S.kl c g;rw[e,S.lb]at H;simp at H
   have M': ∀c,aN s.np c->c≠s.b:=λc g e=>by have H:=S.nl c g;rw[e,S.lb]at H;simp at H
   have s': ∀c,aN s.kp c->¬aN s.np c:=λc g u=>by have H:=S.kl c g;rw[S.nl c u]at H;simp at H
   have kS: ∀c,aN s.kp c->X.M c:=λc g=>(hS c).2 ⟨_,S.kl c g⟩
   have bS:X.M s.b:=(hS s.b).2 ⟨_,S.lb⟩;have o': ¬aN s.kp h.size:=λf=>by have:=(T.lt _ (.inl (kS _ f)));omega
   have G':h.size≠s.b:=λe=>by have:=T.lt _ (.inl bS);omega
   have kD: ∀c,X.D c->¬(c=s.b\/aN s.kp c):=λc g f=>f.elim (λe=>TB.ap c _ (e▸S.lb) g) (λf=>TB.ap c _ (S.kl c f) g)
   refine ax.2 ⟨_,_,_,ak S.cW,JB S.xE rfl ae e' o' λh4 o4 f4 E'=>⟨_,_,_,rfl,ax.2 ?_⟩⟩;have B':=f4.get S.cW (λf=>a' _ f rfl);refine bD B' bV λz k1 k2 k3=>ax.2 ?_
   have f5:Fr (λx=>x=s.b) h4 z:=Fr.of_eq k2 k3;have f':sg z h.size id:=f5.get E' G';have F5:Fr (λx=>x=s.b\/aN s.kp x) H z:=(f4.mono (λ_ _ f=> .inr f)).tt (f5.mono (λ_ _ f=> .inl f));have S':Row z p (bc b):=by
    by_cases hb:b= []
    .rw[hb];exact .inl rfl
    .refine(hr.frame F (λ_ _ x=>x)).frame F5 (λj e f=> ?_);have:=hp hb j.block ⟨j,e,rfl⟩;exact f.elim (λe=>this (e▸bS)) (λf=>this (kS _ f))
   refine⟨_,_,_,ak k1,_,ak f',gP S' rfl ae λP C r o6 V g6=>⟨_,_,_,rfl,ak (V.get f' (λx=>x)),ak (V.get k1 (λx=>x)),?_⟩⟩;refine cK ?_;have f7:Fr No r (r.push (.C #[.U (id:Int),.L P b.length C] 90)):=Fr.push _ _;have v':Row (r.push (.C #[.U (id:Int),.L P b.length C] 90)) (Sa r.size 0) (AV.enc ⟨id,⟨P,C,b⟩⟩):=iT (cs:=AV.enc ⟨id,⟨P,C,b⟩⟩);have U':(r.push (.C #[.U (id:Int),.L P b.length C] 90)).size=r.size+1:=dk _;generalize r.push (.C #[.U (id:Int),.L P b.length C] 90)=h7 at f7 v' U'⊢;have Z:=V.tt f7;have n':sg h7 h.size id:=Z.get f' (λx=>x);have q':=Z.get k1 (λx=>x);refine⟨ak n',ak q',?_⟩;have o5:=o4.frame f5 (λx f e=>a' x f e);have o7:=o5.frame Z (λ_ _ x=>x);have fl:=cP (λx:AV=>decide (x.id≠id)) s.kept;refine dH tA uA o7 v' rfl (λX' hv=>by simp at hv;rcases hv with rfl|rfl<;>rfl) ae ae ?_;intro p8 c8 h8 o8 _ I g8;have F':sg h8 h.size id:=I.get n' o';have H':=I.get q' (λf=>a' _ f rfl);refine⟨_,_,_,rfl,ak F',ax.2 ?_⟩;refine bD H' bV λv q1 q2 q3=>ax.2 ⟨_,_,_,ak q1,?_⟩
   have J:Fr (λx=>x=s.b) h8 v:=Fr.of_eq q2 q3;have z5:H.size<=z.size:=F5.1;have z6:=V.1;have z8:=I.1;have V':s.b<H.size:=aC S.cW;have r': ∀c,aN s.kp c->c<H.size:=λc g=>S.xE.dC g
   have t': ∀c,aN p8 c->aN s.kp c\/h7.size<=c:=g8;have L': ∀c,aN p8 c->c≠s.b:=λc g e=>(t' c g).elim (λf=>a' c f e) (λf=>ae)
   have o9:=o8.frame J (λx f e=>L' x f e);have F9:Fr (λx=>x=s.b\/aN s.kp x) H v:=F5.tt ((Z.mono (λ_ _=>False.elim)).tt ((I.mono (λ_ _ f=> .inr f)).tt (J.mono (λ_ _ f=> .inl f))));have q: ∀c,aN P c->z.size<=c/\c<r.size:=λc g=>⟨g6 c g,o6.dC g⟩
   have P':fz v P b.length C 1 (bc b):=((o6.frame f7 (λ_ _ x=>x)).frame I (λc g f=>gG (q c g) (r' c f))).frame J (λc g e=>bR (q c g));have x':(s.kept.filter (λx:AV=>decide (x.id≠id))).flatMap AV.enc++AV.enc ⟨id,⟨P,C,b⟩⟩=(s.kept.filter (λx:AV=>decide (x.id≠id))++ [(⟨id,⟨P,C,b⟩⟩:AV)]).flatMap AV.enc:=by rw[cg];simp
   rw[x']at o9;have I':(s.kept.filter (λx:AV=>decide (x.id≠id))++ [(⟨id,⟨P,C,b⟩⟩:AV)]).map AV.abs=s.abs.kept.filter (λj=>decide (j.1≠id))++ [(id,b)]:=by
    rw[aV,Kb];rfl
   have Q:(s.kept.filter (λx:AV=>decide (x.id≠id))++ [(⟨id,⟨P,C,b⟩⟩:AV)]).length=(s.kept.filter (λx:AV=>decide (x.id≠id))).length+1:=by rw[au];rfl
   have J': ∀j∈s.kept.filter (λx:AV=>decide (x.id≠id))++ [(⟨id,⟨P,C,b⟩⟩:AV)],j.v.ok v (λc=>X.D c\/aN P c):=by
    intro j ha;rcases bE.1 ha with ha|ha
    .exact((S.kd j (bj.1 ha).1).frame F9 kD).mono (λc=> .inl)
    .simp at ha;subst ha;exact BV.jy P' (λc=> .inr)
   generalize s.kept.filter (λx:AV=>decide (x.id≠id))++ [(⟨id,⟨P,C,b⟩⟩:AV)]=K at*;generalize (s.kept.filter (λx:AV=>decide (x.id≠id))).length=y' at*;refine aH.of λJ1 m'=> ?_
   have y: ∀(a:aj)(K':List AV)(G:ck)(O:Nat),(∃p',K'=K.drop p')->K'.map AV.abs=yC s.abs.kept id b->At a { s with kept:=K',kp:=G,kc:=O } ->fz a G K'.length O 2 (K'.flatMap AV.enc)->
     (∀c,aN G c->aN s.kp c\/h7.size<=c)->Fr (λx=>x=s.b) v a->J1 a:=by
    intro a K' G O ⟨p',hj⟩ hK A' D' d' w;subst m';have b':Fr (λx=>x=s.b\/aN s.kp x) H a:=F9.tt (w.mono (λ_ _ f=> .inl f));obtain⟨U,HH,st⟩:=c'.VD (s':= { s with kept:=K',kp:=G,kc:=O }) (E:=aN P) hS hs rfl b' (λc f=>f.elim (λe=>⟨_,e▸S.lb,ae,ae⟩) (λf=>⟨_,S.kl c f,ae,ae⟩)) A' D'
     (λc g=>(d' c g).imp (S.kl c) (λf=>ae)) (S.CK.frame b' (λc g f=>f.elim (M' c g) (λf=>s' c f g))) (λc g=> .inl (S.nl c g))
     (λc g u=>(d' c g).elim (λf=>s' c f u) (λf=>bR (S.CK.dC u)))
     (λc g=>⟨bR ((q c g).1),sU ((q c g).2) J.1 w.1,λf=>(d' c f).elim (λu=>gG (r' c u) (q c g)) (λu=>bR (q c g)),λf=>gG (S.CK.dC f) (q c g)⟩)
     (λj ha=>(J' j (by rw[hj]at ha;exact gr ha)).frame w (λc g e=>g.elim (λg=>kD c g (.inl e)) (λg=>bR (q c g))))
     (λn M=>((S.nd n M).frame b' kD).mono (λc=> .inl))
    refine o a U ?_ (g'.trans st);unfold ma;rw[show((i:Int)+1 - 1).toNat=i by omega];have:({ s with kept:=K',kp:=G,kc:=O } :SC).abs= { s.abs with kept:=yC s.abs.kept id b } :=by
     unfold SC.abs;dsimp only;rw[hK];rfl
    rw[this]at HH;exact HH
   clear m';unfold yC at y;rw[<-I',ay,Q]at y;by_cases l':((y'+1:Nat):Int)>6
   .simp only[l',bu,ba];rw[gk]at y;refine ax.2 ⟨_,_,_,ak q1,ae,?_⟩;rw[<-Q]at o9;have u':=o9.sub (l:=1) (u:=K.length) ae (bm _);rw[<-eO AV.enc 2 gQ K,dT,nj AV.enc 2 gQ]at u';refine Mz u'.iy (by rw[bT,<-Q];rfl) (by rw[bT];omega) λQ' w' z' O' j' k'=>⟨_,_,_,rfl,ax.2 ?_⟩
    have R':=j'.get q1 (λx=>x);refine bD R' bV λa r1 r2 r3=> ?_
    have w:Fr (λx=>x=s.b) z' a:=Fr.of_eq r2 r3;have z9:=J.1;refine y a (K.drop 1) Q' w' ⟨1,rfl⟩ List.map_drop ?_ (O'.frame w (λc g e=>bR (k' c g))) (λc g=> .inr (bR (k' c g))) ((j'.mono (λ_ _=>False.elim)).tt w);exact r1
   .simp only[l',bg,aq,aL];rw[dB]at y;refine y v K p8 c8 ⟨0,rfl⟩ rfl ?_ (by rw[Q];exact o9) t' (Fr.refl _ _);show v[s.b]? =_;rw[q1];dsimp only;rw[Q];rfl
  clear hJ;refine⟨_,ak e',?_⟩;by_cases c1:(id:Int)>1099511627776
  .simp only[c1,bu,ba];exact jt (.inl ae)
  .simp only[c1,bg,aq,aL];by_cases c2:(b.length:Int)>1000
   .simp only[c2,bu];exact jt (.inr ae)
   .simp only[c2,bg];exact jf ae
 .rw[ag (by rfl)];rw[lZ (by rw[ay];exact M)]at o;exact o H X (T.frame F (λ_ _ x=>x)) g'
theorem Rs(id:Nat)(o:k=(id:Int))(f:Has h t X A)(O:mH A)(u:Row h p (bc b))(q:n=b.length)(r:b≠ []->∀x,aN p x->¬X.M x)(j: ∀d e,Has d t e (BD A num id b)->bA X h e d->R (.I (Pw A num id b)) d):
  Cl 92 #[.P t 0,.I num,.U k,.L p n m] h R:=by
 obtain⟨B,f⟩:=f;exact PU id o f O u q r λd e g S=>j d e ⟨B,g⟩ S
theorem M6(x:List AV)(id:Nat):KU (x.map AV.abs) id=(x.find? (λe=>decide (e.id=id))).map (λe=>e.v.b):=by
 unfold KU;rw[List.find?_map,Option.map_map];rfl
theorem Rt(id:Nat)(e':k=(id:Int))(B:Has h t X A)(O:mH A)(o: ∀b,DT A num id=some b->∀d P C,fz d P b.length C 1 (bc b)->Fr No h d->(∀x,aN P x->h.size<=x)->R (.T #[.L P b.length C,.B true]) d)(K:DT A num id=none->iq h R (.T #[.Z,.B false])):
  Cl 88 #[.P t 0,.I num,.U k] h R:=by
 subst e';obtain⟨_,l,L,G,rfl,_,hS⟩:=B;have hl:=O.le;rw[ay]at hl;refine tC.walk (cK ?_);have F:Fr No h (h.push (.C #[.U (id:Int)] 23)):=Fr.push _ _;have I:sg (h.push (.C #[.U (id:Int)] 23)) h.size id:=bZ;generalize h.push (.C #[.U (id:Int)] 23)=H at F I⊢;have T:=G.on F;unfold DT at o K;refine iu T (λi s e q=>⟨_,_,rfl,?_⟩) (λhn=>⟨_,_,rfl,?_⟩) ae
 .rw[af bV];subst e;rw[qu,kL q]at o K;dsimp only at o K;rw[show s.abs.kept=s.kept.map AV.abs from rfl,M6]at o K;have S:=T.ses i s q;have oX:=O.at_ i _ (kL q);have kl:s.kept.length<=6:=by have:=oX.kl;rwa[show s.abs.kept.length=s.kept.length from ay _]at this
  refine ax.2 ⟨_,_,_,ak S.cW,JA S.xE.iy rfl ae I λV g=>⟨_,rfl,?_⟩⟩;unfold y9;cases u:s.kept.findIdx? (λf=>decide (f.id=id))with
  |none=>
   rw[ag (by rfl)];have:s.kept.find? (λf=>decide (f.id=id))=none:=by
    rw[List.find?_eq_none];intro f ha;have:=dy.1 u f ha;simpa using this
   rw[this]at K;exact K rfl V (F.tt g)
  |some j=>
   dsimp only;obtain⟨v,d',c'⟩:=cJ.1 u;rw[dB];have r:s.kept[j]? =some s.kept[j]:=ai v;have b':s.kept.find? (λf=>decide (f.id=id))=some s.kept[j]:=by
    rw[fO];exact⟨d',j,v,rfl,λi hi=>by have:=c' i hi;simpa using this⟩
   rw[b']at o;have a':=g.get S.cW (λx=>x);have y:=S.xE.frame g (λ_ _ x=>x);have J:=S.kd _ (aK r);have g':s.kept[j].v.b.length<=1000:=(oX.kd (AV.abs s.kept[j]) (bz (aK r))).2;generalize s.kept[j]=f at*;obtain⟨ab,f',w⟩:=y.addr ae;have z:=y;rw[w]at z;have hh:=z.fP gQ r;refine ax.2 ⟨_,_,_,ak a',ae,?_⟩;rw[w];refine ax.2 ⟨f.v.p,f.v.b.length,f.v.c,?_,?_⟩
   .rw[aF];exact hh.2.1
   refine gP (J.row.frame g (λ_ _ x=>x)) rfl ae λp4 M Z o4 Q U=>⟨_,_,_,rfl,?_⟩
   exact o f.v.b rfl Z p4 M o4 (F.tt (g.tt Q)) (λx hx=>gG (U x hx) ((F.tt g).1))
 .rw[ag (by rfl)];rw[lZ (by rw[ay];exact hn)]at K;exact K rfl H F
theorem M7(g:n=b.length)(e:R (.B (sP b)) h):Cl 275 #[.L p n m] h R:=by
 subst g;refine y8.walk ?_;unfold sP at e;by_cases H:(b.length:Int)≥1
 .by_cases f:(b.length:Int)<=600
  .simpa[H,f,show 1<=b.length by omega,show b.length<=600 by omega]using e
  .simpa[H,f,show 1<=b.length by omega,show¬b.length<=600 by omega]using e
 .simpa[H,show¬1<=b.length by omega]using e
theorem oD.VH(T:oD H t l X.D L)(B: ∀c,X.M c↔ ∃r,l c=some r)(y:L[i]? =some s)(F:At a { s with notes:=K',np:=np',nc:=nc' })(I:fz a np' K'.length nc' 1 (K'.flatMap jn))(w: ∀c,aN np' c->aN s.np c\/H.size<=c)(f:Fr (λx=>x=s.b\/aN s.np x) H a)(v: ∀c,E c->l c=none/\c<a.size/\¬aN np' c)(G: ∀n∈K',n.ok a (λc=>X.D c\/E c)):
  ∃o,tH a t o ((L.map SC.abs).set i { s.abs with notes:=K'.map BV.b }) (L.map SC.b)/\Fr X.M H a/\(∀c,o.M c->X.M c\/H.size<=c)/\(∀c,o.D c->X.D c\/E c)/\∀c,X.D c->o.D c:=by
 have S:=T.ses i s y;have J: ∀c,aN s.kp c->c≠s.b:=λc g e=>by have H:=S.kl c g;rw[e,S.lb]at H;simp at H
 have z: ∀c,aN s.kp c->¬aN s.np c:=λc g u=>by have H:=S.kl c g;rw[S.nl c u]at H;simp at H
 have K: ∀c,X.D c->¬(c=s.b\/aN s.np c):=λc g j=>j.elim (λe=>T.ap c _ (e▸S.lb) g) (λj=>T.ap c _ (S.nl c j) g)
 exact T.Uf (s':= { s with notes:=K',np:=np',nc:=nc' }) (E:=E) B y rfl f (λc j=>j.elim (λe=>⟨_,e▸S.lb,ae,ae⟩) (λj=>⟨_,S.nl c j,ae,ae⟩)) F
  (S.xE.frame f (λc g j=>j.elim (J c g) (z c g))) (λc g=> .inl (S.kl c g)) I (λc g=>(w c g).imp (S.nl c) id)
  (λc u g=>(w c g).elim (λj=>z c u j) (λj=>bR (S.xE.dC u)))
  (λc g=>⟨(v c g).1,(v c g).2.1,(λj=>by have q:=S.kl c j;rw[(v c g).1]at q;cases q),(v c g).2.2⟩)
  (λq C=>((S.kd q C).frame f K).mono (λc=> .inl)) G
theorem oD.notes(T:oD H t l X.D L)(B: ∀c,X.M c↔ ∃r,l c=some r)(w:L[i]? =some s)(F:At a { s with notes:=K',np:=np',nc:=nc' })(I:fz a np' K'.length nc' 1 (K'.flatMap jn))(v: ∀c,aN np' c->aN s.np c\/H.size<=c)(f:Fr (λx=>x=s.b\/aN s.np x) H a)(q: ∀c,E c->H.size<=c/\c<a.size/\¬aN np' c)(G: ∀n∈K',n.ok a (λc=>X.D c\/E c)):
  ∃u,tH a t u ((L.map SC.abs).set i { s.abs with notes:=K'.map BV.b }) (L.map SC.b)/\bA X H u a:=by
 have S:=T.ses i s w;have J: ∀c,aN s.kp c->c≠s.b:=λc g e=>by have H:=S.kl c g;rw[e,S.lb]at H;simp at H
 have y: ∀c,aN s.kp c->¬aN s.np c:=λc g o=>by have H:=S.kl c g;rw[S.nl c o]at H;simp at H
 have K: ∀c,X.D c->¬(c=s.b\/aN s.np c):=λc g j=>j.elim (λe=>T.ap c _ (e▸S.lb) g) (λj=>T.ap c _ (S.nl c j) g)
 exact T.VD (s':= { s with notes:=K',np:=np',nc:=nc' }) (E:=E) B w rfl f (λc j=>j.elim (λe=>⟨_,e▸S.lb,ae,ae⟩) (λj=>⟨_,S.nl c j,ae,ae⟩)) F
  (S.xE.frame f (λc g j=>j.elim (J c g) (y c g))) (λc g=> .inl (S.kl c g)) I (λc g=>(v c g).imp (S.nl c) id)
  (λc o g=>(v c g).elim (λj=>y c o j) (λj=>bR (S.xE.dC o)))
  (λc g=>⟨(q c g).1,(q c g).2.1,λj=>gG (S.xE.dC j) ((q c g).1),(q c g).2.2⟩)
  (λz C=>((S.kd z C).frame f K).mono (λc=> .inl)) G
theorem FB(a':Has h t X A)(ok:mH A)(hr:Row h p (bc b))(V:n=b.length)(hb:b.length<=1000000)(j: ∀d y,Has d t y (BE A num b)->bA X h y d->R (.I (DU A num b)) d):
  Cl 214 #[.P t 0,.I num,.L p n m] h R:=by
 subst V;have I:=a';obtain⟨_,l,L,T,rfl,_,hS⟩:=a';have hl:=ok.le;rw[ay]at hl;unfold BE DU at j;refine tD.walk (iu T (λi s e G=>⟨_,_,rfl,?_⟩) (λV=>⟨_,_,rfl,?_⟩) ae)
 .rw[af bV];subst e;rw[qu,kL G]at j;dsimp only at j;refine M7 rfl ⟨_,rfl,?_⟩;have S:=T.ses i s G;have oX:=ok.at_ i _ (kL G);have nl:s.notes.length<=6:=by have:=oX.nl;rwa[show s.abs.notes.length=s.notes.length from ay _]at this
  cases f':sP b with
  |false=>
   simp only[f',aq,aL,false_and]at j;simp only[dS,ba];exact j h X I (bA.refl _ _)
  |true=>
   simp only[f',ba,true_and]at j;simp only[cU,aq,aL];refine ax.2 ⟨_,ak S.cW,?_⟩;cases hw:s.watch with
   |false=>
    have:s.abs.watch=false:=hw;simp only[this,aq,aL]at j;simp only[dS,ba];exact j h X I (bA.refl _ _)
   |true=>
    have h':s.abs.watch=true:=hw;rw[ag h',ag h']at j;simp only[cU,aq,aL];have k': ∀c,aN s.np c->c≠s.b:=λc f e=>by have H:=S.nl c f;rw[e,S.lb]at H;simp at H
    have A':s.b<h.size:=aC S.cW;have j': ∀c,aN s.np c->c<h.size:=λc f=>S.CK.dC f
    refine ax.2 ⟨_,_,_,ak S.cW,gP hr rfl ae λP C o o3 J g3=>⟨_,_,_,rfl,ak (J.get S.cW id),cK ?_⟩⟩;have U:Fr No o (o.push (.C #[.L P b.length C] 26)):=Fr.push _ _;have m':Row (o.push (.C #[.L P b.length C] 26)) (Sa o.size 0) (jn ⟨P,C,b⟩):=iT (cs:=jn ⟨P,C,b⟩);have z':(o.push (.C #[.L P b.length C] 26)).size=o.size+1:=dk _;generalize o.push (.C #[.L P b.length C] 26)=h4 at U m' z'⊢;have M:=J.tt U;have k4:=M.get S.cW id;refine⟨ak k4,?_⟩;refine dH tN uN (S.CK.frame M bX) m' rfl (λB' hv=>by simp at hv;subst hv;rfl) ae ae ?_;intro p5 c5 h5 o5 _ z g5;refine⟨_,_,_,rfl,ax.2 ?_⟩;have k5:=z.get k4 (λg=>k' _ g rfl);refine bD k5 bV λq Q q2 q3=>ax.2 ⟨_,_,_,ak Q,?_⟩
    have v:Fr (λx=>x=s.b) h5 q:=Fr.of_eq q2 q3;have z3:=J.1;have z5:=z.1;have u': ∀c,aN p5 c->c≠s.b:=λc f e=>(g5 c f).elim (λg=>k' c g e) (λg=>ae)
    have O:=o5.frame v (λx g e=>u' x g e);have Z:Fr (λx=>x=s.b\/aN s.np x) h q:=(M.mono (λ_ _=>False.elim)).tt ((z.mono (λ_ _ g=> .inr g)).tt (v.mono (λ_ _ g=> .inl g)));have kD: ∀c,X.D c->¬(c=s.b\/aN s.np c):=λc f g=>g.elim (λe=>T.ap c _ (e▸S.lb) f) (λg=>T.ap c _ (S.nl c g) f)
    have B: ∀c,aN P c->h.size<=c/\c<o.size:=λc f=>⟨g3 c f,o3.dC f⟩
    have w':fz q P b.length C 1 (bc b):=((o3.frame U bX).frame z (λc f g=>gG (B c f) (j' c g))).frame v (λc f e=>bR (B c f));have o':s.notes.flatMap jn++jn ⟨P,C,b⟩=(s.notes++ [(⟨P,C,b⟩:BV)]).flatMap jn:=by rw[cg];simp
    rw[o']at O;have s':(s.notes++ [(⟨P,C,b⟩:BV)]).map BV.b=s.abs.notes++ [b]:=by rw[aV];rfl
    have w:(s.notes++ [(⟨P,C,b⟩:BV)]).length=s.notes.length+1:=by rw[au];rfl
    have t': ∀u∈s.notes++ [(⟨P,C,b⟩:BV)],u.ok q (λc=>X.D c\/aN P c):=by
     intro u ha;rcases bE.1 ha with ha|ha
     .exact((S.nd u ha).frame Z kD).mono (λc=> .inl)
     .simp at ha;subst ha;exact BV.jy w' (λc=> .inr)
    generalize s.notes++ [(⟨P,C,b⟩:BV)]=K at*;refine aH.of λJ1 e'=> ?_
    have r: ∀(a:aj)(K':List BV)(np':ck)(nc':Nat),(∃i',K'=K.drop i')->K'.map BV.b=DV s.abs.notes b->At a { s with notes:=K',np:=np',nc:=nc' } ->fz a np' K'.length nc' 1 (K'.flatMap jn)->
      (∀c,aN np' c->aN s.np c\/h4.size<=c)->Fr (λx=>x=s.b) q a->J1 a:=by
     intro a K' np' nc' ⟨i',hj⟩ hK q' r' g' F;subst e';obtain⟨y,HH,st⟩:=T.notes (E:=aN P) hS G q' r' (λc f=>(g' c f).imp (λh=>h) (λg=>ae)) (Z.tt (F.mono (λ_ _ g=> .inl g)))
      (λc f=>⟨(B c f).1,sU ((B c f).2) v.1 F.1,λg=>(g' c g).elim (λh2=>gG (j' c h2) (B c f)) (λh2=>bR (B c f))⟩)
      (λu ha=>(t' u (by rw[hj]at ha;exact gr ha)).frame F (λc f e=>f.elim (λf=>kD c f (.inl e)) (λf=>bR (B c f))))
     refine j a y ?_ st;unfold ma;rw[show((i:Int)+1 - 1).toNat=i by omega];rw[hK]at HH;exact⟨_,HH⟩
    clear e';unfold DV at r;rw[<-s',ay,w]at r;by_cases d':((s.notes.length+1:Nat):Int)>6
    .simp only[d',bu,ba];rw[gk]at r;refine ax.2 ⟨_,_,_,ak Q,ae,?_⟩;rw[<-w]at O;have l':=O.sub (l:=1) (u:=K.length) ae (bm _);rw[<-eO jn 1 jH K,dT,nj jn 1 jH]at l';refine DQ l'.iy (by rw[bT,<-w];rfl) (by rw[bT];omega) λx' n' p' v' b' c'=>⟨_,_,_,rfl,ax.2 ?_⟩
     have y':=b'.get Q id;refine bD y' bV λa r1 r2 r3=> ?_
     have F:Fr (λx=>x=s.b) p' a:=Fr.of_eq r2 r3;have z6:=v.1;refine r a (K.drop 1) x' n' ⟨1,rfl⟩ List.map_drop ?_ (v'.frame F (λc f e=>bR (c' c f))) (λc f=> .inr (bR (c' c f))) ((b'.mono (λ_ _=>False.elim)).tt F);exact r1
    .simp only[d',bg,aq,aL];rw[dB]at r;refine r q K p5 c5 ⟨0,rfl⟩ rfl ?_ (by rw[w];exact O) g5 (Fr.refl _ _);show q[s.b]? =_;rw[Q];dsimp only;rw[w];rfl
 .rw[ag (by rfl)];rw[lZ (by rw[ay];exact V)]at j;exact j h X I (bA.refl _ _)
theorem vT(J:Has h t X A)(ok:mH A)(f: ∀d j p' M,Has d t j (DX A num)->bA X h j d->BV.ok d j.D ⟨p',M,DW A num⟩->R (.T #[.slice p' (DW A num).length M,.I (KV A num),.I (Px A num)]) d):
  Cl 206 #[.P t 0,.I num] h R:=by
 have K:=J;obtain⟨_,l,L,T,rfl,_,hS⟩:=J;have hl:=ok.le;rw[ay]at hl;unfold DX DW KV Px at f;refine tF.walk (iu T (λi s e w=>⟨_,_,rfl,aH.of λb' y=> ?_⟩) (λq=>⟨_,_,rfl,aH.of λb' y=> ?_⟩) ae)
 .rw[ag (by rfl)];subst e;rw[qu,kL w]at f;dsimp only at f;have S:=T.ses i s w;have oX:=ok.at_ i _ (kL w);have Z:s.notes.length<=6:=by have:=oX.nl;rwa[show s.abs.notes.length=s.notes.length from ay _]at this
  refine ax.2 ⟨_,_,_,ak S.cW,?_⟩;subst y;dsimp only;have d':s.abs.notes=s.notes.map BV.b:=rfl;have oW: ∀G:fw,ma (L.map SC.abs) ((i:Int)+1) G=(L.map SC.abs).set i G:=λG=>by unfold ma;rw[show((i:Int)+1 - 1).toNat=i by omega]
  rw[oW,d',ay]at f;cases v:s.notes with
  |nil=>
   rw[v]at f;rw[ag (by rfl)];have e':(L.map SC.abs).set i { s.abs with notes:= [] } =L.map SC.abs:=by
    refine wg ?_;rw[kL w];congr 1
    unfold SC.abs;rw[v];rfl
   refine f h X none 0 ?_ (bA.refl _ _) ⟨.inl rfl,λu=>absurd rfl u,bV⟩;have:(List.drop 1 (List.map BV.b []))=([]:List (cM)):=rfl;rw[this,e'];exact K
  |cons x r=>
   have u:((((x::r).length:Nat):Int)==0)=false:=by simp only[bf,dA,ff];omega
   rw[af (by rw[u];simp)];have h': ∀c,aN s.np c->c≠s.b:=λc g e=>by have H:=S.nl c g;rw[e,S.lb]at H;simp at H
   have O:=S.CK;have U:=S.cW;rw[v]at O f Z;have z:h[s.b]? =some (.C #[.I (s.num:Int),.U (s.token:Int),.B s.up,.B s.watch,.L s.kp s.kept.length s.kc,.slice s.np (x::r).length s.nc] 55 (0,0)):=by
    have:At h s:=U;unfold At cG.at at this;rwa[v]at this
   obtain⟨ab,c',B⟩:=O.addr bV;have C:=O;rw[B]at C;have f':=C.fP jH (i:=0) (x:=x) rfl;refine ax.2 ⟨_,_,_,ak z,⟨ae,by simp only[bf];omega⟩,?_⟩;rw[B];refine ax.2 ⟨x.p,x.b.length,x.c,?_,ax.2 ⟨some (AA ab c'),(x::r).length,s.nc,?_,⟨ae,by simp only[bf];omega⟩,?_⟩⟩
   .have:=f'.1;rw[Nat.zero_mul,eX,eX]at this;rw[show Int.toNat 0*1=0 from rfl,eX];exact this
   .rw[<-B];exact ak z
   have a':=C.sub (l:=1) (u:=(x::r).length) bV (bm _);rw[<-eO jn 1 jH (x::r),dT,nj jn 1 jH]at a';refine DQ (xs:=r) a'.iy bV (by simp only[bf]at Z;omega) λp3 c3 h3 o3 F Q=>⟨_,_,_,rfl,ax.2 ?_⟩
   have q3:=F.get z id;refine bD q3 bV λo r1 r2 r3=> ?_
   have P:Fr (λx=>x=s.b) h3 o:=Fr.of_eq r2 r3;have i':s.b<h.size:=aC U;have z3:=F.1;have I:Fr (λx=>x=s.b) h o:=(F.mono (λ_ _=>False.elim)).tt P;have kD: ∀c,X.D c->c≠s.b:=λc g e=>T.ap c _ (e▸S.lb) g
   have V: ∀n∈x::r,n.ok o X.D:=λn q=>(S.nd n (by rw[v];exact q)).frame I kD
   obtain⟨j,HH,st⟩:=T.notes (K':=r) (np':=p3) (nc':=c3) (E:=λ_=>False) hS w r1 (o3.frame P (λc g e=>bR (Q c g))) (λc g=> .inr (Q c g)) (I.mono (λ_ _ hx=> .inl hx)) (λc g=>g.elim) (λn q=>(V n (cv _ q)).mono (λc=> .inl));have g':BV.ok o j.D x:=(V x dj).mono st.mQ;exact f o j x.p x.c ⟨_,HH⟩ st g'
 .rw[af bV];subst y;dsimp only;rw[lZ (by rw[ay];exact q)]at f;rw[ag (by rfl)];exact f h X none 0 K (bA.refl _ _) ⟨.inl rfl,λu=>absurd rfl u,bV⟩

end fw
end
section
variable {h:aj} {R:fD}
variable {t:Nat}
theorem u9.walk(hv:Hl h t 1 λn' P _=> ∃(I:ck->Nat->Nat->Int->aj->Prop)(M:ck->Nat->Nat->Int->aj->Nat),I none 0 0 0 h/\∀(i:ck)(O o:Nat)(T:Int)(e:aj),I i O o T e->if(decide (T<(P:Int)))then Bd T P/\aM n' λa=>zM e (a.add (toNat T*1)) λp=>aM p λZ=>cG.LD e Z λo' p' q' r' u' t' s' x' w' v'=>bh e (.C #[.I 0,.U 0,.B false,.B false,.Z,.Z] 55) λb j'=>cG.ST j' (AA b 0) o' p' q' r' u' t' s' x' w' v' λk'=>aT k' (AA b 4) (.Z) λl'=>aT l' (AA b 5) (.Z) λJ=>aM p λa'=>mJ J (a'.add 4) λy' Q _=> ∃(k:Int->aj->Prop)(K:Int->aj->Nat),k 0 J/\∀(c:Int)(f:aj),k c f->if(decide (c<(Q:Int)))then Bd c Q/\aM y' λb'=>cj.LD f (b'.add (toNat c*2)) λz' C' B' A'=>bh f (.C #[.U 0,.Z] 90) λB m'=>cj.ST m' (AA B 0) z' C' B' A' λg=>Hl g b 4 λs r q=>Hu g B 0 λj=>Hl g B 1 λF' E' D'=>Cl 27 #[.L F' E' D'] g λa6 n=>Vl a6 λI' H' G'=>Cc n B 0 (.U j)/\Cc n b 4 (.L s r q)/\bh n (.C #[.U j,.L I' H' G'] 90) λe' m=>Cc m B 0 (.U j)/\Cc m b 4 (.L s r q)/\aW Tryz.prog (Builtin.append_ #[52,52] 52 #[.L s r q,.L (Sa e' 0) 1 1]) m λa7 A=>Vl a7 λL' K' J'=>Cc A B 0 (.U j)/\aT A (AA b 4) (.L L' K' J') λC=>(k (wrap .i64 (c+1)) C/\K (wrap .i64 (c+1)) C<K c f)else aM p λc'=>mJ f (c'.add 5) λM' S _=> ∃(l:Int->aj->Prop)(L:Int->aj->Nat),l 0 f/\∀(d:Int)(H:aj),l d H->if(decide (d<(S:Int)))then Bd d S/\aM M' λd'=>mJ H (d'.add (toNat d*1)) λQ' P' O'=>Hl H b 5 λw v u=>Cl 27 #[.L Q' P' O'] H λa8 D=>Vl a8 λT' S' R'=>Cc D b 5 (.L w v u)/\bh D (.C #[.L T' S' R'] 26) λf' E=>Cc E b 5 (.L w v u)/\aW Tryz.prog (Builtin.append_ #[53,53] 53 #[.L w v u,.L (Sa f' 0) 1 1]) E λa9 h'=> ∃X V U,a9=.L X V U/\aT h' (AA b 5) (.L X V U) λF=>(l (wrap .i64 (d+1)) F/\L (wrap .i64 (d+1)) F<L d H)else cG.LD H (AA b 0) λU' V' X' Z' a2 a1 a0 a5 a4 a3=>bh H (.C #[.I U',.U V',.B X',.B Z',.L a2 a1 a0,.L a5 a4 a3] 55) λg' i'=>aW Tryz.prog (Builtin.append_ #[50,50] 50 #[.L i O o,.L (Sa g' 0) 1 1]) i' λb0 G=> ∃z y x,b0=.L z y x/\(I z y x (wrap .i64 (T+1)) G/\M z y x (wrap .i64 (T+1)) G<M i O o T e)else R (.L i O o) e):Cl 9 #[.P t 0] h R:=aP (lq (lq (sq (lq (cq ll lf)) (sq (lq (bq (.loop [(3,.one (.slice)),(18,.one (.int .i64))] (lq (sq (cq lf lf) (sq (bq (lq (lq (lq (sq (lq (bq (.loop [(32,.one (.int .i64))] (lq (sq (cq lf lf) (sq (bq (lq (pN 12))) lf)))))) (sq (lq (bq (.loop [(53,.one (.int .i64))] (lq (sq (cq lf lf) (sq (bq (lq (pN 8))) lf)))))) lf)))))) lf)))))) ll)))) Tryz.func9 hv
theorem tM.walk(hv:Cl 9 #[.P t 0] h λc6 v'=>Vl c6 λF' k' _=> ∃(I:ck->Nat->Nat->Int->aj->Prop)(mu:ck->Nat->Nat->Int->aj->Nat),I none 0 0 0 v'/\∀(A:ck)(y w:Nat)(i:Int)(o:aj),I A y w i o->if(decide (i<(k':Int)))then Bd i k'/\aM F' λp'=>cG.LD o (p'.add (toNat i*6)) λG' H' I' J' M' L' K' Q' P' O'=>bh o (.C #[.I 0,.U 0,.B false,.B false,.Z,.Z] 55) λb E'=>cG.ST E' (AA b 0) G' H' I' J' M' L' K' Q' P' O' λH=>Hi H b 0 λl'=>Hu H b 1 λS=>Hb H b 2 λD=>Hb H b 3 λs=>Hl H b 4 λd T c=>Hl H b 5 λf a e=>Cl 35 #[] H λc7 g=>Vp c7 λR'=>Cc g b 5 (.L f a e)/\Cc g b 4 (.L d T c)/\Cc g b 3 (.B s)/\Cc g b 2 (.B D)/\Cc g b 1 (.U S)/\Cc g b 0 (.I l')/\Cl 38 #[.pointer R',.I l'] g λd7 n=>Vp d7 λS'=>Cc n b 5 (.L f a e)/\Cc n b 4 (.L d T c)/\Cc n b 3 (.B s)/\Cc n b 2 (.B D)/\Cc n b 1 (.U S)/\Cl 37 #[.pointer S',.U S] n λd8 p=>Vp d8 λT'=>Cc p b 5 (.L f a e)/\Cc p b 4 (.L d T c)/\Cc p b 3 (.B s)/\Cc p b 2 (.B D)/\Cl 60 #[.pointer T',.B D] p λd9 v=>Vp d9 λU'=>Cc v b 5 (.L f a e)/\Cc v b 4 (.L d T c)/\Cc v b 3 (.B s)/\Cl 60 #[.pointer U',.B s] v λe0 Q=>Vp e0 λV'=>Cc Q b 5 (.L f a e)/\Cc Q b 4 (.L d T c)/\Cl 38 #[.pointer V',.I (T:Int)] Q λe1 G=>Vp e1 λX'=>Cc G b 5 (.L f a e)/\Cc G b 4 (.L d T c)/\Cl 38 #[.pointer X',.I (a:Int)] G λe2 J=>Vp e2 λZ'=>Cc J b 5 (.L f a e)/\Cc J b 4 (.L d T c)/\Cl 39 #[.pointer Z'] J λe3 K=>Vl e3 λa2 a1 a0=>Cc K b 5 (.L f a e)/\Cc K b 4 (.L d T c)/\bh K (.C #[.L a2 a1 a0] 26) λs' L=>Cc L b 5 (.L f a e)/\Cc L b 4 (.L d T c)/\aW Tryz.prog (Builtin.append_ #[53,53] 53 #[.L A y w,.L (Sa s' 0) 1 1]) L λe4 u=>Vl e4 λa5 a4 a3=>Cc u b 5 (.L f a e)/\Cc u b 4 (.L d T c)/\Hl u b 4 λa6 m' _=> ∃(E:ck->Nat->Nat->Int->aj->Prop)(i':ck->Nat->Nat->Int->aj->Nat),E a5 a4 a3 0 u/\∀(C:ck)(z x:Nat)(j:Int)(l:aj),E C z x j l->if(decide (j<(m':Int)))then Bd j m'/\aM a6 λq'=>cj.LD l (q'.add (toNat j*2)) λa7 b0 a9 a8=>bh l (.C #[.U 0,.Z] 90) λB w'=>cj.ST w' (AA B 0) a7 b0 a9 a8 λM=>Hu M B 0 λn'=>Hl M B 1 λX V U=>Cl 35 #[] M λc8 P=>Vp c8 λb1=>Cc P B 1 (.L X V U)/\Cc P B 0 (.U n')/\Cl 37 #[.pointer b1,.U n'] P λc9 f'=>Vp c9 λb2=>Cc f' B 1 (.L X V U)/\Cl 36 #[.pointer b2,.L X V U] f' λd0 x'=>Vp d0 λb3=>Cl 39 #[.pointer b3] x' λd1 y'=>Vl d1 λb6 b5 b4=>bh y' (.C #[.L b6 b5 b4] 26) λt' z'=>aW Tryz.prog (Builtin.append_ #[53,53] 53 #[.L C z x,.L (Sa t' 0) 1 1]) z' λd2 g'=> ∃b' a' Z,d2=.L b' a' Z/\(E b' a' Z (wrap .i64 (j+1)) g'/\i' b' a' Z (wrap .i64 (j+1)) g'<i' C z x j l)else Hl l b 5 λb7 o' _=> ∃(F:ck->Nat->Nat->Int->aj->Prop)(j':ck->Nat->Nat->Int->aj->Nat),F C z x 0 l/\∀(r:ck)(q O:Nat)(k:Int)(m:aj),F r q O k m->if(decide (k<(o':Int)))then Bd k o'/\aM b7 λr'=>mJ m (r'.add (toNat k*1)) λc0 b9 b8=>Cl 35 #[] m λd3 A'=>Vp d3 λc1=>Cl 36 #[.pointer c1,.L c0 b9 b8] A' λd4 B'=>Vp d4 λc2=>Cl 39 #[.pointer c2] B' λd5 C'=>Vl d5 λc5 c4 c3=>bh C' (.C #[.L c5 c4 c3] 26) λu' D'=>aW Tryz.prog (Builtin.append_ #[53,53] 53 #[.L r q O,.L (Sa u' 0) 1 1]) D' λd6 h'=> ∃e' d' c',d6=.L e' d' c'/\(F e' d' c' (wrap .i64 (k+1)) h'/\j' e' d' c' (wrap .i64 (k+1)) h'<j' r q O k m)else(I r q O (wrap .i64 (i+1)) m/\mu r q O (wrap .i64 (i+1)) m<mu A y w i o)else R (.L A y w) o):Cl 31 #[.P t 0] h R:=aP (lq (lq (sq (lq (bq (.loop [(3,.one (.slice)),(13,.one (.int .i64))] (lq (sq (cq lf lf) (sq (bq (lq (sq (.lK (.op 0 (.op 2 (.op 3 (.op 5 (.op 6 (.op 8 (.op 9 (.op 11 (.op 12 (.op 14 (.op 15 (.op 16 (.op 18 (.op 19 (.op 20 (.op 1 (.op 4 (.op 7 (.op 10 (.op 13 (.op 17 (.op 21 (.op 22 (.op 23 (.op 24 (.op 25 .done))))))))))))))))))))))))))) (sq (lq (bq (.loop [(3,.one (.slice)),(45,.one (.int .i64))] (lq (sq (cq lf lf) (sq (bq (lq (.lK (.op 0 (.op 2 (.op 3 (.op 5 (.op 6 (.op 1 (.op 4 (.op 7 (.op 8 (.op 9 (.op 10 (.op 11 .done))))))))))))))) lf)))))) (lq (bq (.loop [(3,.one (.slice)),(64,.one (.int .i64))] (lq (sq (cq lf lf) (sq (bq ll) lf)))))))))) lf)))))) ll))) Tryz.func31 hv

end
end Go.Proofs.YtimiaphmdidfhaaGreatDoor
