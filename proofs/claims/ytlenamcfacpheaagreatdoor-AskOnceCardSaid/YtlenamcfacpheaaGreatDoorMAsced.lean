/-
  Ei is proved here: parts of xi proof, one behind xi other (texts of this work, merged by a program; GH xi theorem GI not use is left out). No condition.
-/
import Derived.Test.YtlenamcfacpheaaGreatDoorProg
import Derived.Shelf.SortM.Plain
import Derived.Shelf.SortM.SortNone
import Derived.Ground.SlgmProg
import Derived.Shelf.Strconv.Itoa4
import Derived.Ground.NamesProg
import Derived.Test.YtlenamcfacpheaaGreatDoorMAscec
set_option maxRecDepth 100000
set_option maxHeartbeats 4000000
namespace Go.Proofs.YtlenamcfacpheaaGreatDoor
open Go.Den
open IntKind (wrap)
open Int (toNat)
section
namespace gj
open iY
variable {h h':ak} {R:fG} {b:Nat} {X:Ft}
structure Rg where
 e:Ev
 jS:Int
 own:Int
abbrev Rg.zero:Rg:=⟨.zero,0,0⟩
abbrev Rg.val(r:Rg):Value:=.agg #[.bool r.e.jT,.int .u64 r.e.node,.int .u64 r.e.gr,.string r.e.host,.string r.e.jv,.int .i64 r.jS,.int .i64 r.own]
abbrev Rg.at(h:ak)(b:Nat)(r:Rg):Prop:=bD.at h b r.e.jT r.e.node r.e.gr r.e.host r.e.jv r.jS r.own
abbrev vA(r:Rg):List Value:= [.bool r.e.jT,.int .u64 r.e.node,.int .u64 r.e.gr,.string r.e.host,.string r.e.jv,.int .i64 r.jS,.int .i64 r.own]
theorem mU(r:Rg):(vA r).length=7:=rfl
abbrev Rg.pair(r:Rg):Ev×Value:=(r.e,r.val)
abbrev kk(x y:Rg):Prop:=kI x.e y.e=true
theorem nO:oE Tryz.prog 170 kO Rg.zero.val:=oE.of 29 136 cZ key cZ
structure L4 (h:ak) (b:Nat) (X:Ft) (L:List Rg) (m:Nat):Prop where
 cX:h[b]? =some (.cells #[.map (some m)] 172 (0,0))
 map:jB h m kO (L.map Rg.pair)
 fm: ∀c,X.M c↔c=b\/c=m
 d: ∀c,¬X.D c
 ne:b≠m
 so:L.Pairwise kk
def Tb(h:ak)(b:Nat)(X:Ft)(L:List Rg):Prop:= ∃m,L4 h b X L m
variable {L : List Rg} {m : Nat}
theorem L4.frame{Q:Nat->Prop}(H:L4 h b X L m)(f:Fr Q h h')(a: ∀y,X.M y\/X.D y->¬Q y):L4 h' b X L m:=
 ⟨f.get H.cX (a b (.inl ((H.fm b).2 (.inl rfl)))),H.map.frame f (a m (.inl ((H.fm m).2 (.inr rfl)))),H.fm,H.d,H.ne,H.so⟩
theorem L4.on(H:L4 h b X L m)(f:Fr No h h'):L4 h' b X L m:=H.frame f cb
theorem Tb.frame{Q:Nat->Prop}(H:Tb h b X L)(f:Fr Q h h')(a: ∀y,X.M y\/X.D y->¬Q y):Tb h' b X L:=by
 obtain⟨m,H⟩:=H;exact⟨m,H.frame f a⟩
theorem Tb.on(H:Tb h b X L)(f:Fr No h h'):Tb h' b X L:=H.frame f cb
theorem Tb.lt(H:Tb h b X L)(y:Nat)(hy:X.M y\/X.D y):y<h.size:=by
 obtain⟨m,H⟩:=H;rcases hy with hy|hy
 .rcases(H.fm y).1 hy with rfl|rfl
  .exact aE H.cX
  .exact H.map.lt
 .exact absurd hy (H.d y)
def jA(L:List Rg)(x:Ev):Option Rg:=L.find? (λr=>decide (r.e=x))
theorem Hv{x:Ev}{r:Rg}(h:jA L x=some r):r∈L/\r.e=x:=⟨eX h,cH (List.find?_some h)⟩
theorem Hw{x:Ev}:jA L x=none↔ ∀r∈L,r.e≠x:=by unfold jA;simp
theorem KT(L:List Rg)(x:Ev):sh (L.map Rg.pair) x=(jA L x).map Rg.val:=by
 unfold sh jA;rw[List.find?_map];cases h:L.find? ((λe:Ev×Value=>decide (e.1=x)) ∘ Rg.pair)with
 |none=>have:L.find? (λr=>decide (r.e=x))=none:=h;rw[this];rfl
 |some r=>have:L.find? (λr=>decide (r.e=x))=some r:=h;rw[this];rfl
def Bs(r:Rg):List Rg->List Rg
 | []=> [r]
 |x::l=>if kI x.e r.e=true then x::Bs r l else r::x::l
theorem r8(r:Rg): ∀L:List Rg,(Bs r L).Perm (r::L)
 | []=> .refl _
 |x::l=>by
  unfold Bs;split
  .exact((r8 r l).cons x).trans (List.Perm.swap r x l)
  .exact .refl _
theorem Fs{r x:Rg}:x∈Bs r L↔x=r\/x∈L:=by rw[(r8 r L).mem_iff,bG]
theorem Np(r:Rg)(L:List Rg):(Bs r L).length=L.length+1:=by rw[(r8 r L).length_eq];rfl
theorem Jn{r:Rg}: ∀{L:List Rg},L.Pairwise kk->(∀x∈L,x.e≠r.e)->(Bs r L).Pairwise kk
 | [],_,_=>List.pairwise_singleton _ _
 |x::l,h,c=>by
  obtain⟨a,e⟩:=dS.1 h;unfold Bs;split
  .rename_i H;refine dS.2 ⟨λy hy=> ?_,Jn e (λy hy=>c y (ct _ hy))⟩;rcases Fs.1 hy with rfl|hy
   .exact H
   .exact a y hy
  .rename_i H;have d:kI r.e x.e=true:=(zN (c x bQ)).resolve_left H;refine dS.2 ⟨λy hy=> ?_,h⟩;rcases bG.1 hy with rfl|hy
   .exact d
   .exact tX d (a y hy)
def KU(L:List Rg)(x:Ev):List Rg:=L.filter (λr=> !decide (r.e=x))
def Hx(L:List Rg)(x:Ev)(p:Int):List Rg:=L.map (λr=>if r.e=x then { r with jS:=p } else r)
def iL(r:Rg):Bool:=cV r.e && (!decide (r.e=Ev.zero) && (decide (r.jS≥0) && decide (r.jS<=2) && (decide (r.own≥1) && decide (r.own<=1099511627776))))
def iN(L:List Rg)(r:Rg):Int:=if iL r=false then 1 else if(jA L r.e).isSome=true then 11 else if L.length≥8 then 15 else 0
def yo(L:List Rg)(r:Rg):List Rg:=if iN L r=0 then Bs r L else L
def jj(L:List Rg)(x:Ev)(owner:Int):Int:=match jA L x with|none=>4|some r=>if r.own=owner then 0 else 13
def Ap(L:List Rg)(x:Ev)(owner:Int):List Rg:=if jj L x owner=0 then KU L x else L
def Hz(L:List Rg)(x:Ev)(owner p:Int):Int:=if 0<=p/\p<=2 then jj L x owner else 1
def Fu(L:List Rg)(x:Ev)(owner p:Int):List Rg:=if Hz L x owner p=0 then Hx L x p else L
theorem Aq(L:List Rg)(r:Rg):(iL r=false/\iN L r=1)\/(iL r=true/\(jA L r.e).isSome=true/\iN L r=11)\/(iL r=true/\jA L r.e=none/\L.length≥8/\iN L r=15)\/(iL r=true/\jA L r.e=none/\L.length<8/\iN L r=0):=by
 unfold iN;cases a:iL r with
 |false=>exact .inl ⟨rfl,bQ⟩
 |true=>
  cases c:jA L r.e with
  |some x=>exact .inr (.inl ⟨rfl,rfl,bQ⟩)
  |none=>
   by_cases H:L.length≥8
   .exact .inr (.inr (.inl ⟨rfl,rfl,H,by simp[H]⟩))
   .exact .inr (.inr (.inr ⟨rfl,rfl,ae,by simp[H]⟩))
theorem fO(H:L4 h b X L m)(hk:R (.bool true) h):Cl 130 #[.P b 0] h R:=yj.walk ⟨_,aq H.cX,hk⟩
theorem gu(hk: ∀h' b X,Tb h' b X []->MA h X h'->R (.P b 0) h'):Cl 36 #[] h R:=by
 refine Nn.walk (cI (cI ?_));have f1:Fr No h (h.push (.map #[] 0)):=Fr.push _ _;have M:=jB.push (α:=Ev) h kO;have z:(h.push (.map #[] 0)).size=h.size+1:=du _;generalize h.push (.map #[] 0)=H at f1 M z⊢;have f2:Fr No H (H.push (.cells #[.map (some h.size)] 172)):=Fr.push _ _;refine hk _ H.size ⟨λc=>c=H.size\/c=h.size,λ_=>False⟩ ⟨h.size,bV,M.frame f2 id,λc=>eU,λ_=>id,ae,.nil⟩ ⟨f1.tt f2,λc hc=> ?_⟩;rcases hc with hc|hc
 .rcases hc with rfl|rfl<;>omega
 .exact hc.elim
theorem xQ{n:Int}(hk:R (.bool (decide (n≥0) && decide (n<=2))) h):Cl 149 #[.I n] h R:=by
 refine Br.walk ?_;by_cases q:n≥0
 .simp only[q,bt,bg,dX]at hk⊢;exact hk
 .simp only[q,bf,au,aM,ft]at hk⊢;exact hk
theorem fx(r:Rg)(hk: iq h R (.bool (iL r))):Cl 147 #[r.val] h R:=by
 refine Ht.walk (bD.box λb f e c f1=> ?_);have l: ∀{g:ak}{K:Bool->Int->Int->ByteArray->ByteArray->Prop},r.at g b->K r.e.jT r.e.node r.e.gr r.e.host r.e.jv->ax.LD g (AA b 0) K:=λH hk=>⟨_,aq H,_,aq H,_,aq H,_,aq H,_,aq H,hk⟩
 refine l c (iY.fx r.e λd f2=>⟨_,rfl,?_⟩);have a:=f2.get c id;have K:=hk d (f1.tt f2);unfold iL at K;by_cases q:cV r.e=true
 .rw[ah q];rw[q,dX]at K;refine l a ⟨_,u0 (y:=.zero) (x:=r.e) rfl rfl,?_⟩;by_cases q1:r.e=.zero
  .rw[aw q1,dz];rw[aw q1]at K;exact K
  .rw[aD q1,gh];rw[aD q1,eL,dX]at K;refine⟨_,aq a,xQ ⟨_,rfl,?_⟩⟩;by_cases q2:(decide (r.jS≥0) && decide (r.jS<=2))=true
   .rw[ah q2];rw[q2,dX]at K;refine⟨_,aq a,?_⟩;by_cases q3:r.own≥1
    .rw[ah (aw q3)];rw[aw q3,dX]at K;exact⟨_,aq a,K⟩
    .rw[af (cH q3)];rw[aD q3,ft]at K;exact K
   .rw[af q2];have q2:(decide (r.jS≥0) && decide (r.jS<=2))=false:=by simpa using q2
    rw[q2,ft]at K;exact K
 .rw[af q];have q:cV r.e=false:=by simpa using q
  rw[q,ft]at K;exact K
theorem HA{g:ak}{b:Nat}{r:Rg}{K:Bool->Int->Int->ByteArray->ByteArray->Prop}(H:r.at g b)(hk:K r.e.jT r.e.node r.e.gr r.e.host r.e.jv):ax.LD g (AA b 0) K:=
 ⟨_,aq H,_,aq H,_,aq H,_,aq H,_,aq H,hk⟩
theorem look(H:L4 h b X L m)(x:Ev):ig Tryz.prog 170 (.map (some m)) (kO x) true h (.tuple #[((jA L x).getD .zero).val,.bool (jA L x).isSome]):=by
 have:=Kw nO H.map x;rw[KT]at this;cases a:jA L x with
 |none=>rw[a]at this;exact this
 |some r=>rw[a]at this;exact this
theorem Fr.put{H a d:ak}{c:Nat}(f:Fr No H a)(k:d.size=a.size)(i: ∀x,x≠c->d[x]? =a[x]?)(j:H.size<=c):Fr No H d:=
 f.fresh (S:=λy=>y=c) ⟨ae,λy _ g=>i y g⟩ (λy e=>ae)
theorem jc(H:Tb h b X L)(x:Ev)(hk: iq h R (.tuple #[((jA L x).getD .zero).val,.bool (jA L x).isSome])):
  Cl 155 #[.P b 0,kO x] h R:=by
 obtain⟨m,H⟩:=H;refine ym.walk (ax.box λb1 n e1 c f1=>bD.box λB p e2 d f2=> ?_);have f12:=f1.tt f2;have c:=f2.get c id;have a:=H.on f12;refine fO a ⟨_,rfl,?_⟩;rw[dz];refine⟨_,aq a.cX,ax.ld c ⟨_,_,_,_,_,_,_,_,look a x,bD.box λf q E k f3=> ?_⟩⟩;refine⟨f3.2 m a.map.lt id,ax.held (f3.get c id),aq (f3.get a.cX id),bD.set k λg A s o=>bD.ld A ?_⟩;have j:(Rg.zero).at g B:=by
  have:=f3.get d id;have l:B≠f:=by have:=aE d;omega
  unfold Rg.at bD.at;rw[o B l];exact this
 have z:=f12.1;have Z:=f3.1;refine bD.set j λi e S O=>bD.ld e (hk i ?_)
 exact Fr.put (Fr.put (f12.tt f3) s o ae) S O (bR f1.1)
theorem wG(H:Tb h b X L)(x:Ev)(owner:Int)(hk: iq h R (.tuple #[(if jj L x owner=0 then(jA L x).getD .zero else .zero).val,.I (jj L x owner)])):
  Cl 148 #[.P b 0,kO x,.I owner] h R:=by
 obtain⟨m,H⟩:=H;refine An.walk (ax.box λb1 u e1 f f1=>bD.box λB v e2 l f2=> ?_);have f12:=f1.tt f2;have f:=f2.get f id;have c:=H.on f12;refine fO c ⟨_,rfl,?_⟩;rw[dz];refine⟨_,aq c.cX,ax.ld f ⟨_,_,_,_,_,_,_,_,look c x,bD.box λn w t p f3=> ?_⟩⟩;refine⟨f3.2 m c.map.lt id,ax.held (f3.get f id),aq (f3.get c.cX id),bD.set p λj i S O=> ?_⟩;have k:(Rg.zero).at j B:=by
  have:=f3.get l id;have q:B≠n:=by have:=aE l;omega
  unfold Rg.at bD.at;rw[O B q];exact this
 have z:=f1.1;have Z:=f2.1;have F:=Fr.put (f12.tt f3) S O ae;have fin: ∀(r:Rg)(e:Int),(if jj L x owner=0 then(jA L x).getD .zero else .zero)=r->jj L x owner=e->∀a,r.at a B->a.size=j.size->(∀y,y≠B->a[y]? =j[y]?)->R (.tuple #[r.val,.I e]) a:=by
  intro r e e1 e2 a _ s o;rw[<-e1,<-e2];exact hk a (Fr.put F s o ae)
 cases d:jA L x with
 |none=>
  have E:jj L x owner=4:=by unfold jj;rw[d]
  rw[ah (by rfl)];exact bD.set k λa A s o=>bD.ld A (fin .zero 4 (by rw[E,dz]) E a A s o)
 |some r=>
  rw[d]at i;rw[af bQ];refine⟨_,aq i,?_⟩;by_cases g:r.own=owner
  .have E:jj L x owner=0:=by unfold jj;rw[d];exact ah g
   rw[af (cH g)];exact bD.ld i (bD.set k λa A s o=>bD.ld A (fin r 0 (by rw[E,ah rfl,d];rfl) E a A s o))
  .have E:jj L x owner=13:=by unfold jj;rw[d];exact af g
   rw[ah (cH g)];exact bD.set k λa A s o=>bD.ld A (fin .zero 13 (by rw[E,dz]) E a A s o)
theorem L4.put{l:List Rg}{a:ak}(H:L4 h b X L m)(M:jB a m kO (l.map Rg.pair))(i:a.size=h.size)(d: ∀c,c≠m->a[c]? =h[c]?)(so:l.Pairwise kk):L4 a b X l m/\bN X h X a:=by
 have f:Fr X.M h a:=⟨ae,λc _ g=>d c (λe=>g ((H.fm c).2 (.inr e)))⟩;refine⟨⟨?_,M,H.fm,H.d,H.ne,so⟩,bN.uT f⟩;rw[d b H.ne];exact H.cX
theorem HB{L:List Rg}(so:L.Pairwise kk):(L.map Rg.e).Nodup:=by
 unfold List.Nodup;rw[en];refine so.imp fun {x y} H e=> ?_
 rw[kk,e,nI]at H;cases H
theorem Fv(L:List Rg)(x:Ev):wh (L.map Rg.pair) x=(KU L x).map Rg.pair:=by
 unfold wh KU;rw[dN];rfl
theorem PG{x:Ev}(so:L.Pairwise kk):(KU L x).Pairwise kk:=so.sublist cU
theorem PH{x:Ev}{p:Int}(so:L.Pairwise kk):(Hx L x p).Pairwise kk:=by
 unfold Hx;rw[en];refine so.imp fun {u v} H=> ?_
 have e: ∀r:Rg,(if r.e=x then { r with jS:=p } else r:Rg).e=r.e:=λr=>by split<;>rfl
 show kI _ _=true;rw[e,e];exact H
theorem Fw{x:Ev}{p:Int}{r:Rg}: ∀{L:List Rg},L.Pairwise kk->r∈L->r.e=x->(Hx L x p).Perm ({ r with jS:=p } ::KU L x)
 | [],_,h,_=>by cases h
 |y::l,so,h,e=>by
  obtain⟨a,f⟩:=dS.1 so;unfold Hx KU;rw[cj,cz];rcases bG.1 h with rfl|h
  .rw[ah e,af (by simp[e])];refine List.Perm.cons _ ?_;have c: ∀z∈l,z.e≠x:=λz H e2=>by
    have:=a z H;rw[kk,e,e2,nI]at this;cases this
   have e1:l.map (λr=>if r.e=x then({ r with jS:=p } :Rg)else r)=l:=by
    conv=>rhs;rw[<-List.map_id l]
    exact dV (λz H=>af (c z H))
   have e2:l.filter (λr=> !decide (r.e=x))=l:=by
    rw[cB];intro z H;simp[c z H]
   rw[e1,e2]
  .have d:y.e≠x:=λe2=>by
    have:=a r h;rw[kk,e,e2,nI]at this;cases this
   rw[af d,ah (by simp[d])];exact((Fw f h e).cons y).trans (List.Perm.swap _ _ _)
theorem Aj(H:Tb h b X L)(r:Rg)(K:L.length<=8)(hk: ∀h',Tb h' b X (yo L r)->bN X h X h'->R (.I (iN L r)) h'):
  Cl 97 #[.P b 0,r.val] h R:=by
 obtain⟨m,H⟩:=H;refine Am.walk (bD.box λb1 I e1 f f1=> ?_);have d:=H.on f1;refine fO d ⟨_,rfl,?_⟩;rw[dz];refine⟨_,aq d.cX,HA (r:=r) f ⟨_,_,_,_,_,_,_,_,look d r.e,bD.box λB J G u f3=> ?_⟩⟩;have l:=f3.get f id;refine⟨f3.2 m d.map.lt id,gO l (λj v a=> ?_),aq (f3.get d.cX id),bD.set u λt D S O=> ?_⟩
 .rw[bH]
  match j,a with
  |0,a=>simpa using a
  |1,a=>simpa using a
  |2,a=>simpa using a
  |3,a=>simpa using a
  |4,a=>simpa using a
 have Z:=f1.1;have q:=Fr.put (f1.tt f3) S O ae;have n:r.at t b1:=by
  have x:b1≠B:=by have:=aE f;omega
  unfold Rg.at bD.at;rw[O b1 x];exact l
 refine bD.ld n (fx r λg f5=>⟨_,rfl,?_⟩);have F:=q.tt f5;have c:=H.on F;have o:=f5.get n id;have lK:yo L r=L->R (.I (iN L r)) g:=λe=>hk g (by rw[e];exact⟨m,c⟩) (bN.iP F)
 rcases Aq L r with⟨q1,q2⟩|⟨q1,q3,q2⟩|⟨q1,q3,q4,q2⟩|⟨q1,q3,q4,q2⟩
 .rw[q1,gh];rw[q2]at lK;exact lK (by unfold yo;rw[q2];rfl)
 .rw[q1,dz,ah q3];rw[q2]at lK;exact lK (by unfold yo;rw[q2];rfl)
 .rw[q1,dz,af (by rw[q3];simp)];refine⟨_,aq c.cX,_,GU nO c.map,?_⟩;rw[aA,gh];rw[q2]at lK;exact lK (by unfold yo;rw[q2];rfl)
 .rw[q1,dz,af (by rw[q3];simp)];refine⟨_,aq c.cX,_,GU nO c.map,?_⟩;rw[aA,af (by simp;omega)];refine⟨_,aq c.cX,HA (r:=r) o (bD.ld o (zq nO c.map (k:=r.e) λi M C A=> ?_))⟩;have E:yo L r=Bs r L:=ah q2;have p:=Hw.1 q3;have M:jB i m kO ((Bs r L).map Rg.pair):=by
   refine M.perm ?_;unfold EF;rw[rU (λe w=>by obtain⟨y,z,rfl⟩:=bj.1 w;exact p y z)];exact((r8 r L).map Rg.pair).symm
  obtain⟨s,st⟩:=c.put M C A (Jn c.so p);rw[E,q2]at hk;exact hk i ⟨m,s⟩ (bN.no F st)
theorem oL(H:Tb h b X L)(x:Ev)(owner:Int)(hk: ∀h',Tb h' b X (Ap L x owner)->bN X h X h'->R (.I (jj L x owner)) h'):
  Cl 98 #[.P b 0,kO x,.I owner] h R:=by
 refine vy.walk (ax.box λb1 j e1 d f1=>ax.ld d (wG (H.on f1) x owner λl f2=>⟨_,_,_,_,_,_,_,_,rfl,bD.new λB f E n f3=>aI.of λJ c=> ?_⟩));have F:=f1.tt (f2.tt f3);have i:=(f2.tt f3).get d id;obtain⟨m,H⟩:=H;have a:=H.on F;by_cases q:jj L x owner=0
 .rw[ah (cH q)];refine⟨_,aq a.cX,ax.ld i (EH nO a.map (k:=x) λg M s o=>⟨rfl,?_⟩)⟩;subst c;rw[Fv]at M;obtain⟨e,st⟩:=a.put M s o (PG a.so);exact hk g (by unfold Ap;rw[ah q];exact⟨m,e⟩) (bN.no F st)
 .rw[af (cH q)];subst c;exact hk f (by unfold Ap;rw[af q];exact⟨m,a⟩) (bN.iP F)
theorem KV(H:Tb h b X L)(x:Ev)(owner p:Int)(hk: ∀h',Tb h' b X (Fu L x owner p)->bN X h X h'->R (.I (Hz L x owner p)) h'):
  Cl 100 #[.P b 0,kO x,.I owner,.I p] h R:=by
 refine vz.walk (ax.box λb1 a e1 f f1=>aI.of λJ c=> ?_);have u:=H;obtain⟨m,H⟩:=H;have i:=H.on f1;refine fO i ⟨_,rfl,?_⟩;rw[ah rfl];refine xQ ⟨_,rfl,?_⟩;subst c;by_cases Q:0<=p/\p<=2
 .have E:(decide (p≥0) && decide (p<=2))=true:=by simp[Q.1,Q.2]
  have e:Hz L x owner p=jj L x owner:=ah Q;rw[E];dsimp only;rw[dz];refine ax.ld f (wG (u.on f1) x owner λj f2=>⟨_,_,_,_,_,_,_,_,rfl,bD.new λB y P o f3=>aI.of λJ c=> ?_⟩);have F:=f1.tt (f2.tt f3);have z:=(f2.tt f3).get f id;have v:=H.on F;rw[e]at hk;by_cases q:jj L x owner=0
  .rw[ah (cH q)];obtain⟨r,s⟩: ∃r,jA L x=some r:=by
    cases D:jA L x with
    |none=>unfold jj at q;rw[D]at q;cases q
    |some r=>exact⟨r,rfl⟩
   rw[ah q,s]at o;obtain⟨I,t⟩:=Hv s;refine bL o bQ λl A S O=> ?_
   have Z:=f1.1;have T:=f2.1;have g:=Fr.put F S O ae;have d:=H.on g;have C:Ev.at l b1 x:=by
    have G:b1≠B:=by have:=aE f;omega
    unfold Ev.at ax.at;rw[O b1 G];exact z
   have A:({ r with jS:=p } :Rg).at l B:=A;refine⟨_,aq d.cX,ax.ld C (bD.ld A (zq nO d.map (k:=x) λn M N K=> ?_))⟩;have M:jB n m kO ((Hx L x p).map Rg.pair):=by
    refine M.perm ?_;unfold EF;rw[Fv];have:=((Fw (p:=p) H.so I t).map Rg.pair).symm;rw[cj]at this;have e2:(x,({ r with jS:=p } :Rg).val)=({ r with jS:=p } :Rg).pair:=by rw[<-t]
    rw[show((x,Value.agg #[.bool r.e.jT,.U r.e.node,.U r.e.gr,.string r.e.host,.string r.e.jv,.I p,.I r.own]):Ev×Value)=({ r with jS:=p } :Rg).pair from e2];exact this
   obtain⟨w,st⟩:=d.put M N K (PH H.so);subst c;exact hk n (by unfold Fu;rw[e,ah q];exact⟨m,w⟩) (bN.no g st)
  .rw[af (cH q)];subst c;exact hk y (by unfold Fu;rw[e,af q];exact⟨m,v⟩) (bN.iP F)
 .have E:(decide (p≥0) && decide (p<=2))=false:=by
   rw[Bool.and_eq_false_iff];by_cases a:p≥0
   .exact .inr (aD (λj=>Q ⟨a,j⟩))
   .exact .inl (aD a)
  have e:Hz L x owner p=1:=af Q;rw[E];dsimp only;rw[gh];rw[e]at hk;exact hk a (by unfold Fu;rw[e,dz];exact⟨m,i⟩) (bN.iP f1)
end gj
end
section
variable {h:ak} {R:fG}
variable {t s S D l:Nat} {n E c V k num:Int} {g m:bZ} {e:Bool} {d f:ByteArray}
theorem HC.walk(o:aT h (.map #[] 0) λb H=>Cl 87 #[] H λv a=>Vp v λt2=>Cl 87 #[] a λp i=>Vp p λt3=>aT i (.cells #[.map (some b),.I 1,.I 0,.I 0,.I 0,.pointer t2,.pointer t3] 110) λB j=>R (.P B 0) j):Cl 37 #[] h R:=aR (lq ll) Tryz.func37 o
theorem vB.walk(H: ∃t9,Cc h t 0 (.map t9)/\R (.bool (!t9.isNone)) h):Cl 47 #[.P t 0] h R:=aR (lq ll) Tryz.func47 H
theorem rj.walk(K:Cl 47 #[.P t 0] h λv H=>Vb v λt6=>aI (λ(x:bZ) (w u:Nat) (A:ak)=>Cl 134 #[.slice x w u] A λQ B=>Q=.tuple #[]/\R (.slice x w u) B) (λJ=>if t6 then∃t10,Cc H t 0 (.map t10)/\aU Tryz.prog (Instr.range 107 (.map t10)) H λU C=> ∃(it:Nat),U=.P it 0/\∃(I:bZ->Nat->Nat->ak->Prop)(M:bZ->Nat->Nat->ak->Nat),I none 0 0 C/\∀(a:bZ)(O o:Nat)(i:ak),I a O o i->aU Tryz.prog (Instr.next (.P it 0) false 0) i λz q=>(z=.tuple #[.bool false]/\J a O o q)\/(∃(L N:Value),z=.tuple #[.bool true,L,N]/\aU Tryz.prog (Instr.entry (.P it 0)) q λW F=> ∃(y P:Value),W=.tuple #[y,P]/\∃t15,y=.I t15/\aT F (.cells #[.I t15] 3) λb G=>aU Tryz.prog (Builtin.append_ #[105,105] 105 #[.slice a O o,.slice (Sa b 0) 1 1]) G λX r=> ∃p j T,X=.slice p j T/\(I p j T r/\M p j T r<M a O o i))else J none 0 0 H)):Cl 68 #[.P t 0] h R:=aR (lq (lq (sq (lq (.join [(3,.one (.slice))] (cq (lq (bq (.loop [(3,.one (.slice))] (lq (sq (cq lf lf) (bq (sq (.typed [(15,.one (.int .i64))]) lf))))))) lf))) (lq ll)))) Tryz.func68 K
theorem vC.walk{c0:Nat}{c1:Nat}(H:Hp h c0 0 λt5=>aO t5 λa=> ∃t8,aX h a=some (.map t8)/\∃t10,ig Tryz.prog 107 (.map t8) (.I n) false h (.pointer t10)/\aO t10 λA=>ax.LD h (A.add 1) λT b i j o=>ax.LD h (AA c1 0) λp q r u v=> ∃(eq:Bool),yD Tryz.prog 29 (.agg #[.bool T,.U b,.U i,.string j,.string o]) (.agg #[.bool p,.U q,.U r,.string u,.string v]) eq/\R (.bool (!eq)) h):Cl 113 #[.I n,.P c0 0,.P c1 0] h R:=aR (lq (sq (pN 12) lf)) Tryz.func113 H
theorem ml.of.walk{b:Nat}{o:Nat}(B:Cl 168 #[.slice g s S,.func (.func 113) #[] #[.P b 0,.P o 0]] h λv q=> ∃t10,v=.I t10/\if(t10==(-1))then R (.slice g s S) q else∃(I:Int->Int->ak->Prop)(M:Int->Int->ak->Nat),I t10 (wrap .i64 (t10+1)) q/\∀(i:Int)(j:Int)(H:ak),I i j H->if(decide (j<(s:Int)))then aI (λ(w:Int) (r:ak)=>(I w (wrap .i64 (j+1)) r/\M w (wrap .i64 (j+1)) r<M i j H)) (λJ=>Bd j s/\aO g λa=>lR H (a.add (toNat j*1)) λt25=>Cl 113 #[.I t25,.P b 0,.P o 0] H λF u=>Vb F λt28=>aI (λ(C:Int) (x:ak)=>J C x) (λp=>if(!t28)then Bd i s/\aO g λA=>aQ u (A.add (toNat i*1)) (.I t25) λy=>p (wrap .i64 (i+1)) y else p i u))else((0:Int)<=i/\i<=(s:Int))/\aU Tryz.prog (Builtin.clear_ #[105] 0 #[.slice (cR g S (toNat i) 1) (s - (toNat i)) (S - (toNat i))]) H λG z=>G=.tuple #[]/\((0:Int)<=i/\i<=(S:Int))/\R (.slice (cR g S 0 1) ((toNat i) - 0) (S - 0)) z):Cl 112 #[.slice g s S,.func (.func 113) #[] #[.P b 0,.P o 0]] h R:=aR (lq (lq (sq (lq (cq ll lf)) (sq (lq (bq (.loop [(5,.one (.int .i64)),(6,.one (.int .i64))] (sq (lq (cq lf lf)) (sq (.join [(5,.one (.int .i64))] (bq (lq (lq (.join [(5,.one (.int .i64))] (cq ll lf)))))) lf))))) (lq ll))))) Tryz.func112 B
theorem iu.of.walk{F:Nat}{i:Nat}(j: ∃(I:Int->ak->Prop)(M:Int->ak->Nat),I 0 h/\∀(t8:Int)(H:ak),I t8 H->if(decide (t8<(s:Int)))then Bd t8 s/\aO g λa=>lR H (a.add (toNat t8*1)) λt15=>Cl 113 #[.I t15,.P F 0,.P i 0] H λv b=> ∃t16,v=.bool t16/\if t16 then R (.I t8) b else(I (wrap .i64 (t8+1)) b/\M (wrap .i64 (t8+1)) b<M t8 H)else R (.I (-1)) H):Cl 168 #[.slice g s S,.func (.func 113) #[] #[.P F 0,.P i 0]] h R:=aR (lq (sq (lq (bq (.loop [(8,.one (.int .i64))] (lq (sq (cq lf lf) (sq (bq (lq (lq (cq ll lf)))) lf)))))) ll)) Tryz.func168 j
theorem yq.walk(q:aT h (.cells #[.P t 0] 36) λb j=>aT j (.cells #[.bool e,.U E,.U c,.string d,.string f] 29) λB H=>Hp H b 0 λt5=>Cl 68 #[.pointer t5] H λv o=>Vl v λw u r=>Cl 112 #[.slice w u r,.func (.func 113) #[] #[.P b 0,.P B 0]] o λx p=> ∃i a T,x=.slice i a T/\R (.slice i a T) p):Cl 49 #[.P t 0,.agg #[.bool e,.U E,.U c,.string d,.string f]] h R:=aR (lq ll) Tryz.func49 q
theorem ui.walk(r:aT h (.cells #[.bool e,.U E,.U c,.string d,.string f] 29) λb i=>ax.LD i (AA b 0) λx y z B C=>Cl 49 #[.P t 0,.agg #[.bool x,.U y,.U z,.string B,.string C]] i λv p=>Vl v λw T F=> ∃(I:Int->Int->ak->Prop)(M:Int->Int->ak->Nat),I 0 0 p/\∀(n:Int)(t12:Int)(H:ak),I n t12 H->if(decide (t12<(T:Int)))then aI (λ(N:Int) (o:ak)=>(I N (wrap .i64 (t12+1)) o/\M N (wrap .i64 (t12+1)) o<M n t12 H)) (λJ=>Bd t12 T/\aO w λa=>lR H (a.add (toNat t12*1)) λt15=> ∃t19,Cc H t 0 (.map t19)/\∃t21,ig Tryz.prog 107 (.map t19) (.I t15) false H (.pointer t21)/\aO t21 λA=>lR H (A.add 8) λt24=>aI (λ(u:Int) (q:ak)=>J u q) (λj=>if(t24==0)then j (wrap .i64 (n+1)) H else j n H))else R (.I n) H):Cl 103 #[.P t 0,.agg #[.bool e,.U E,.U c,.string d,.string f]] h R:=aR (lq (lq (sq (lq (bq (.loop [(5,.one (.int .i64)),(12,.one (.int .i64))] (lq (sq (cq lf lf) (sq (.join [(5,.one (.int .i64))] (bq (lq (lq (.join [(5,.one (.int .i64))] (cq lf lf)))))) lf)))))) ll))) Tryz.func103 r
theorem Bt.walk(i:aT h (.cells #[.bool e,.U E,.U c,.string d,.string f] 29) λb a=>ax.LD a (AA b 0) λr u w x y=>Cl 86 #[.agg #[.bool r,.U u,.U w,.string x,.string y]] a λv H=> ∃t8,v=.bool t8/\if t8 then ax.LD H (AA b 0) λT j o p q=> ∃(eq:Bool),yD Tryz.prog 29 (.agg #[.bool T,.U j,.U o,.string p,.string q]) (.agg #[.bool false,.U 0,.U 0,.string hC,.string hC]) eq/\if(!eq)then if(decide ((D:Int)≥1))then if(decide ((D:Int)<=600))then R (.bool (decide (V<=1099511627776))) H else R (.bool false) H else R (.bool false) H else R (.bool false) H else R (.bool false) H):Cl 48 #[.agg #[.bool e,.U E,.U c,.string d,.string f],.slice m D l,.U V] h R:=aR (lq ll) Tryz.func48 i
theorem wK.walk(C:aT h (.cells #[.bool e,.U E,.U c,.string d,.string f] 29) λb z=>Cl 47 #[.P t 0] z λv a=> ∃t13,v=.bool t13/\if(!t13)then R (.tuple #[.I 0,.I 6]) a else ax.LD a (AA b 0) λF G I J K=>Cl 48 #[.agg #[.bool F,.U G,.U I,.string J,.string K],.slice m D l,.U V] a λZ i=> ∃t19,Z=.bool t19/\if(!t19)then R (.tuple #[.I 0,.I 1]) i else ax.LD i (AA b 0) λL M N O P=>Cl 49 #[.P t 0,.agg #[.bool L,.U M,.U N,.string O,.string P]] i λa' H=> ∃U y Q,a'=.slice U y Q/\if(decide (((y:Nat):Int)≥16))then R (.tuple #[.I 0,.I 15]) H else Hi H t 1 λt30=> ∃t34,Cc H t 1 (.I t34)/\aQ H (AA t 1) (.I (wrap .i64 (t34+1))) λj=> ∃t41,Cc j t 0 (.map t41)/\ax.LD j (AA b 0) λT q r u w=>Cl 50 #[.slice m D l] j λb' o=>Vl b' λY X W=>dM (AA b 0) [.bool T,.U q,.U r,.string u,.string w] 0 o/\Cc o t 0 (.map t41)/\aT o (.cells #[.I t30,.bool T,.U q,.U r,.string u,.string w,.slice Y X W,.U V,.I 0,.U 0] 114) λB p=>dM (AA b 0) [.bool T,.U q,.U r,.string u,.string w] 0 p/\Cc p t 0 (.map t41)/\aU Tryz.prog (Instr.mapUpdate 107 (.map t41) (.I t30) (.P B 0)) p λ_ x=>Hp x t 5 λt53=>Cl 51 #[.pointer t53,.I t30,.U V] x λc' A=> ∃t56,c'=.I t56/\R (.tuple #[.I t30,.I 0]) A):Cl 15 #[.P t 0,.agg #[.bool e,.U E,.U c,.string d,.string f],.slice m D l,.U V] h R:=aR (lq (sq (bq (lq (cq ll (lq (cq ll (lq (cq ll lf))))))) (lq (lq (sq (.gT (.op 0 (.op 1 (.op 2 (.op 3 (.op 4 (.op 5 (.op 6 (.op 7 (.op 9 (.op 8 (.op 10 (.op 11 (.op 12 .done)))))))))))))) (lq ll)))))) Tryz.func15 C
theorem wL.walk(H:if(decide (n≥1))then R (.bool (decide (n<=1099511627776))) h else R (.bool false) h):Cl 192 #[.I n] h R:=aR (lq ll) Tryz.func192 H
theorem uj.walk{i:Int}(hv:aT h (.cells #[.bool e,.U E,.U c,.string d,.string f] 29) λb U=>aT U (.cells #[.I 0,.bool false,.U 0,.U 0,.string hC,.string hC,.Z,.U 0,.I 0,.U 0] 114) λB Y=>Cl 47 #[.P t 0] Y λv z=> ∃t16,v=.bool t16/\if(!t16)then aN.ST z (AA B 0) 0 false 0 0 hC hC none 0 0 0 0 0 λA=>aN.LD A (AA B 0) λb' f' j' n' r' v' H' D' z' L' P' T'=>R (.tuple #[.agg #[.I b',.bool f',.U j',.U n',.string r',.string v',.slice H' D' z',.U L',.I P',.U T'],.I 6]) A else aI (λ(t19:Bool) (o:ak)=>if t19 then aN.ST o (AA B 0) 0 false 0 0 hC hC none 0 0 0 0 0 λC=>aN.LD C (AA B 0) λc' g' k' o' s' w' I' E' A' M' Q' U'=>R (.tuple #[.agg #[.I c',.bool g',.U k',.U o',.string s',.string w',.slice I' E' A',.U M',.I Q',.U U'],.I 1]) C else ax.LD o (AA b 0) λX' Y' Z' TD TE=>Cl 49 #[.P t 0,.agg #[.bool X',.U Y',.U Z',.string TD,.string TE]] o λPI Z=>Vl PI λTF T TG=> ∃(I:Int->ak->Prop)(M:Int->ak->Nat),I 0 Z/\∀(t32:Int)(H:ak),I t32 H->if(decide (t32<(T:Int)))then Bd t32 T/\aO TF λa=>lR H (a.add (toNat t32*1)) λt35=> ∃t39,Cc H t 0 (.map t39)/\∃t41,ig Tryz.prog 107 (.map t39) (.I t35) false H (.pointer t41)/\aO t41 λL=> ∃t45,aX H (L.add 8)=some (.I t45)/\if(t45==0)then aO t41 λN=>aQ H (N.add 8) (.I k) λa'=>aO t41 λO=>aQ a' (O.add 9) (.U i) λp=>Hp p t 6 λt58=>Cl 51 #[.pointer t58,.I t35,.U i] p λNq q=>Vi Nq λt61=>aO t41 λP=>aN.LD q P λTH TI TJ TK TL TM PJ PK PL TN TO TP=>aT q (.cells #[.I 0,.bool false,.U 0,.U 0,.string hC,.string hC,.Z,.U 0,.I 0,.U 0] 114) λj W=>aN.ST W (AA j 0) TH TI TJ TK TL TM PJ PK PL TN TO TP λr=>aO t41 λQ=>oY r (Q.add 6) λTQ TR TT=>Cl 50 #[.slice TQ TR TT] r λKW X=> ∃K G F,KW=.slice K G F/\aQ X (AA j 6) (.slice K G F) λu=>aN.LD u (AA j 0) λNr Ns Jo TU TV TW PM PN PO TX TY TZ=>aN.ST u (AA B 0) Nr Ns Jo TU TV TW PM PN PO TX TY TZ λw=>aN.LD w (AA B 0) λd' h' l' p' t' x' J' F' B' N' R' V'=>R (.tuple #[.agg #[.I d',.bool h',.U l',.U p',.string t',.string x',.slice J' F' B',.U N',.I R',.U V'],.I 0]) w else(I (wrap .i64 (t32+1)) H/\M (wrap .i64 (t32+1)) H<M t32 H)else aN.ST H (AA B 0) 0 false 0 0 hC hC none 0 0 0 0 0 λx=>aN.LD x (AA B 0) λe' i' m' q' u' y' K' G' C' O' S' W'=>R (.tuple #[.agg #[.I e',.bool i',.U m',.U q',.string u',.string y',.slice K' G' C',.U O',.I S',.U W'],.I 4]) x) (λJ=>Cl 192 #[.I k] z λHD y=> ∃t21,HD=.bool t21/\if(!t21)then J true y else J (decide (i>1099511627776)) y)):Cl 156 #[.P t 0,.agg #[.bool e,.U E,.U c,.string d,.string f],.I k,.U i] h R:=aR (lq (sq (bq (lq (cq ll (sq (.join [(19,.one (.bool))] lf) (cq ll lf))))) (sq (lq (bq (.loop [(32,.one (.int .i64))] (lq (sq (cq lf lf) (sq (bq (lq (lq (lq (cq (lq (lq (lq (lq ll)))) lf))))) lf)))))) ll))) Tryz.func156 hv
theorem vD.walk(i:Cl 47 #[.P t 0] h λv H=> ∃t10,v=.bool t10/\if(!t10)then R (.tuple #[.pointer none,.I 6]) H else∃t16,Cc H t 0 (.map t16)/\∃t18,ig Tryz.prog 107 (.map t16) (.I num) false H (.pointer t18)/\if t18.isNone then R (.tuple #[.pointer none,.I 4]) H else aI (λ(t20:Bool) (b:ak)=>if t20 then R (.tuple #[.pointer none,.I 14]) b else∃t47,Cc b t 0 (.map t47)/\∃t49,ig Tryz.prog 107 (.map t47) (.I num) false b (.pointer t49)/\R (.tuple #[.pointer t49,.I 0]) b) (λJ=> ∃t24,Cc H t 0 (.map t24)/\∃t26,ig Tryz.prog 107 (.map t24) (.I num) false H (.pointer t26)/\aO t26 λa=> ∃t29,aX H (a.add 8)=some (.I t29)/\if(t29==0)then J true H else∃t35,Cc H t 0 (.map t35)/\∃t37,ig Tryz.prog 107 (.map t35) (.I num) false H (.pointer t37)/\aO t37 λA=> ∃t40,aX H (A.add 8)=some (.I t40)/\J (t40 !=k) H)):Cl 165 #[.P t 0,.I num,.I k] h R:=aR (lq (sq (bq (lq (cq ll (lq (cq ll (sq (.join [(20,.one (.bool))] lf) (cq ll lf))))))) ll)) Tryz.func165 i
theorem vE.walk(j:Hp h t 6 λt7=>Cl 115 #[.pointer t7,.I n] h λv H=>Vi v λt9=> ∃t13,Cc H t 0 (.map t13)/\∃t15,ig Tryz.prog 107 (.map t13) (.I n) false H (.pointer t15)/\∃t19,Cc H t 0 (.map t19)/\∃t21,ig Tryz.prog 107 (.map t19) (.I n) false H (.pointer t21)/\aO t15 λa=>aQ H (a.add 8) (.I 0) λb=>aO t21 λA=>aQ b (A.add 9) (.U 0) λi=>R (.tuple #[]) i):Cl 120 #[.P t 0,.I n] h R:=aR (lq (pN 18)) Tryz.func120 j
theorem sI.walk(i:Hp h t 6 λt7=>Cl 115 #[.pointer t7,.I n] h λv H=>Vi v λt9=>Hp H t 5 λt13=>Cl 115 #[.pointer t13,.I n] H λj a=>Vi j λt15=> ∃t19,Cc a t 0 (.map t19)/\aU Tryz.prog (Builtin.delete_ #[107,3] 0 #[.map t19,.I n]) a λo b=>o=.tuple #[]/\R (.tuple #[]) b):Cl 119 #[.P t 0,.I n] h R:=aR (lq ll) Tryz.func119 i
theorem wM.walk(j:Cl 165 #[.P t 0,.I num,.I k] h λv H=> ∃o T,v=.tuple #[.pointer o,.I T]/\aI (λ(b:ak)=>R (.I T) b) (λJ=>if(T==0)then Cl 119 #[.P t 0,.I num] H λp a=>p=.tuple #[]/\∃t24,Cc a t 2 (.I t24)/\aQ a (AA t 2) (.I (wrap .i64 (t24+1))) λi=>J i else J H)):Cl 161 #[.P t 0,.I num,.I k] h R:=aR (lq (lq (sq (lq (.join [] (cq ll lf))) ll))) Tryz.func161 j
theorem rk.walk(i:Cl 165 #[.P t 0,.I num,.I k] h λv H=> ∃j T,v=.tuple #[.pointer j,.I T]/\aI (λ(a:ak)=>R (.I T) a) (λJ=>if(T==0)then Cl 120 #[.P t 0,.I num] H λo b=>o=.tuple #[]/\J b else J H)):Cl 107 #[.P t 0,.I num,.I k] h R:=aR (lq (lq (sq (lq (.join [] (cq lf lf))) ll))) Tryz.func107 i
theorem vF.walk{now:Int}(z:Cl 47 #[.P t 0] h λv j=> ∃t11,v=.bool t11/\if(!t11)then R (.Z) j else Hp j t 5 λt16=>Cl 118 #[.pointer t16,.U now] j λF x=>Vl F λu T B=> ∃(I:Int->ak->Prop)(M:Int->ak->Nat),I 0 x/\∀(t21:Int)(H:ak),I t21 H->if(decide (t21<(T:Int)))then Bd t21 T/\aO u λa=>lR H (a.add (toNat t21*1)) λt24=>Cl 119 #[.P t 0,.I t24] H λG o=>G=.tuple #[]/\∃t31,Cc o t 3 (.I t31)/\aQ o (AA t 3) (.I (wrap .i64 (t31+1))) λp=>(I (wrap .i64 (t21+1)) p/\M (wrap .i64 (t21+1)) p<M t21 H)else Hp H t 6 λt39=>Cl 118 #[.pointer t39,.U now] H λJ y=>Vl J λC w L=> ∃(i:Int->ak->Prop)(r:Int->ak->Nat),i 0 y/\∀(t43:Int)(b:ak),i t43 b->if(decide (t43<(w:Int)))then Bd t43 w/\aO C λA=>lR b (A.add (toNat t43*1)) λt46=>Cl 120 #[.P t 0,.I t46] b λK q=>K=.tuple #[]/\(i (wrap .i64 (t43+1)) q/\r (wrap .i64 (t43+1)) q<r t43 b)else R (.slice u T B) b):Cl 53 #[.P t 0,.U now] h R:=aR (lq (sq (lq (cq ll lf)) (lq (sq (lq (bq (.loop [(21,.one (.int .i64))] (lq (sq (cq lf lf) (sq (bq (lq ll)) lf)))))) (sq (lq (bq (.loop [(43,.one (.int .i64))] (lq (sq (cq lf lf) (sq (bq ll) lf)))))) ll))))) Tryz.func53 z
theorem vG.walk(r:aT h (.cells #[.bool e,.U E,.U c,.string d,.string f] 29) λb i=>ax.LD i (AA b 0) λw x y z A=>Cl 49 #[.P t 0,.agg #[.bool w,.U x,.U y,.string z,.string A]] i λv q=>Vl v λp T u=> ∃(I:Int->ak->Prop)(M:Int->ak->Nat),I 0 q/\∀(t13:Int)(H:ak),I t13 H->if(decide (t13<(T:Int)))then Bd t13 T/\aO p λa=>lR H (a.add (toNat t13*1)) λt16=>Cl 119 #[.P t 0,.I t16] H λB j=>B=.tuple #[]/\∃t23,Cc j t 4 (.I t23)/\aQ j (AA t 4) (.I (wrap .i64 (t23+1))) λo=>(I (wrap .i64 (t13+1)) o/\M (wrap .i64 (t13+1)) o<M t13 H)else R (.slice p T u) H):Cl 99 #[.P t 0,.agg #[.bool e,.U E,.U c,.string d,.string f]] h R:=aR (lq (lq (sq (lq (bq (.loop [(13,.one (.int .i64))] (lq (sq (cq lf lf) (sq (bq (lq ll)) lf)))))) ll))) Tryz.func99 r
theorem wN.walk(K:Cl 68 #[.P t 0] h λv C=>Vl v λs' z v'=> ∃(I:bZ->Nat->Nat->Int->ak->Prop)(M:bZ->Nat->Nat->Int->ak->Nat),I none 0 0 0 C/\∀(i:bZ)(O o:Nat)(t10:Int)(H:ak),I i O o t10 H->if(decide (t10<(z:Int)))then Bd t10 z/\aO s' λa=>lR H (a.add (toNat t10*1)) λt13=> ∃t17,Cc H t 0 (.map t17)/\∃t19,ig Tryz.prog 107 (.map t17) (.I t13) false H (.pointer t19)/\aO t19 λA=>aN.LD H A λL N P Q U W Z Y X a' b' c'=>aT H (.cells #[.I 0,.bool false,.U 0,.U 0,.string hC,.string hC,.Z,.U 0,.I 0,.U 0] 114) λb F=>aN.ST F (AA b 0) L N P Q U W Z Y X a' b' c' λq=>Hl q b 6 λf' e' d'=>Cl 50 #[.slice f' e' d'] q λt' G=> ∃y x w,t'=.slice y x w/\aQ G (AA b 6) (.slice y x w) λr=>aN.LD r (AA b 0) λg' h' i' j' k' l' o' n' m' p' q' r'=>aT r (.cells #[.I g',.bool h',.U i',.U j',.string k',.string l',.slice o' n' m',.U p',.I q',.U r'] 114) λB J=>aU Tryz.prog (Builtin.append_ #[242,242] 242 #[.slice i O o,.slice (Sa B 0) 1 1]) J λu' u=> ∃p j T,u'=.slice p j T/\(I p j T (wrap .i64 (t10+1)) u/\M p j T (wrap .i64 (t10+1)) u<M i O o t10 H)else R (.slice i O o) H):Cl 160 #[.P t 0] h R:=aR (lq (lq (sq (lq (bq (.loop [(3,.one (.slice)),(10,.one (.int .i64))] (lq (sq (cq lf lf) (sq (bq (lq (lq ll))) lf)))))) ll))) Tryz.func160 K

end
section
open Go.kQ
namespace gx
open iY cf
variable {h h':ak} {t:Nat} {X:Ft}
structure Cp where
 num:Nat
 e:Ev
 d:cM
 cg:Nat
 ses:Int
 dl:Nat
structure CV where
 num:Nat
 b:Nat
 e:Ev
 v:BV
 cg:Nat
 ses:Int
 dl:Nat
def CV.abs(x:CV):Cp:=⟨x.num,x.e,x.v.b,x.cg,x.ses,x.dl⟩
abbrev CV.at(h:ak)(b:Nat)(x:CV):Prop:=aN.at h b (x.num:Int) x.e.jT x.e.node x.e.gr x.e.host x.e.jv x.v.p x.v.b.length x.v.c (x.cg:Int) x.ses (x.dl:Int)
structure CF where
 L:List Cp
 next:Nat
 gk:Nat
 over:Nat
 gone:Nat
 E1:List E
 E2:List E
abbrev gw(n:Int):Value:=.int .i64 n
theorem VP:B4 Tryz.prog 3 gw:=⟨λa b h=>cZ,λe a h=>cZ,by
 have H:Tryz.prog.underlying 3=some (.int .i64):=cZ
 exact⟨_,H,λa b=> .inr rfl⟩,λa=>by simp[Instr.sameBits]⟩
theorem nO:oE Tryz.prog 107 gw (.pointer none):=oE.of 3 111 cZ VP cZ
abbrev CV.pair(x:CV):Int×Value:=((x.num:Int),.pointer (some ⟨x.b,0,none⟩))
structure Cm (h:ak) (t:Nat) (X:Ft) (s:CF) (m:Nat) (xs:List CV) (o:Nat) (q:Nat->Prop) (p:Nat) (r:Nat->Prop) (g:Nat->Option Nat):Prop where
 cX:h[t]? =some (.cells #[.map (some m),.int .i64 (s.next:Int),.int .i64 (s.gk:Int),.int .i64 (s.over:Int),.int .i64 (s.gone:Int),.pointer (some ⟨o,0,none⟩),.pointer (some ⟨p,0,none⟩)] 110 (0,0))
 map:jB h m gw (xs.map CV.pair)
 Ef: ∀x∈xs,x.at h x.b
 abs:xs.map CV.abs=s.L
 Bb: ∀x∈xs,x.v.ok h X.D
 HE:Al h o q s.E1
 HF:Al h p r s.E2
 l0:g t=some 0
 l1:g m=some 1
 l2: ∀c,q c->g c=some 2
 l3: ∀c,r c->g c=some 3
 l4: ∀x∈xs,g x.b=some (4+x.num)
 mm: ∀c,X.M c↔g c≠none
 dd: ∀c,X.D c->g c=none/\c<h.size
 Eh: ∀c,g c≠none->c<h.size
 so:(xs.map CV.num).Pairwise (· < ·)
def Ct(h:ak)(t:Nat)(X:Ft)(s:CF):Prop:= ∃m xs o q p r g,Cm h t X s m xs o q p r g
variable {s s' : CF} {m o p : Nat} {xs : List CV} {q r B w : Nat → Prop} {g : Nat → Option Nat}
structure Kept (h':ak) (t:Nat) (X:Ft) (s:CF) (m:Nat) (xs:List CV) (o:Nat) (q:Nat->Prop) (p:Nat) (r:Nat->Prop) (k:Nat):Prop where
 cX:k≠0->h'[t]? =some (.cells #[.map (some m),.int .i64 (s.next:Int),.int .i64 (s.gk:Int),.int .i64 (s.over:Int),.int .i64 (s.gone:Int),.pointer (some ⟨o,0,none⟩),.pointer (some ⟨p,0,none⟩)] 110 (0,0))
 map:k≠1->jB h' m gw (xs.map CV.pair)
 HE:k≠2->Al h' o q s.E1
 HF:k≠3->Al h' p r s.E2
 Ef: ∀x∈xs,k≠4+x.num->x.at h' x.b
 Bb: ∀x∈xs,x.v.ok h' X.D
theorem Cm.lK{Q:Nat->Prop}{k:Nat}(H:Cm h t X s m xs o q p r g)(f:Fr Q h h')(i: ∀c,Q c->c<h.size->g c=some k):Kept h' t X s m xs o q p r k:=by
 have no: ∀{c j:Nat},c<h.size->g c=some j->k≠j->¬Q c:=λa l hk d=>hk (by have:=i _ d a;rw[l]at this;exact(bp this).symm)
 refine⟨λhk=>f.get H.cX (no (aE H.cX) H.l0 hk),λhk=>H.map.frame f (no H.map.lt H.l1 hk),λhk=> ?_,λhk=> ?_,λx b hk=>f.get (H.Ef x b) (no (aE (H.Ef x b)) (H.l4 x b) hk),λx b=> ?_⟩
 .exact H.HE.frame f (λc a=>no (H.HE.lt a) (H.l2 c a) hk)
 .exact H.HF.frame f (λc a=>no (H.HF.lt a) (H.l3 c a) hk)
 .refine(H.Bb x b).frame f (λc a d=> ?_);have:=H.dd c a;have e:=i c d this.2;rw[this.1]at e;cases e
theorem Cm.frame{Q:Nat->Prop}(H:Cm h t X s m xs o q p r g)(f:Fr Q h h')(d: ∀y,X.M y\/X.D y->¬Q y):Cm h' t X s m xs o q p r g:=by
 have no: ∀{c j:Nat},g c=some j->¬Q c:=λe=>d _ (.inl ((H.mm _).2 (by rw[e];simp)))
 exact⟨f.get H.cX (no H.l0),H.map.frame f (no H.l1),λx b=>f.get (H.Ef x b) (no (H.l4 x b)),H.abs,λx b=>(H.Bb x b).frame f (λc a=>d c (.inr a)),
  H.HE.frame f (λc a=>no (H.l2 c a)),H.HF.frame f (λc a=>no (H.l3 c a)),H.l0,H.l1,H.l2,H.l3,H.l4,H.mm,λc a=>⟨(H.dd c a).1,cE (H.dd c a).2 f.1⟩,λc a=>cE (H.Eh c a) f.1,H.so⟩
theorem Cm.on(H:Cm h t X s m xs o q p r g)(f:Fr No h h'):Cm h' t X s m xs o q p r g:=H.frame f cb
theorem Ct.frame{Q:Nat->Prop}(H:Ct h t X s)(f:Fr Q h h')(a: ∀y,X.M y\/X.D y->¬Q y):Ct h' t X s:=by
 obtain⟨m,xs,o,q,p,r,g,H⟩:=H;exact⟨m,xs,o,q,p,r,g,H.frame f a⟩
theorem Ct.on(H:Ct h t X s)(f:Fr No h h'):Ct h' t X s:=H.frame f cb
theorem Ct.lt(H:Ct h t X s)(y:Nat)(hy:X.M y\/X.D y):y<h.size:=by
 obtain⟨m,xs,o,q,p,r,g,H⟩:=H;rcases hy with hy|hy
 .exact H.Eh y ((H.mm y).1 hy)
 .exact(H.dd y hy).2
theorem Cm.step{Q:Nat->Prop}{k:Nat}(H:Cm h t X s m xs o q p r g)(f:Fr Q h h')(d: ∀c,Q c->c<h.size->g c=some k):bN X h X h':=
 bN.uT (f.mono λc b a=>(H.mm c).2 (by rw[d c a b];simp))
theorem Cm.field(H:Cm h t X s m xs o q p r g)(k:s'.L=s.L)(i:s'.E1=s.E1)(j:s'.E2=s.E2)(l:h'[t]? =some (.cells #[.map (some m),.I (s'.next:Int),.I (s'.gk:Int),.I (s'.over:Int),.I (s'.gone:Int),.P o 0,.P p 0] 110 (0,0)))(d:h'.size=h.size)(u: ∀x,x≠t->h'[x]? =h[x]?):Cm h' t X s' m xs o q p r g/\bN X h X h':=by
 have f:Fr (λc=>c=t) h h':=⟨ae,λc _ n=>u c n⟩;have b: ∀c,c=t->c<h.size->g c=some 0:=λc e _=>by rw[e];exact H.l0
 have K:=H.lK f b;refine⟨⟨l,K.map ae,λx v=>K.Ef x v ae,H.abs.trans k.symm,K.Bb,by rw[i];exact K.HE ae,by rw[j];exact K.HF ae,H.l0,H.l1,H.l2,H.l3,H.l4,H.mm,λc a=>by rw[d];exact H.dd c a,λc a=>by rw[d];exact H.Eh c a,H.so⟩,H.step f b⟩
def Nt(g:Nat->Option Nat)(S:Nat->Prop)[DecidablePred S](k:Nat):Nat->Option Nat:=λc=>if S c then some k else g c
theorem Cm.HG{u:List E}(H:Cm h t X s m xs o q p r g)(A:Al h' p w u)(n: ∀c,w c->r c\/h.size<=c)(f:Fr r h h')(C:s'.L=s.L)(v:s'.E1=s.E1)(y:s'.E2=u)(i:s'.next=s.next/\s'.gk=s.gk/\s'.over=s.over/\s'.gone=s.gone):
  ∃k l,Cm h' t k s' m xs o q p w l/\bN X h k h'/\∀c,k.M c->X.M c\/w c:=by
 classical
 have F: ∀c,r c->c<h.size->g c=some 3:=λc a _=>H.l3 c a
 have K:=H.lK f F;have z:=f.1
 let l:=Nt g w 3
 have gV: ∀{c j:Nat},g c=some j->j≠3->l c=some j:=fun {c j} d D=>by
  show(if w c then some 3 else g c)=some j;rw[af]
  .exact d
  .intro a;rcases n c a with h3|h3
   .rw[H.l3 c h3]at d;exact D (bp d).symm
   .have:=H.Eh c (by rw[d];simp);omega
 have L: ∀c,l c≠none->g c≠none\/w c:=λc a=>by
  by_cases b:w c
  .exact .inr b
  .refine .inl ?_;have e:l c=g c:=af b;rwa[e]at a
 have N: ∀c,g c≠none->l c≠none:=λc a=>by
  by_cases b:w c
  .have e:l c=some 3:=ah b;rw[e];simp
  .have e:l c=g c:=af b;rwa[e]
 have st:bN X h ⟨λc=>l c≠none,X.D⟩ h':=by
  refine⟨f.mono (λc a b=>(H.mm c).2 (by rw[H.l3 c b];simp)),λc a=> ?_,λc a=> .inl a,λc a=>a⟩;rcases L c a with h3|h3
  .exact .inl ((H.mm c).2 h3)
  .rcases n c h3 with h4|h4
   .exact .inl ((H.mm c).2 (by rw[H.l3 c h4];simp))
   .exact .inr h4
 refine⟨⟨λc=>l c≠none,X.D⟩,l,⟨?_,K.map ae,λx b=>K.Ef x b ae,H.abs.trans C.symm,K.Bb,by rw[v];exact K.HE ae,by rw[y];exact A,gV H.l0 ae,gV H.l1 ae,λc a=>gV (H.l2 c a) ae,λc a=>ah a,λx b=>gV (H.l4 x b) ae,λc=>eU,λc a=> ?_,λc a=> ?_,H.so⟩,st,λc a=>(L c a).imp (λh=>(H.mm c).2 h) id⟩
 .rw[i.1,i.2.1,i.2.2.1,i.2.2.2];exact K.cX ae
 .have:=H.dd c a;refine⟨?_,ae⟩;show(if w c then some 3 else g c)=none;rw[af]
  .exact this.1
  .intro b;rcases n c b with h3|h3
   .rw[H.l3 c h3]at this;cases this.1
   .omega
 .rcases L c a with h3|h3
  .have:=H.Eh c h3;omega
  .exact A.lt h3
theorem Cm.HI{u:List E}(H:Cm h t X s m xs o q p r g)(A:Al h' o B u)(n: ∀c,B c->q c\/h.size<=c)(f:Fr q h h')(C:s'.L=s.L)(v:s'.E1=u)(y:s'.E2=s.E2)(i:s'.next=s.next/\s'.gk=s.gk/\s'.over=s.over/\s'.gone=s.gone):
  ∃k l,Cm h' t k s' m xs o B p r l/\bN X h k h'/\∀c,k.M c->X.M c\/B c:=by
 classical
 have F: ∀c,q c->c<h.size->g c=some 2:=λc a _=>H.l2 c a
 have K:=H.lK f F;have z:=f.1
 let l:=Nt g B 2
 have gV: ∀{c j:Nat},g c=some j->j≠2->l c=some j:=fun {c j} d D=>by
  show(if B c then some 2 else g c)=some j;rw[af]
  .exact d
  .intro a;rcases n c a with h3|h3
   .rw[H.l2 c h3]at d;exact D (bp d).symm
   .have:=H.Eh c (by rw[d];simp);omega
 have L: ∀c,l c≠none->g c≠none\/B c:=λc a=>by
  by_cases b:B c
  .exact .inr b
  .refine .inl ?_;have e:l c=g c:=af b;rwa[e]at a
 have st:bN X h ⟨λc=>l c≠none,X.D⟩ h':=by
  refine⟨f.mono (λc a b=>(H.mm c).2 (by rw[H.l2 c b];simp)),λc a=> ?_,λc a=> .inl a,λc a=>a⟩;rcases L c a with h3|h3
  .exact .inl ((H.mm c).2 h3)
  .rcases n c h3 with h4|h4
   .exact .inl ((H.mm c).2 (by rw[H.l2 c h4];simp))
   .exact .inr h4
 refine⟨⟨λc=>l c≠none,X.D⟩,l,⟨?_,K.map ae,λx b=>K.Ef x b ae,H.abs.trans C.symm,K.Bb,by rw[v];exact A,by rw[y];exact K.HF ae,gV H.l0 ae,gV H.l1 ae,λc a=>ah a,λc a=>gV (H.l3 c a) ae,λx b=>gV (H.l4 x b) ae,λc=>eU,λc a=> ?_,λc a=> ?_,H.so⟩,st,λc a=>(L c a).imp (λh=>(H.mm c).2 h) id⟩
 .rw[i.1,i.2.1,i.2.2.1,i.2.2.2];exact K.cX ae
 .have:=H.dd c a;refine⟨?_,ae⟩;show(if B c then some 2 else g c)=none;rw[af]
  .exact this.1
  .intro b;rcases n c b with h3|h3
   .rw[H.l2 c h3]at this;cases this.1
   .omega
 .rcases L c a with h3|h3
  .have:=H.Eh c h3;omega
  .exact A.lt h3
theorem Cm.del{n:Int}(H:Cm h t X s m xs o q p r g)(M:jB h' m gw (wh (xs.map CV.pair) n))(j:h'.size=h.size)(v: ∀c,c≠m->h'[c]? =h[c]?)(u:s'.L=s.L.filter (λx=> !decide ((x.num:Int)=n)))(k:s'.E1=s.E1)(l:s'.E2=s.E2)(b:s'.next=s.next/\s'.gk=s.gk/\s'.over=s.over/\s'.gone=s.gone):
  Cm h' t X s' m (xs.filter (λx=> !decide ((x.num:Int)=n))) o q p r g/\bN X h X h':=by
 have f:Fr (λc=>c=m) h h':=⟨ae,λc _ b=>v c b⟩;have i: ∀c,c=m->c<h.size->g c=some 1:=λc e _=>by rw[e];exact H.l1
 have K:=H.lK f i;have sub: ∀x∈xs.filter (λx=> !decide ((x.num:Int)=n)),x∈xs:=λx a=>(ba.1 a).1
 refine⟨⟨?_,?_,λx a=>K.Ef x (sub x a) ae,?_,λx a=>K.Bb x (sub x a),by rw[k];exact K.HE ae,by rw[l];exact K.HF ae,H.l0,H.l1,H.l2,H.l3,λx a=>H.l4 x (sub x a),H.mm,λc d=>by rw[j];exact H.dd c d,λc d=>by rw[j];exact H.Eh c d,H.so.sublist (cU.map _)⟩,H.step f i⟩
 .rw[b.1,b.2.1,b.2.2.1,b.2.2.2];exact K.cX ae
 .unfold wh at M;rw[dN]at M;exact M
 .rw[u,<-H.abs,dN];rfl
theorem Cm.change{x y:CV}(H:Cm h t X s m xs o q p r g)(d:x∈xs)(k:y.b=x.b)(C:y.num=x.num)(P:y.v=x.v)(Q:y.at h' x.b)(E:h'.size=h.size)(N: ∀c,c≠x.b->h'[c]? =h[c]?)(I:s'.L=s.L.map (λz=>if z.num=x.num then y.abs else z))(F:s'.E1=s.E1)(G:s'.E2=s.E2)(b:s'.next=s.next/\s'.gk=s.gk/\s'.over=s.over/\s'.gone=s.gone):
  Cm h' t X s' m (xs.map (λz=>if z.num=x.num then y else z)) o q p r g/\bN X h X h':=by
 have f:Fr (λc=>c=x.b) h h':=⟨ae,λc _ b=>N c b⟩;have D: ∀c,c=x.b->c<h.size->g c=some (4+x.num):=λc e _=>by rw[e];exact H.l4 x d
 have K:=H.lK f D;have M: ∀z∈xs.map (λz=>if z.num=x.num then y else z),(z=y)\/(z∈xs/\z.num≠x.num):=λz a=>by
  obtain⟨u,O,rfl⟩:=bj.1 a;by_cases e:u.num=x.num
  .rw[ah e];exact .inl rfl
  .rw[af e];exact .inr ⟨O,e⟩
 have R:(xs.map (λz=>if z.num=x.num then y else z)).map CV.pair=xs.map CV.pair:=by
  rw[dK];refine dV λz a=> ?_
  show CV.pair (if z.num=x.num then y else z)=z.pair;by_cases e:z.num=x.num
  .rw[ah e];have:z=x:=by
    obtain⟨i,v⟩:=bK a;obtain⟨j,A⟩:=bK d;have L:(xs.map CV.num).Nodup:=H.so.imp (λh=>Nat.ne_of_lt h);have J:=(aB.1 v).1;have:=(dU (l:=xs.map CV.num) (i:=i) (j:=j) (cH J) L).1 (by rw[aF,aF,v,A];simp[e]);subst this;rw[v]at A;exact bp A
   subst this;unfold CV.pair;rw[C,k]
  .rw[af e]
 refine⟨⟨?_,?_,λz a=> ?_,?_,λz a=> ?_,by rw[F];exact K.HE ae,by rw[G];exact K.HF ae,H.l0,H.l1,H.l2,H.l3,λz a=> ?_,H.mm,λc n=>by rw[E];exact H.dd c n,λc n=>by rw[E];exact H.Eh c n,?_⟩,H.step f D⟩
 .rw[b.1,b.2.1,b.2.2.1,b.2.2.2];exact K.cX ae
 .rw[R];exact K.map ae
 .rcases M z a with rfl|⟨a,e⟩
  .rw[k];exact Q
  .exact K.Ef z a ae
 .rw[I,<-H.abs,dK,dK];refine dV λz _=> ?_
  show CV.abs (if z.num=x.num then y else z)=if z.num=x.num then y.abs else z.abs
  split<;>rfl
 .rcases M z a with rfl|⟨a,_⟩
  .rw[P];exact K.Bb x d
  .exact K.Bb z a
 .rcases M z a with rfl|⟨a,_⟩
  .rw[k,C];exact H.l4 x d
  .exact H.l4 z a
 .have:(xs.map (λz=>if z.num=x.num then y else z)).map CV.num=xs.map CV.num:=by
   rw[dK];refine dV λz _=> ?_
   show CV.num (if z.num=x.num then y else z)=z.num;split
   .rename_i e;rw[C,e]
   .rfl
  rw[this];exact H.so
theorem Cm.add{y:CV}{f i:ak}(H:Cm h t X s m xs o q p r g)(f1:Fr No h f)(C:y.at f y.b)(W:h.size<=y.b)(J:Row f y.v.p (bc y.v.b))(I:y.v.b.length<=y.v.c)(n: ∀c,aL y.v.p c->h.size<=c/\c≠y.b/\c<f.size)(A: ∀x∈xs,x.num<y.num)(M:jB i m gw (EF (xs.map CV.pair) (y.num:Int) (.P y.b 0)))(V:i.size=f.size)(Q: ∀c,c≠m->i[c]? =f[c]?)(F:s'.L=s.L++ [y.abs])(e1:s'.E1=s.E1)(e2:s'.E2=s.E2)(k:s'.next=s.next/\s'.gk=s.gk/\s'.over=s.over/\s'.gone=s.gone):
  ∃u l,Cm i t u s' m (xs++ [y]) o q p r l/\bN X h u i:=by
 classical
 have z1:=f1.1;have D:=H.on f1;have f2:Fr (λc=>c=m) f i:=⟨ae,λc _ k=>Q c k⟩;have R: ∀c,c=m->c<f.size->g c=some 1:=λc e _=>by rw[e];exact H.l1
 have K:=D.lK f2 R;have Z:=aE C
 let l:=Nt g (λc=>c=y.b) (4+y.num)
 have L: ∀c,c≠y.b->l c=g c:=λc d=>af d
 have S:l y.b=some (4+y.num):=ah rfl;have T: ∀{c:Nat},g c≠none->c≠y.b:=fun {c} d e=>by have:=H.Eh c d;omega
 have gV: ∀{c j:Nat},g c=some j->l c=some j:=fun {c j} z=>by rw[L c (T (by rw[z];simp))];exact z
 let D':=λc=>X.D c\/(y.v.b≠ []/\aL y.v.p c)
 have Y:y.b≠m:=λe=>by have:=H.map.lt;omega
 have E: ∀c,D' c->l c=none/\c<i.size:=λc d=>by
  rcases d with d|⟨_,d⟩
  .have:=H.dd c d;rw[L c ae];exact⟨this.1,ae⟩
  .have:=n c d;rw[L c this.2.1];refine⟨?_,ae⟩;cases e:g c with
   |none=>rfl
   |some j=>have:=H.Eh c (by rw[e];simp);omega
 refine⟨⟨λc=>l c≠none,D'⟩,l,⟨?_,?_,λx hx=> ?_,?_,λx hx=> ?_,by rw[e1];exact K.HE ae,by rw[e2];exact K.HF ae,gV H.l0,gV H.l1,λc d=>gV (H.l2 c d),λc d=>gV (H.l3 c d),λx hx=> ?_,λc=>eU,E,λc d=> ?_,?_⟩,?_⟩
 .rw[k.1,k.2.1,k.2.2.1,k.2.2.2];exact K.cX ae
 .refine M.perm ?_;unfold EF;rw[rU (λe N=>by obtain⟨x,hx,rfl⟩:=bj.1 N;have:=A x hx;show¬((x.num:Int)=(y.num:Int));omega),aV];exact(List.perm_append_comm (l₁:= [CV.pair y]) (l₂:=xs.map CV.pair))
 .rcases bz.1 hx with hx|hx
  .exact K.Ef x hx ae
  .obtain rfl:=bM.1 hx;exact f2.get C Y
 .rw[F,<-H.abs,aV];rfl
 .rcases bz.1 hx with hx|hx
  .exact(K.Bb x hx).mono (λc d=> .inl d)
  .obtain rfl:=bM.1 hx;refine⟨J.frame f2 (λa e O=> ?_),λP c d=> .inr ⟨P,d⟩,I⟩;have f:=(n a.block ⟨a,e,rfl⟩).1;have i:=H.map.lt;have U:a.block=m:=O;omega
 .rcases bz.1 hx with hx|hx
  .exact gV (H.l4 x hx)
  .obtain rfl:=bM.1 hx;exact S
 .by_cases e:c=y.b
  .subst e;omega
  .rw[L c e]at d;have:=H.Eh c d;omega
 .rw[aV,List.pairwise_append];refine⟨H.so,bQ,λa G b v=> ?_⟩;obtain⟨x,hx,rfl⟩:=bj.1 G;simp at v;subst v;exact A x hx
 .refine⟨?_,λc d=> ?_,λc d=> ?_,λc d=> .inl d⟩
  .have f12:Fr (λc=>c=m) h i:=Fr.no f1 f2;exact f12.mono (λc _ e=>(H.mm c).2 (by rw[e,H.l1];simp))
  .by_cases e:c=y.b
   .exact .inr ae
   .have d:l c≠none:=d;rw[L c e]at d;exact .inl ((H.mm c).2 d)
  .rcases d with d|⟨_,d⟩
   .exact .inl d
   .exact .inr (n c d).1
end gx
end
end Go.Proofs.YtlenamcfacpheaaGreatDoor
namespace Go.Proofs
open Go.Den
open IntKind (wrap)
open Int (toNat)
section
open Go.Shelf
def Tryz.KX:Go.Shelf.Ren:=⟨fun|5=>134|8=>183|7=>185|19=>222|20=>223|10=>224|11=>225|12=>226|13=>227|14=>228|15=>229|16=>230|17=>231|18=>232|30=>272|31=>268|32=>269|33=>273|34=>274|35=>275|40=>306|n=>n,fun|23=>105|25=>3|3=>3|32=>211|22=>105|0=>0|44=>315|46=>27|4=>4|36=>309|35=>308|41=>253|5=>5|9=>9|53=>366|57=>369|63=>400|64=>401|n=>n,fun|n=>n⟩
theorem Tryz.Rz : Go.Proofs.SlLaysM.n5 Tryz.prog Tryz.KX := {
  mixed := by kernel_rfl
  f5 := ⟨Tryz.f134.name, by decide, Tryz.func134.trans (congrArg some (by kernel_rfl))⟩
  f7 := ⟨Tryz.f185.name, by decide, Tryz.func185.trans (congrArg some (by kernel_rfl))⟩
  f8 := Tryz.func183.trans (congrArg some (by kernel_rfl))
  f10 := ⟨Tryz.f224.name, by decide, Tryz.func224.trans (congrArg some (by kernel_rfl))⟩
  f11 := ⟨Tryz.f225.name, by decide, Tryz.func225.trans (congrArg some (by kernel_rfl))⟩
  f12 := ⟨Tryz.f226.name, by decide, Tryz.func226.trans (congrArg some (by kernel_rfl))⟩
  f13 := ⟨Tryz.f227.name, by decide, Tryz.func227.trans (congrArg some (by kernel_rfl))⟩
  f14 := ⟨Tryz.f228.name, by decide, Tryz.func228.trans (congrArg some (by kernel_rfl))⟩
  f15 := ⟨Tryz.f229.name, by decide, Tryz.func229.trans (congrArg some (by kernel_rfl))⟩
  f16 := ⟨Tryz.f230.name, by decide, Tryz.func230.trans (congrArg some (by kernel_rfl))⟩
  f17 := ⟨Tryz.f231.name, by decide, Tryz.func231.trans (congrArg some (by kernel_rfl))⟩
  f18 := ⟨Tryz.f232.name, by decide, Tryz.func232.trans (congrArg some (by kernel_rfl))⟩
  f19 := Tryz.func222.trans (congrArg some (by kernel_rfl))
  f20 := Tryz.func223.trans (congrArg some (by kernel_rfl))
  f30 := ⟨Tryz.f272.name, by decide, Tryz.func272.trans (congrArg some (by kernel_rfl))⟩
  f31 := Tryz.func268.trans (congrArg some (by kernel_rfl))
  f32 := Tryz.func269.trans (congrArg some (by kernel_rfl))
  f33 := ⟨Tryz.f273.name, by decide, Tryz.func273.trans (congrArg some (by kernel_rfl))⟩
  f34 := ⟨Tryz.f274.name, by decide, Tryz.func274.trans (congrArg some (by kernel_rfl))⟩
  f35 := ⟨Tryz.f275.name, by decide, Tryz.func275.trans (congrArg some (by kernel_rfl))⟩
  f40 := ⟨Tryz.f306.name, by decide, Tryz.func306.trans (congrArg some (by kernel_rfl))⟩
  t0 := Tryz.underlying0
  a0 := Tryz.isAgg0
  z0 := Tryz.sizeOf0
  v0 := Tryz.zeroValue0
  t3 := Tryz.underlying3
  a3 := Tryz.isAgg3
  z3 := Tryz.sizeOf3
  v3 := Tryz.zeroValue3
  t4 := Tryz.underlying4
  a4 := Tryz.isAgg4
  z4 := Tryz.sizeOf4
  v4 := Tryz.zeroValue4
  t5 := Tryz.underlying5
  a5 := Tryz.isAgg5
  z5 := Tryz.sizeOf5
  v5 := Tryz.zeroValue5
  t9 := Tryz.underlying9
  a9 := Tryz.isAgg9
  z9 := Tryz.sizeOf9
  v9 := Tryz.zeroValue9
  t22 := Tryz.underlying105
  a22 := Tryz.isAgg105
  z22 := Tryz.sizeOf105
  v22 := Tryz.zeroValue105
  t23 := Tryz.underlying105
  a23 := Tryz.isAgg105
  z23 := Tryz.sizeOf105
  v23 := Tryz.zeroValue105
  t25 := Tryz.underlying3
  a25 := Tryz.isAgg3
  z25 := Tryz.sizeOf3
  v25 := Tryz.zeroValue3
  t32 := Tryz.underlying211
  a32 := Tryz.isAgg211
  z32 := Tryz.sizeOf211
  v32 := Tryz.zeroValue211
  t35 := Tryz.underlying308
  a35 := Tryz.isAgg308
  z35 := Tryz.sizeOf308
  v35 := Tryz.zeroValue308
  t36 := Tryz.underlying309
  a36 := Tryz.isAgg309
  z36 := Tryz.sizeOf309
  v36 := Tryz.zeroValue309
  t41 := Tryz.underlying253
  a41 := Tryz.isAgg253
  z41 := Tryz.sizeOf253
  v41 := Tryz.zeroValue253
  t44 := Tryz.underlying315
  a44 := Tryz.isAgg315
  z44 := Tryz.sizeOf315
  v44 := Tryz.zeroValue315
  t46 := Tryz.underlying27
  a46 := Tryz.isAgg27
  z46 := Tryz.sizeOf27
  v46 := Tryz.zeroValue27
  t53 := Tryz.underlying366
  a53 := Tryz.isAgg366
  z53 := Tryz.sizeOf366
  v53 := Tryz.zeroValue366
  t57 := Tryz.underlying369
  a57 := Tryz.isAgg369
  z57 := Tryz.sizeOf369
  v57 := Tryz.zeroValue369
  t63 := Tryz.underlying400
  a63 := Tryz.isAgg400
  z63 := Tryz.sizeOf400
  v63 := Tryz.zeroValue400
  t64 := Tryz.underlying401
  a64 := Tryz.isAgg401
  z64 := Tryz.sizeOf401
  v64 := Tryz.zeroValue401 }

end
end Go.Proofs
namespace Go.Proofs.YtlenamcfacpheaaGreatDoor
open Go.Den
open IntKind (wrap)
open Int (toNat)
section
open Go.Sort
namespace Xk
variable {h:ak} {R:fG} {p:bZ} {n c:Nat} {xs:List Int}
abbrev iv(x:Int):Value:=.int .i64 x
theorem Dt(o:fi h p n c 1 (xs.map iv))(D:n=xs.length)(nd:xs.Nodup)(A:n<=60000)(hk: ∀h' (zs:List Int),fi h' p n c 1 (zs.map iv)->zs.Perm xs->zs.Pairwise (· < ·)->Fr (aL p) h h'->R (.tuple #[]) h'):
  Cl 134 #[.slice p n c] h R:=by
 subst D;intro w m;cases o with
 |nil l B g z=>
  obtain rfl:=List.eq_nil_of_length_eq_zero B;refine(AnyM.slices_Sort_int_none Tryz.Rz p c w).mono ?_;rintro e w' ⟨rfl,rfl⟩;exact⟨_,rfl,hk _ [] (by rw[m];exact .nil l rfl g rfl) (.refl _) .nil (by rw[m];exact Fr.refl _ _),fM.refl _⟩
 |row b off C t l d f g s z=>
  subst l;subst m;have u: ∀(zs:List Int)(j:Nat),j<zs.length->zs.toArray[j]! =zs.getD j 0:=λzs j H=>by
   simp[getElem!_pos,H]
  refine(AnyM.slices_Sort_int Tryz.Rz b off c xs w (λj H=> ?_) (aE d) ae).mono ?_
  .have H:j<xs.length:=by simpa using H
   refine⟨?_,by rw[rM];exact lF d⟩;rw[ky,kf d,u xs j H];exact z j _ (by rw[aF,aj H,bh,aj H];rfl)
  .rintro e w' ⟨rfl,k,O,rfl⟩;have pm:=List.mergeSort_perm xs λx y=>decide (x<=y)
   have so:(xs.mergeSort λx y=>decide (x<=y)).Pairwise (· < ·):=by
    have s1:=List.pairwise_mergeSort (le:=λ(x y:Int)=>decide (x<=y)) (λa b c f s=>by simp at f s⊢;omega) (λa b=>by simp;omega) xs;have S:(xs.mergeSort λx y=>decide (x<=y)).Nodup:=pm.nodup_iff.2 nd;exact(s1.and S).imp fun {a b} h=>by have:=aP h.1;have:=h.2;omega
   generalize (xs.mergeSort λx y=>decide (x<=y))=zs at pm so⊢;have J:zs.length=xs.length:=pm.length_eq;have G: ∀x,x<w.heap.size->x≠b->(w.heap.modify b (onCells (putCells (Value.int .i64) off zs.toArray))++O)[x]? =w.heap[x]? :=λx r E=>by
    rw[dP (cH r),dy,af (λe=>E e.symm)]
   have F:(w.heap.modify b (onCells (putCells (Value.int .i64) off zs.toArray))++O)[b]? =some (.cells (putCells (Value.int .i64) off zs.toArray C) t (0,0)):=by
    rw[dP (cH (aE d)),dy,ah rfl,d];rfl
   refine⟨_,rfl,hk _ zs (.row b off _ t rfl F f (by unfold putCells;rw[Array.size_mapIdx];exact g) (by simp[J]) λj v H=> ?_) pm so ?_,⟨rfl,rfl,rfl⟩⟩
   .rw[aF]at H;have i:j<zs.length:=by
     rcases Nat.lt_or_ge j zs.length with q|q
     .exact q
     .rw[dI q]at H;cases H
    rw[aj i]at H;obtain rfl:=bp H;unfold putCells;have I:off+j<C.size:=ae
    rw[Array.getElem?_mapIdx,Array.getElem?_eq_getElem I,dk,ah ⟨ae,by simp;omega⟩,show off+j - off=j by omega,u zs j i,bh,aj i];rfl
   .refine⟨by show _<=(w.heap.modify b _++O).size;simp,λx r A=>G x r (λe=>A ⟨_,rfl,e.symm⟩)⟩

end Xk
end
section
open Go.kQ
namespace gx
open iY cf
variable {h h':ak} {R:fG} {t:Nat} {X:Ft} {s:CF} {m A f:Nat} {xs:List CV} {S d:Nat→Prop} {L:Nat→Option Nat} {p:bZ} {n c:Nat}
theorem Ye:Tryz.prog.underlying 105=some (.slice 3):=cZ
theorem fO(H:Cm h t X s m xs A S f d L)(hk:R (.bool true) h):Cl 47 #[.P t 0] h R:=vB.walk ⟨_,aq H.cX,hk⟩
def kx(xs:List CV):List Int:=xs.map (λx=>(x.num:Int))
theorem yL(H:Cm h t X s m xs A S f d L):(kx xs).Pairwise (· < ·):=by
 have:=H.so;rw[en]at this;unfold kx;rw[en];exact this.imp (λh=>ae)
theorem uk(H:Cm h t X s m xs A S f d L)(hl:xs.length<=60000)(hk: ∀h' P C,fi h' P xs.length C 1 ((kx xs).map gw)->(∀y,aL P y->h.size<=y)->Fr No h h'->R (.slice P xs.length C) h'):
  Cl 68 #[.P t 0] h R:=by
 refine rj.walk (fO H ⟨_,rfl,aI.of λa' M=> ?_⟩);rw[ah rfl];refine⟨_,cK H.cX rfl,zt nO H.map λit J e1 I f1=>⟨_,rfl,?_⟩⟩;refine⟨λop o O g=> ∃ds:List (Int×Value),o=ds.length/\fi g op o O 1 ((ds.map (·.1)).map gw)/\(∀y,aL op y->h.size<=y/\y≠it)/\Iter g it m gw (xs.map CV.pair) ds/\Fr No h g,λ_ o _ _=>xs.length - o,
  ⟨[],rfl,.nil rfl rfl rfl rfl,(λy ⟨a,e,_⟩=>by cases e),I,f1⟩,?_⟩
 rintro op o O g ⟨ds,rfl,B,j,k,q⟩;have N:=k.le;rw[aA]at N;refine Cg k (λr=> .inl ⟨rfl,?_⟩) (λa v G hm c' I s1 o1=> .inr ⟨_,_,rfl,?_⟩)
 .subst M;dsimp only;have u:(ds.map (·.1)).Perm (kx xs):=by
   have:=r.map (·.1);rw[dK]at this;exact this
  have so:=yL H;have nd:(ds.map (·.1)).Nodup:=u.nodup_iff.2 (so.imp (λh=>ae));have Q:ds.length=xs.length:=by rw[r.length_eq,aA]
  refine Xk.Dt B (by rw[aA]) nd ae λK zs z p3 s3 f3=>⟨rfl,?_⟩
  have:zs=kx xs:=List.Perm.eq_of_pairwise (le:=(· < ·)) (λa b _ _ J h2=>ae) s3 so (p3.trans u);subst this;rw[Q]at z⊢;exact hk K op O z (λy i=>(j y i).1) (q.fresh f3 (λy i=>(j y i).1))
 .refine zB I ⟨_,_,rfl,_,rfl,cI ?_⟩;have f3:Fr No G (G.push (.cells #[.I a] 3)):=Fr.push _ _;have D:Row (G.push (.cells #[.I a] 3)) (Sa G.size 0) [gw a]:=iS (cs:= [gw a]);have z3:(G.push (.cells #[.I a] 3)).size=G.size+1:=du _;generalize G.push (.cells #[.I a] 3)=g3 at f3 D z3⊢;have l:Fr (λy=>y=it) g G:=⟨ae,λy _ T=>o1 y T⟩;have Z:=(B.frame l (λy i e=>(j y i).2 e)).frame f3 (λ_ _=>id);have zf:=f1.1;have F:Fr No h G:=q.fresh l (λy e=>ae);have E:=F.tt f3;have d':it<G.size:=by
   obtain⟨_,_,_,_,_,_,V,_⟩:=I;exact aE V
  refine dD (cs:=(ds.map (·.1)).map gw) (ds:= [gw a]) tI Ye Z D rfl (λv w=>by simp at w;subst w;rfl) ae ae λp4 c4 g4 Y _ f4 W=>⟨_,_,_,rfl,?_⟩
  have U: ∀y,aL p4 y->h.size<=y/\y≠it:=by
   intro y i;rcases W y i with h5|h5
   .exact j y h5
   .have:=F.1;exact⟨ae,ae⟩
  refine⟨⟨ds++ [(a,v)],bQ,?_,U,?_,E.fresh f4 (λy i=>(j y i).1)⟩,?_⟩
  .rw[aV,aV];exact Y
  .have b':m<h.size:=H.map.lt;exact(I.frame f3 id id).frame f4 (λi=>(j it i).2 rfl) (λi=>by have:=(j m i).1;omega)
  .have:=I.le;rw[ar,aA,dG]at this;show xs.length - (ds.length+1)<xs.length - ds.length;omega
theorem look(H:Cm h t X s m xs A S f d L){x:CV}(a:x∈xs):ig Tryz.prog 107 (.map (some m)) (.I (x.num:Int)) false h (.P x.b 0):=by
 have:=I7 nO H.map (x.num:Int);have e:sh (xs.map CV.pair) (x.num:Int)=some (.P x.b 0):=(Cd H.map.nodup).2 (bj.2 ⟨x,a,rfl⟩);rw[e]at this;exact this
theorem PQ(H:Cm h t X s m xs A S f d L){n:Int}(b: ∀x∈xs,(x.num:Int)≠n):ig Tryz.prog 107 (.map (some m)) (.I n) false h (.pointer none):=by
 have:=I7 nO H.map n;have e:sh (xs.map CV.pair) n=none:=Ca.2 (λe a=>by obtain⟨x,g,rfl⟩:=bj.1 a;exact b x g);rw[e]at this;exact this
structure Env (h:ak) (t:Nat) (m:Nat) (xs:List CV) (c0 c1:Nat) (x:Ev):Prop where
 b0:h[c0]? =some (.cells #[.pointer (some ⟨t,0,none⟩)] 36 (0,0))
 b1:Ev.at h c1 x
 cm: ∃X s A S f d L,Cm h t X s m xs A S f d L
variable {c0 c1 : Nat} {x : Ev}
theorem Nu(V:Env h t m xs c0 c1 x){y:CV}(a:y∈xs)(hk:R (.bool (!decide (y.e=x))) h):Cl 113 #[.I (y.num:Int),.P c0 0,.P c1 0] h R:=by
 obtain⟨X,s,A,S,f,d,L,H⟩:=V.cm;have C:=H.Ef y a;refine vC.walk ⟨_,aq V.b0,az.2 ⟨_,aq H.cX,_,look H a,az.2 ⟨_,aq C,_,aq C,_,aq C,_,aq C,_,aq C,?_⟩⟩⟩;exact ax.ld V.b1 ⟨_,u0 (x:=y.e) (y:=x) rfl rfl,hk⟩
def kK(xs:List CV)(x:Ev)(n:Int):Bool:=xs.any (λy=>decide ((y.num:Int)=n) && decide (y.e=x))
theorem wO(so:(kx xs).Pairwise (· < ·)){y:CV}(b:y∈xs):kK xs x (y.num:Int)=decide (y.e=x):=by
 unfold kK;by_cases e:y.e=x
 .rw[aw e,List.any_eq_true];exact⟨y,b,by simp[e]⟩
 .rw[aD e,List.any_eq_false];intro z q;simp only[aS,aZ,not_and];intro k;have:z=y:=by
   obtain⟨i,H⟩:=bK q;obtain⟨j,a⟩:=bK b;have o:(kx xs).Nodup:=so.imp (λh=>ae);have g:=(aB.1 H).1;have:=(dU (l:=kx xs) (i:=i) (j:=j) (by simpa[kx]using g) o).1 (by unfold kx;rw[aF,aF,H,a];simp[k]);subst this;rw[H]at a;exact bp a
  rw[this];exact e
theorem Sg{ns:List Int}(V:Env h t m xs c0 c1 x)(o:fi h p n c 1 (ns.map gw))(w:n=ns.length)(G:n<=60000)(z: ∀k∈ns,∃y∈xs,k=(y.num:Int))(K: ∀i,i<n->(∀j,j<i->∀k,ns[j]? =some k->kK xs x k=true)->(∀k,ns[i]? =some k->kK xs x k=false)->R (.I (i:Int)) h)(B:(∀k∈ns,kK xs x k=true)->R (.I (-1)) h):
  Cl 168 #[.slice p n c,.func (.func 113) #[] #[.P c0 0,.P c1 0]] h R:=by
 subst w;have so:(kx xs).Pairwise (· < ·):=by obtain⟨X,s,A,S,f,d,L,H⟩:=V.cm;exact yL H
 refine iu.of.walk ?_;refine⟨λu g=>g=h/\∃i:Nat,u=(i:Int)/\i<=ns.length/\∀j,j<i->∀k,ns[j]? =some k->kK xs x k=true,λu _=>ns.length - u.toNat,⟨rfl,0,rfl,br _,λj b=>ae⟩,?_⟩;rintro _ g ⟨rfl,i,rfl,I,l⟩;by_cases q:i<ns.length
 .rw[gh];have hk:ns[i]? =some ns[i]:=aj q;generalize ns[i]=k at hk;obtain⟨y,r,rfl⟩:=z k (aJ hk);obtain⟨D,F,rfl⟩:=o.addr ae;have C:=o.cell (j:=i) (v:=gw (y.num:Int)) (by rw[aF,hk];rfl);simp only[aC,cp];refine⟨ae,az.2 ⟨_,C,Nu V r ⟨_,rfl,?_⟩⟩⟩;have kn:=wO (x:=x) so r;by_cases e:y.e=x
  .rw[aw e,dz,bB ae ae];rw[aw e]at kn;refine⟨⟨rfl,i+1,ae,ae,λj b k a=> ?_⟩,by show ns.length - Int.toNat ((i:Int)+1)<ns.length - i;omega⟩;by_cases E:j=i
   .subst E;rw[hk]at a;cases a;exact kn
   .exact l j ae k a
  .rw[aD e,gh];rw[aD e]at kn;exact K i q l (λk a=>by rw[hk]at a;cases a;exact kn)
 .rw[af (by simp;omega)];exact B (λk hk=>by
   obtain⟨j,b⟩:=bK hk;exact l j (bR ((aB.1 b).1)) k b)
theorem Hq{ns:List Int}(V:Env h t m xs c0 c1 x)(o:fi h p n c 1 (ns.map gw))(D:n=ns.length)(Y:n<=60000)(N: ∀k∈ns,∃y∈xs,k=(y.num:Int))(W: ∀g,Fr (aL p) h g->Env g t m xs c0 c1 x)(hk: ∀h' E,fi h' p (ns.filter (kK xs x)).length E 1 ((ns.filter (kK xs x)).map gw)->Fr (aL p) h h'->R (.slice p (ns.filter (kK xs x)).length E) h'):
  Cl 112 #[.slice p n c,.func (.func 113) #[] #[.P c0 0,.P c1 0]] h R:=by
 subst D;have so:(kx xs).Pairwise (· < ·):=by obtain⟨X,s,A,S,f,d,L,H⟩:=V.cm;exact yL H
 have one: ∀v∈((.I 0:Value)).cells.toList,fX v=true:=λv hv=>by
  have:v=.I 0:=by simpa[Value.cells]using hv
  subst this;rfl
 refine ml.of.walk (Sg V o rfl Y N (λi Z l M=>⟨_,rfl,?_⟩) (λl=>⟨_,rfl,?_⟩))
 .rw[af (by intro h;have h:=eq_of_beq h;omega),bB ae ae];have T:(ns.take i).filter (kK xs x)=ns.take i:=by
   rw[cB];intro k b';obtain⟨j,a⟩:=bK b';rw[db]at a;split at a
   .rename_i a';exact l j a' k a
   .cases a
  have Q:(ns.take (i+1)).filter (kK xs x)=ns.take i:=by
   have hk:ns[i]? =some ns[i]:=aj Z;rw[bm,hk,fQ,T];simp[M _ hk]
  refine⟨λu w g=> ∃(i j:Nat)(vs:List Int),u=(i:Int)/\w=(j:Int)/\i<=j/\j<=ns.length/\vs.length=ns.length/\fi g p ns.length c 1 (vs.map gw)/\vs.take i=(ns.take j).filter (kK xs x)/\(∀q,j<=q->vs[q]? =ns[q]?)/\Fr (aL p) h g,λ_ w _=>ns.length - w.toNat,
   ⟨i,i+1,ns,rfl,ae,ae,ae,rfl,o,Q.symm,λ_ _=>rfl,Fr.refl _ _⟩,?_⟩
  clear T Q l M;rintro _ _ g ⟨i,j,vs,rfl,rfl,f',a,K,O,b,B,F⟩;have C:((ns.take j).filter (kK xs x)).length=i:=by rw[<-b,bC];omega
  by_cases d':j<ns.length
  .rw[gh];refine aI.of λe' I=> ?_
   have r:ns[j]? =some ns[j]:=aj d';generalize ns[j]=k at r;obtain⟨y,P,rfl⟩:=N k (aJ r);obtain⟨ab,ao,rfl⟩:=O.addr ae;have c':vs[j]? =some (y.num:Int):=by rw[B j (bn _)];exact r
   have U:=O.cell (j:=j) (v:=gw (y.num:Int)) (by rw[aF,c'];rfl);simp only[aC,cp];have kn:=wO (x:=x) so P;have tk:(ns.take (j+1)).filter (kK xs x)=(ns.take j).filter (kK xs x)++(if y.e=x then [(y.num:Int)]else []):=by
    rw[bm,r,fQ];congr 1
    show [(y.num:Int)].filter (kK xs x)=_;rw[cz,kn];by_cases e:y.e=x<;>simp[e]
   refine⟨ae,az.2 ⟨_,U,Nu (W g F) P ⟨_,rfl,aI.of λJ1 J=> ?_⟩⟩⟩;by_cases e:y.e=x
   .rw[aw e,gh];rw[ah e]at tk;refine⟨ae,az.2 (O.store (by rw[aA];omega) λG o2 s2 q2=> ?_)⟩;subst J;subst I;have e2:(vs.map gw).set i (.I (y.num:Int))=(vs.set i (y.num:Int)).map gw:=by rw[List.map_set]
    rw[e2]at o2;dsimp only;rw[bB (n:=(i:Int)+1) ae ae,bB (n:=(j:Int)+1) ae ae];refine⟨⟨i+1,j+1,_,ae,ae,ae,ae,by rw[dj];exact K,o2,?_,λq hq=> ?_,F.tt ⟨ae,λz _ D=>q2 z D⟩⟩,by show ns.length - Int.toNat ((j:Int)+1)<ns.length - j;omega⟩
    .rw[tk,<-b,bm,List.getElem?_set_self ae];congr 1
     apply fK
     intro q;rw[db,db];split
     .rw[List.getElem?_set_ne ae]
     .rfl
    .rw[List.getElem?_set_ne ae];exact B q ae
   .rw[aD e,dz];rw[af e,List.append_nil]at tk;subst J;subst I;dsimp only;rw[bB (n:=(j:Int)+1) ae ae];exact⟨⟨i,j+1,vs,rfl,ae,ae,ae,K,O,by rw[tk,b],λq hq=>B q ae,F⟩,by show ns.length - Int.toNat ((j:Int)+1)<ns.length - j;omega⟩
  .rw[af (by simp;omega)];obtain rfl:j=ns.length:=ae
   rw[dZ]at b C;simp only[aC,Nat.sub_zero];refine⟨ae,B2 tI one O ae λG o2 f2=>⟨rfl,⟨ae,bR O.le⟩,?_⟩⟩;rw[iE];rw[cp,<-List.map_take,b]at o2;have:=hk G c (by rw[C];exact o2) (F.tt f2);rw[C]at this;exact this
 .rw[ah (by rfl)];have e:ns.filter (kK xs x)=ns:=by rw[cB];exact l
  have:=hk h c (by rw[e];exact o) (Fr.refl _ _);rw[e]at this;exact this
theorem KY(so:(kx xs).Pairwise (· < ·)):(kx xs).filter (kK xs x)=kx (xs.filter (λy=>decide (y.e=x))):=by
 unfold kx;rw[dN];congr 1
 exact ee (λy H=>wO so H)
theorem Cs(H:Cm h t X s m xs A S f d L)(x:Ev)(l:xs.length<=60000) (hk: ∀h' P C,fi h' P (xs.filter (λy=>decide (y.e=x))).length C 1 ((kx (xs.filter (λy=>decide (y.e=x)))).map gw)->(∀y,aL P y->h.size<=y)->Fr No h h'->R (.slice P (xs.filter (λy=>decide (y.e=x))).length C) h'):
  Cl 49 #[.P t 0,kO x] h R:=by
 refine yq.walk (cI ?_);have f1:Fr No h (h.push (.cells #[.P t 0] 36)):=Fr.push _ _;have b1:(h.push (.cells #[.P t 0] 36))[h.size]? =some (.cells #[.P t 0] 36 (0,0)):=bV;have Z:(h.push (.cells #[.P t 0] 36)).size=h.size+1:=du _;generalize h.push (.cells #[.P t 0] 36)=u at f1 b1 Z⊢;refine ax.box λc1 v e2 j f2=>⟨_,aq (f2.get b1 id),?_⟩
 have I:=aE j;refine uk (H.on (f1.tt f2)) l λi q l3 O G f3=>⟨_,_,_,rfl,?_⟩
 have b:=f1.tt (f2.tt f3);have e:=H.on b;have J:=f2.1;have V:Env i t m xs h.size c1 x:=⟨(f2.tt f3).get b1 id,f3.get j id,X,s,A,S,f,d,L,e⟩;have z: ∀g,Fr (aL q) i g->Env g t m xs h.size c1 x:=λg F=>
  ⟨F.get V.b0 (λa=>bR (G _ a)),F.get V.b1 (λa=>bR (G _ a)),X,s,A,S,f,d,L,e.frame F (λy a B=>by
   have u:=G y B;have v:y<h.size:=(Ct.lt (s:=s) ⟨m,xs,A,S,f,d,L,H⟩ y a);omega)⟩
 have nl:(kx xs).length=xs.length:=by unfold kx;rw[aA]
 refine Hq V O nl.symm l (λk D=>by
  obtain⟨y,a,rfl⟩:=bj.1 D;exact⟨y,a,rfl⟩) z λw r o f4=>⟨_,_,_,rfl,?_⟩
 have E:=KY (x:=x) (yL H);have el:((kx xs).filter (kK xs x)).length=(xs.filter (λy=>decide (y.e=x))).length:=by rw[E];unfold kx;rw[aA]
 rw[el]at o⊢;rw[E]at o;exact hk w q r o (λy a=>bR (G y a)) (b.fresh f4 (λy a=>bR (G y a)))
end gx
end
section
open Go.kQ
namespace gx
open iY cf hM
variable {h h':ak} {R:fG} {t:Nat} {X:Ft} {s s':CF} {m A b:Nat} {xs:List CV} {S a:Nat→Prop} {d:Nat→Option Nat} {n c:Nat}
variable {z:Cp} {K:ak->Prop} {L:List Cp}
def Bu(L:List Cp)(n:Int):List Cp:=L.filter (λx=> !decide ((x.num:Int)=n))
def oM(L:List Cp)(n:Nat)(ses:Int)(dl:Nat):List Cp:=L.map (λx=>if x.num=n then { x with ses:=ses,dl:=dl } else x)
def Du(s:CF)(n:Int):CF:= { s with L:=Bu s.L n,E1:=fS s.E1 n,E2:=fS s.E2 n }
def rq(s:CF)(n:Nat):CF:= { s with L:=oM s.L n 0 0,E2:=fS s.E2 (n:Int) }
theorem oK(L:List E)(k:Int):(fS L k).length<=L.length:=cC _ _
structure Small (s:CF):Prop where
 n:s.next<=50000
 l:s.L.length<=50000
 e1:s.E1.length<=50000
 e2:s.E2.length<=50000
theorem Cm.len(H:Cm h t X s m xs A S b a d):xs.length=s.L.length:=by rw[<-H.abs,aA]
theorem gu(hk: ∀h' t X,Ct h' t X ⟨[],1,0,0,0, [], []⟩->MA h X h'->R (.P t 0) h'):Cl 37 #[] h R:=by
 classical
 refine HC.walk (cI ?_);have f1:Fr No h (h.push (.map #[] 0)):=Fr.push _ _;have M:=jB.push (α:=Int) h gw;have Z:(h.push (.map #[] 0)).size=h.size+1:=du _;generalize h.push (.map #[] 0)=p at f1 M Z⊢;refine cf.gu λA S i A1 G f2=>⟨_,rfl,cf.gu λb a H f o f3=>⟨_,rfl,cI ?_⟩⟩
 have f4:Fr No H (H.push (.cells #[.map (some h.size),.I 1,.I 0,.I 0,.I 0,.P A 0,.P b 0] 110)):=Fr.push _ _;have y:=f2.1;have D:=f3.1;have v:(H.push (.cells #[.map (some h.size),.I 1,.I 0,.I 0,.I 0,.P A 0,.P b 0] 110)).size=H.size+1:=du _;have B:(H.push (.cells #[.map (some h.size),.I 1,.I 0,.I 0,.I 0,.P A 0,.P b 0] 110))[H.size]? =some (.cells #[.map (some h.size),.I 1,.I 0,.I 0,.I 0,.P A 0,.P b 0] 110 (0,0)):=bV;generalize H.push (.cells #[.map (some h.size),.I 1,.I 0,.I 0,.I 0,.P A 0,.P b 0] 110)=j at f4 v B⊢;have l1: ∀c,S c->p.size<=c/\c<i.size:=λc hc=>⟨G c hc,A1.lt hc⟩
 have l2: ∀c,a c->i.size<=c/\c<H.size:=λc hc=>⟨o c hc,f.lt hc⟩
 let d:Nat->Option Nat:=λc=>if c=H.size then some 0 else if c=h.size then some 1 else if S c then some 2 else if a c then some 3 else none
 have r: ∀c,S c->d c=some 2:=λc hc=>by
  have:=l1 c hc;show(if c=H.size then some 0 else if c=h.size then some 1 else if S c then some 2 else if a c then some 3 else none)=_;rw[dz,dz,ah hc]
 have u: ∀c,a c->d c=some 3:=λc hc=>by
  have w:=l2 c hc;show(if c=H.size then some 0 else if c=h.size then some 1 else if S c then some 2 else if a c then some 3 else none)=_;rw[dz,dz,af (λq=>bR (l1 c q)),ah hc]
 have l: ∀c,d c≠none->h.size<=c/\c<j.size:=λc hc=>by
  by_cases c1:c=H.size
  .omega
  by_cases k:c=h.size
  .omega
  by_cases C:S c
  .have:=l1 c C;omega
  by_cases g:a c
  .have:=l2 c g;omega
  exact absurd (show(if c=H.size then some 0 else if c=h.size then some 1 else if S c then some 2 else if a c then some 3 else none)=none by rw[af c1,af k,af C,af g]) hc
 refine hk j H.size ⟨λc=>d c≠none,λ_=>False⟩ ⟨h.size, [],A,S,b,a,d,⟨B,(M.frame (f2.tt f3) id).frame f4 id,(λx e=>by cases e),rfl,(λx e=>by cases e),A1.frame (f3.tt f4) cb,f.frame f4 cb,ah rfl,?_,r,u,(λx e=>by cases e),λc=>eU,λc hc=>hc.elim,λc hc=>(l c hc).2,.nil⟩⟩ ⟨f1.tt (f2.tt (f3.tt f4)),λc hc=> ?_⟩
 .show(if h.size=H.size then some 0 else if h.size=h.size then some 1 else if S h.size then some 2 else if a h.size then some 3 else none)=some 1;rw[dz,ah rfl]
 .rcases hc with hc|hc
  .exact(l c hc).1
  .exact hc.elim
theorem RA(H:Cm h t X s m xs A S b a d)(j:s.E2.length<1000000)(k:Int)(hk: ∀h' x l (e:Int),Cm h' t x { s with E2:=fS s.E2 k } m xs A S b a l->bN X h x h'->R (.I e) h'):
  Cl 115 #[.P b 0,.I k] h R:=by
 refine cf.pI H.HF j k (λ_ g A1 f1=> ?_) (λo=> ?_)
 .obtain⟨x,l,f,st,_⟩:=H.HG (s':= { s with E2:=fS s.E2 k }) A1 (λc i=> .inl i) f1 rfl rfl rfl ⟨rfl,rfl,rfl,rfl⟩;exact hk g x l 0 f st
 .have e:({ s with E2:=fS s.E2 k } :CF)=s:=by rw[j4 o]
  exact hk h X d 4 (by rw[e];exact H) (bN.refl _ _)
theorem T0(H:Cm h t X s m xs A S b a d)(j:s.E1.length<1000000)(k:Int)(hk: ∀h' x l (e:Int),Cm h' t x { s with E1:=fS s.E1 k } m xs A S b a l->bN X h x h'->R (.I e) h'):
  Cl 115 #[.P A 0,.I k] h R:=by
 refine cf.pI H.HE j k (λ_ g A1 f1=> ?_) (λo=> ?_)
 .obtain⟨x,l,f,st,_⟩:=H.HI (s':= { s with E1:=fS s.E1 k }) A1 (λc i=> .inl i) f1 rfl rfl rfl ⟨rfl,rfl,rfl,rfl⟩;exact hk g x l 0 f st
 .have e:({ s with E1:=fS s.E1 k } :CF)=s:=by rw[j4 o]
  exact hk h X d 4 (by rw[e];exact H) (bN.refl _ _)
theorem oL(H:Ct h t X s)(g:Small s)(k:Int)(hk: ∀h' x,Ct h' t x (Du s k)->bN X h x h'->R (.tuple #[]) h'):
  Cl 119 #[.P t 0,.I k] h R:=by
 obtain⟨m,xs,A,S,b,a,d,H⟩:=H;have:=g.e1;have:=g.e2;refine sI.walk ⟨_,aq H.cX,RA H ae k λv u y _ f st1=>⟨_,rfl,_,aq f.cX,T0 f (by show s.E1.length<_;omega) k λw j B _ e q=>⟨_,rfl,_,aq e.cX,EH nO e.map (k:=k) λl M p o=>⟨rfl,?_⟩⟩⟩⟩;obtain⟨i,r⟩:=e.del (s':=Du s k) M p o rfl rfl rfl ⟨rfl,rfl,rfl,rfl⟩;exact hk l j ⟨_,_,_,_,_,_,_,i⟩ (st1.trans (q.trans r))
theorem um(H:Cm h t X s m xs A S b a d)(f:z∈s.L): ∃x∈xs,x.abs=z:=by
 rw[<-H.abs]at f;obtain⟨x,g,e⟩:=bj.1 f;exact⟨x,g,e⟩
theorem Cm.Cu{x:CV}{ses:Int}{dl:Nat}(H:Cm h t X s m xs A S b a d)(k:x∈xs)(hk: ∀h',Cm h' t X { s with L:=oM s.L x.num ses dl } m (xs.map (λz=>if z.num=x.num then { x with ses:=ses,dl:=dl } else z)) A S b a d->bN X h X h'->K h'):
  aQ h (((AA x.b 0):Addr).add 8) (.I ses) λo=>aQ o (((AA x.b 0):Addr).add 9) (.U (dl:Int)) K:=by
 rw[gU,gU];have v:=H.Ef x k;refine bL v bQ λo c1 s1 o1=>bL c1 bQ λp C G o2=> ?_
 have E:({ x with ses:=ses,dl:=dl } :CV).at p x.b:=C;obtain⟨r,st⟩:=H.change (s':= { s with L:=oM s.L x.num ses dl }) (y:= { x with ses:=ses,dl:=dl }) k rfl rfl rfl E ae (λc q=>by rw[o2 c q,o1 c q]) (by
  show oM s.L x.num ses dl=_;unfold oM;refine dV λz F=> ?_
  by_cases e:z.num=x.num
  .rw[ah e,ah e];obtain⟨u,D,rfl⟩:=um H F;have e:u.num=x.num:=e;have:u=x:=by
    obtain⟨i,f⟩:=bK D;obtain⟨j,g⟩:=bK k;have B:(xs.map CV.num).Nodup:=H.so.imp (λh=>Nat.ne_of_lt h);have w:=(aB.1 f).1;have:=(dU (l:=xs.map CV.num) (i:=i) (j:=j) (cH w) B).1 (by rw[aF,aF,f,g];simp[e]);subst this;rw[f]at g;exact bp g
   rw[this];rfl
  .rw[af e,af e]) rfl rfl ⟨rfl,rfl,rfl,rfl⟩
 exact hk p r st
theorem Jp(H:Ct h t X s)(o:Small s)(l:z∈s.L)(hk: ∀h' g,Ct h' t g (rq s z.num)->bN X h g h'->R (.tuple #[]) h'):
  Cl 120 #[.P t 0,.I (z.num:Int)] h R:=by
 obtain⟨m,xs,A,S,b,a,d,H⟩:=H;obtain⟨x,f,rfl⟩:=um H l;have:=o.e2;refine vE.walk ⟨_,aq H.cX,RA H ae _ λq j r _ e st1=>⟨_,rfl,_,aq e.cX,_,look e f,_,aq e.cX,_,look e f,?_⟩⟩;refine az.2 (e.Cu (ses:=0) (dl:=0) f λk i p=>hk k j ⟨_,_,_,_,_,_,_,i⟩ (st1.trans p))
def yr(L:List Cp)(n:Int):Option Cp:=L.find? (λx=>decide ((x.num:Int)=n))
theorem wP{n:Int}(h:yr L n=some z):z∈L/\(z.num:Int)=n:=⟨eX h,cH (List.find?_some h)⟩
theorem KZ{n:Int}:yr L n=none↔ ∀z∈L,(z.num:Int)≠n:=by unfold yr;simp
def km(L:List Cp)(n ses:Int):Int:=match yr L n with|none=>4|some z=>if z.ses=0\/z.ses≠ses then 14 else 0
theorem jc(H:Ct h t X s)(num ses:Int)(hk: ∀q,R (.tuple #[.pointer q,.I (km s.L num ses)]) h):
  Cl 165 #[.P t 0,.I num,.I ses] h R:=by
 obtain⟨m,xs,A,S,b,a,d,H⟩:=H;refine vD.walk (fO H ⟨_,rfl,?_⟩);rw[dz];unfold km at hk;cases i:yr s.L num with
 |none=>
  rw[i]at hk;have l: ∀x∈xs,(x.num:Int)≠num:=λx j=>KZ.1 i x.abs (by rw[<-H.abs];exact bu j)
  refine⟨_,aq H.cX,_,PQ H l,?_⟩;rw[ah (by rfl)];exact hk none
 |some z=>
  rw[i]at hk;dsimp only at hk;obtain⟨o,rfl⟩:=wP i;obtain⟨x,j,rfl⟩:=um H o;have L:=look H j;have C:=H.Ef x j;refine⟨_,aq H.cX,_,L,?_⟩;rw[af bQ];refine aI.of λJ k=>⟨_,aq H.cX,_,L,az.2 ⟨_,aq C,?_⟩⟩
  have bad:(x.ses=0\/x.ses≠ses)->J true h:=λhb=>by
   subst k;simp only[bg];have:=hk none;have e:(if x.abs.ses=0\/x.abs.ses≠ses then(14:Int)else 0)=14:=ah hb;rwa[e]at this
  by_cases f:x.ses=0
  .rw[ah (cH f)];exact bad (.inl f)
  .rw[af (cH f)];refine⟨_,aq H.cX,_,L,az.2 ⟨_,aq C,?_⟩⟩;by_cases g:x.ses=ses
   .have e:(x.ses !=ses)=false:=by simp[g]
    rw[e];subst k;simp only[au,aM];refine⟨_,aq H.cX,_,L,?_⟩;have e2:(if x.abs.ses=0\/x.abs.ses≠ses then(14:Int)else 0)=0:=af (λhb=>by
     rcases hb with hb|hb
     .exact f hb
     .exact hb g)
    have:=hk (Sa x.b 0);rwa[e2]at this
   .have e:(x.ses !=ses)=true:=by simpa using g
    rw[e];exact bad (.inr g)
def sJ(s:CF)(n ses:Int):CF:=if km s.L n ses=0 then { Du s n with gk:=s.gk+1 } else s
theorem Ct.bump(H:Ct h t X s)(g:s.gk<=100000)(hk: ∀h',Ct h' t X { s with gk:=s.gk+1 } ->bN X h X h'->K h'):
  ∃(u:Int),aX h (AA t 2)=some (.I u)/\aQ h (AA t 2) (.I (IntKind.wrap .i64 (u+1))) K:=by
 obtain⟨m,xs,A,S,b,a,d,H⟩:=H;refine⟨_,aq H.cX,bL H.cX bQ λf c1 s1 o1=> ?_⟩;rw[bB ae ae]at c1;obtain⟨e,st⟩:=H.field (s':= { s with gk:=s.gk+1 }) rfl rfl rfl c1 s1 o1;exact hk f ⟨_,_,_,_,_,_,_,e⟩ st
theorem Ct.T4(H:Ct h t X s)(g:s.over<=100000)(hk: ∀h',Ct h' t X { s with over:=s.over+1 } ->bN X h X h'->K h'):
  ∃(u:Int),aX h (AA t 3)=some (.I u)/\aQ h (AA t 3) (.I (IntKind.wrap .i64 (u+1))) K:=by
 obtain⟨m,xs,A,S,b,a,d,H⟩:=H;refine⟨_,aq H.cX,bL H.cX bQ λf c1 s1 o1=> ?_⟩;rw[bB ae ae]at c1;obtain⟨e,st⟩:=H.field (s':= { s with over:=s.over+1 }) rfl rfl rfl c1 s1 o1;exact hk f ⟨_,_,_,_,_,_,_,e⟩ st
theorem Ct.T5(H:Ct h t X s)(g:s.gone<=100000)(hk: ∀h',Ct h' t X { s with gone:=s.gone+1 } ->bN X h X h'->K h'):
  ∃(u:Int),aX h (AA t 4)=some (.I u)/\aQ h (AA t 4) (.I (IntKind.wrap .i64 (u+1))) K:=by
 obtain⟨m,xs,A,S,b,a,d,H⟩:=H;refine⟨_,aq H.cX,bL H.cX bQ λf c1 s1 o1=> ?_⟩;rw[bB ae ae]at c1;obtain⟨e,st⟩:=H.field (s':= { s with gone:=s.gone+1 }) rfl rfl rfl c1 s1 o1;exact hk f ⟨_,_,_,_,_,_,_,e⟩ st
theorem HJ(H:Ct h t X s)(o:Small s)(l:s.gk<=100000)(num ses:Int)(hk: ∀h' x,Ct h' t x (sJ s num ses)->bN X h x h'->R (.I (km s.L num ses)) h'):
  Cl 161 #[.P t 0,.I num,.I ses] h R:=by
 refine wM.walk (jc H num ses λq=>⟨_,_,rfl,aI.of λJ f=> ?_⟩);by_cases e:km s.L num ses=0
 .rw[ah (cH e)];refine oL H o num λr j g st1=>⟨rfl,g.bump l λk i p=> ?_⟩
  subst f;exact hk k j (by unfold sJ;rw[ah e];exact i) (st1.trans p)
 .rw[af (cH e)];subst f;exact hk h X (by unfold sJ;rw[af e];exact H) (bN.refl _ _)
def Dv(s:CF)(n ses:Int):CF:=if km s.L n ses=0 then rq s n.toNat else s
theorem HK(H:Ct h t X s)(p:Small s)(num ses:Int)(hk: ∀h' x,Ct h' t x (Dv s num ses)->bN X h x h'->R (.I (km s.L num ses)) h'):
  Cl 107 #[.P t 0,.I num,.I ses] h R:=by
 refine rk.walk (jc H num ses λq=>⟨_,_,rfl,aI.of λJ f=> ?_⟩);by_cases e:km s.L num ses=0
 .rw[ah (cH e)];obtain⟨z,l⟩: ∃z,yr s.L num=some z:=by
   cases k:yr s.L num with
   |none=>unfold km at e;rw[k]at e;cases e
   |some z=>exact⟨z,rfl⟩
  obtain⟨o,rfl⟩:=wP l;refine Jp H p o λj i g st1=>⟨rfl,?_⟩
  subst f;exact hk j i (by unfold Dv;rw[ah e,aC];exact g) st1
 .rw[af (cH e)];subst f;exact hk h X (by unfold Dv;rw[af e];exact H) (bN.refl _ _)

end gx
end
section
namespace eN
open gD (It)
open iY (Ev)
variable {h h':ak} {s j:Nat} {X:Ft}
structure SS where
 A:List eE.eE
 G:List gj.Rg
 C:gx.CF
 B:gD.BS
 Q:List It
 e:Ev
 tm:Nat
 sq:Nat
 now:Nat
 rf:Nat
structure sK where
 t:Nat
 r:Nat
 c:Nat
 o:Nat
 p:Nat
 k:Nat
abbrev Mk(h:ak)(k:Nat)(e:Ev)(tm sq:Nat):Prop:=h[k]? =some (.cells #[.bool e.jT,.int .u64 e.node,.int .u64 e.gr,.string e.host,.string e.jv,.int .u64 (tm:Int),.int .u64 (sq:Int),.bool true] 166 (0,0))
abbrev Bk(h:ak)(s:Nat)(I:sK)(now rf:Nat):Prop:=h[s]? =some (.cells #[pt I.t,pt I.r,pt I.c,pt I.o,pt I.p,pt I.k,.int .u64 (now:Int),.int .i64 (rf:Int)] 41 (0,0))
def part(σ:SS)(I:sK)(s:Nat)(i:Nat)(h:ak)(X:Ft):Prop:=match i with
 |0=>eE.Has h I.t X σ.A
 |1=>gj.Tb h I.r X σ.G
 |2=>gx.Ct h I.c X σ.C
 |3=>gD.Be h I.o X σ.B
 |4=> ∃m,Pu h I.p m σ.Q/\only X λy=>y=I.p\/y=m
 |5=>Mk h I.k σ.e σ.tm σ.sq/\only X λy=>y=I.k
 |6=>Bk h s I σ.now σ.rf/\only X λy=>y=s
 |_=> ∀y,¬In X y
theorem part.lt{σ:SS}{I:sK}{i:Nat}(H:part σ I s i h X)(y:Nat)(hy:In X y):y<h.size:=by
 rcases i with _|_|_|_|_|_|_|i
 .exact eE.Has.lt H y hy
 .exact gj.Tb.lt H y hy
 .exact gx.Ct.lt H y hy
 .exact gD.Be.lt H y hy
 .obtain⟨m,P,o⟩:=H;rcases hy with hy|hy
  .rcases(o y).1.1 hy with rfl|rfl
   .exact P.lt.1
   .exact P.lt.2
  .exact absurd hy (o y).2
 .obtain⟨P,o⟩:=H;rcases hy with hy|hy
  .rw[(o y).1.1 hy];exact aE P
  .exact absurd hy (o y).2
 .obtain⟨P,o⟩:=H;rcases hy with hy|hy
  .rw[(o y).1.1 hy];exact aE P
  .exact absurd hy (o y).2
 .exact absurd hy (H y)
theorem part.frame{σ:SS}{I:sK}{i:Nat}{Q:Nat->Prop}(H:part σ I s i h X)(f:Fr Q h h')(a: ∀y,In X y->¬Q y):part σ I s i h' X:=by
 rcases i with _|_|_|_|_|_|_|i
 .exact eE.Has.frame H f a
 .exact gj.Tb.frame H f a
 .exact gx.Ct.frame H f a
 .exact gD.Be.frame H f a
 .obtain⟨m,P,o⟩:=H;exact⟨m,P.frame f (a _ (.inl ((o _).1.2 (.inl rfl)))) (a _ (.inl ((o _).1.2 (.inr rfl)))),o⟩
 .obtain⟨P,o⟩:=H;exact⟨f.get P (a _ (.inl ((o _).1.2 rfl))),o⟩
 .obtain⟨P,o⟩:=H;exact⟨f.get P (a _ (.inl ((o _).1.2 rfl))),o⟩
 .exact H
theorem part.wk{σ:SS}{I:sK}{i:Nat}(H:part σ I s i h X)(y:Nat)(b:X.M y)(hd:X.D y):False:=by
 rcases i with _|_|_|_|_|_|_|i
 .exact eE.Has.wk H y b hd
 .obtain⟨m,H⟩:=H;exact H.d y hd
 .obtain⟨m,xs,A,c,e,d,l,H⟩:=H;exact(H.mm y).1 b (H.dd y hd).1
 .obtain⟨L,⟨g,f,xs,a,S,H⟩,_⟩:=H;exact H.wk y b hd
 .obtain⟨m,P,o⟩:=H;exact(o y).2 hd
 .exact(H.2 y).2 hd
 .exact(H.2 y).2 hd
 .exact H y (.inl b)
theorem part.st(σ:SS)(I:sK)(s:Nat):zD (part σ I s):=⟨part.lt,part.frame,part.wk⟩
def Pt(h:ak)(s:Nat)(X:Ft)(I:sK)(σ:SS):Prop:=G2 (part σ I s) h X
variable {I : sK} {σ : SS}
theorem Pt.lt(H:Pt h s X I σ)(y:Nat)(a:X.M y\/X.D y):y<h.size:=G2.lt (part.st _ _ _) H y a
theorem Pt.wk(H:Pt h s X I σ)(y:Nat)(a:X.M y)(b:X.D y):False:=G2.wk (part.st _ _ _) H y a b
theorem Pt.frame{Q:Nat->Prop}(H:Pt h s X I σ)(f:Fr Q h h')(a: ∀y,X.M y\/X.D y->¬Q y):Pt h' s X I σ:=G2.frame (part.st _ _ _) H f a
theorem Pt.on(H:Pt h s X I σ)(f:Fr No h h'):Pt h' s X I σ:=H.frame f cb
theorem Pt.use(H:Pt h s X I σ)(j:Nat): ∃Z,part σ I s j h Z/\(∀y,Z.M y->X.M y)/\(∀y,Z.D y->X.D y)/\∀h' z a,part a I s j h' z->bN Z h z h'->(∀i,i≠j->part a I s i=part σ I s i)->
  ∃x,Pt h' s x I a/\bN X h x h'/\(∀y,z.D y->x.D y)/\∀y,h.size<=y->x.M y\/x.D y->z.M y\/z.D y:=by
 obtain⟨Z,b,c,d,go⟩:=G2.use (part.st σ I s) H j;exact⟨Z,b,c,d,λh' z a=>go h' z (part a I s)⟩
theorem Pt.cX(H:Pt h s X I σ):Bk h s I σ.now σ.rf:=by obtain⟨Y,a,_⟩:=H;exact(a 6).1
theorem Pt.box(H:Pt h s X I σ): ∃Z,gD.Be h I.o Z σ.B:=by obtain⟨Y,a,_⟩:=H;exact⟨_,a 3⟩
theorem Ar{i:Nat}(a:List eE.eE)(H:i≠0):part { σ with A:=a } I s i=part σ I s i:=by rcases i with _|_|_|_|_|_|_|i<;>first|rfl|exact absurd rfl H
theorem HL{i:Nat}(a:List gj.Rg)(H:i≠1):part { σ with G:=a } I s i=part σ I s i:=by rcases i with _|_|_|_|_|_|_|i<;>first|rfl|exact absurd rfl H
theorem wQ{i:Nat}(a:gx.CF)(H:i≠2):part { σ with C:=a } I s i=part σ I s i:=by rcases i with _|_|_|_|_|_|_|i<;>first|rfl|exact absurd rfl H
theorem HM{i:Nat}(a:gD.BS)(H:i≠3):part { σ with B:=a } I s i=part σ I s i:=by rcases i with _|_|_|_|_|_|_|i<;>first|rfl|exact absurd rfl H
theorem HN{i:Nat}(a:List It)(H:i≠4):part { σ with Q:=a } I s i=part σ I s i:=by rcases i with _|_|_|_|_|_|_|i<;>first|rfl|exact absurd rfl H
theorem Si{i:Nat}(a:Ev)(b c:Nat)(H:i≠5):part { σ with e:=a,tm:=b,sq:=c } I s i=part σ I s i:=by rcases i with _|_|_|_|_|_|_|i<;>first|rfl|exact absurd rfl H
theorem Sj{i:Nat}(a b:Nat)(H:i≠6):part { σ with now:=a,rf:=b } I s i=part σ I s i:=by rcases i with _|_|_|_|_|_|_|i<;>first|rfl|exact absurd rfl H
end eN
end
section
open Go.kQ
namespace gx
open iY cf hM
variable {h h':ak} {R:fG} {t:Nat} {X:Ft} {s s':CF} {m B A:Nat} {xs:List CV} {r w:Nat→Prop} {o:Nat→Option Nat} {p:bZ} {n c:Nat}
variable {k:Int} {l:List Int} {i:Nat} {f:CF->Int->CF}
def yt(x:Ev)(len:Nat)(cg:Int):Bool:=cV x && (!decide (x=Ev.zero) && (decide (1<=len) && (decide (len<=600) && decide (cg<=1099511627776))))
theorem K0(x:Ev)(hk: iq h R (.bool (yt x n k))):Cl 48 #[kO x,.slice p n c,.U k] h R:=by
 refine Bt.walk (ax.box λb d e H f1=>ax.ld H (iY.fx x λa f2=>⟨_,rfl,?_⟩));have K:=hk a (f1.tt f2);unfold yt at K;by_cases q:cV x=true
 .rw[ah q];rw[q,dX]at K;refine ax.ld (f2.get H id) ⟨_,u0 (y:=.zero) (x:=x) rfl rfl,?_⟩;by_cases q1:x=.zero
  .rw[aw q1,dz];rw[aw q1]at K;exact K
  .rw[aD q1,gh];rw[aD q1,eL,dX]at K;by_cases q2:1<=n
   .rw[gh];rw[aw q2,dX]at K;by_cases q3:n<=600
    .rw[gh];rw[aw q3,dX]at K;exact K
    .rw[af (by simp;omega)];rw[aD q3]at K;exact K
   .rw[af (by simp;omega)];rw[aD q2]at K;exact K
 .rw[af q];have q:cV x=false:=by simpa using q
  rw[q]at K;exact K
def lC(L:List Cp)(x:Ev):List Cp:=L.filter (λy=>decide (y.e=x))
theorem HO(H:Cm h t X s m xs B r A w o)(x:Ev):(xs.filter (λy=>decide (y.e=x))).length=(lC s.L x).length:=by
 unfold lC;rw[<-H.abs,dN,aA];rfl
def iN(s:CF)(x:Ev)(d:cM)(cg:Nat):Int:=if yt x d.length (cg:Int)=true then(if(lC s.L x).length≥16 then 15 else 0)else 1
def Ai(s:CF)(x:Ev)(d:cM)(cg:Nat):Int:=if iN s x d cg=0 then(s.next:Int)else 0
def j8(s:CF)(x:Ev)(d:cM)(cg:Nat):CF:=if iN s x d cg=0 then { s with L:=s.L++ [⟨s.next,x,d,cg,0,0⟩],next:=s.next+1,E1:=zW s.E1 (s.next:Int) (cg:Int) } else s
theorem Aj(H:Ct h t X s)(S:Small s)(c': ∀z∈s.L,z.num<s.next)(i':1<=s.next)(x:Ev){d:cM}(cg:Nat)(b':k=(cg:Int))(hr:Row h p (bc d))(hn:n=d.length)(e':d≠ []->∀a,p=some a->¬X.M a.block)(hk: ∀h' N,Ct h' t N (j8 s x d cg)->bN X h N h'->R (.tuple #[.I (Ai s x d cg),.I (iN s x d cg)]) h'):
  Cl 15 #[.P t 0,kO x,.slice p n c,.U k] h R:=by
 subst b' hn;obtain⟨m,xs,B,r,A,w,o,H⟩:=H;have sn:=S.n;have sl:=S.l;have se:=S.e1;have xl:=H.len;refine wK.walk (ax.box λb h1 eb K f1=> ?_);have Z:=H.on f1;refine fO Z ⟨_,rfl,?_⟩;rw[dz];refine ax.ld K (K0 x λh3 f3=>⟨_,rfl,?_⟩);have F:=f1.tt f3;by_cases q:yt x d.length (cg:Int)=true
 .rw[q,dz];refine ax.ld (f3.get K id) (Cs (H.on F) x ae λQ p4 c4 o4 g4 f4=>⟨_,_,_,rfl,?_⟩);have C:=F.tt f4;have g:=H.on C;have T:=(f3.tt f4).get K id;rw[HO H x];by_cases q1:(lC s.L x).length≥16
  .rw[gh];have e:iN s x d cg=15:=by unfold iN;rw[ah q,ah q1]
   have e2:Ai s x d cg=0:=af (by rw[e];decide);have E:j8 s x d cg=s:=af (by rw[e];decide);rw[e,e2,E]at hk;exact hk Q X ⟨_,_,_,_,_,_,_,g⟩ (bN.iP C)
  .rw[af (by simp;omega)];have e:iN s x d cg=0:=by unfold iN;rw[ah q,af q1]
   have e2:Ai s x d cg=(s.next:Int):=ah e;have E:j8 s x d cg= { s with L:=s.L++ [⟨s.next,x,d,cg,0,0⟩],next:=s.next+1,E1:=zW s.E1 (s.next:Int) (cg:Int) } :=ah e;rw[e,e2,E]at hk;have lb:b<Q.size:=aE T;have nb: ∀{c},o c≠none->c≠b:=fun {c} v ec=>by have:=H.Eh c v;omega
   refine⟨_,aq g.cX,_,aq g.cX,bL g.cX bQ λG P s5 V=> ?_⟩;rw[bB ae ae]at P;obtain⟨j,W⟩:=g.field (s':= { s with next:=s.next+1 }) rfl rfl rfl P s5 V;have M:Ev.at G b x:=by
    unfold Ev.at ax.at;rw[V b (fv (nb (by rw[H.l0];simp)))];exact T
   have r5:Row G p (bc d):=(hr.frame C cb).frame W.fr (λa ea=>e' (by rintro rfl;simp[yt]at q) a ea);refine⟨_,aq j.cX,ax.ld M (gQ r5 rfl (by
    unfold yt at q;simp only[aS,aZ]at q;omega) λp6 c6 h6 O f6 g6=>⟨_,_,_,rfl,?_⟩)⟩
   refine⟨ax.held (f6.get M id),aq (f6.get j.cX id),aN.box λJ h7 e7 a' f7=> ?_⟩;have D:=f6.tt f7;have z5:G.size<=h6.size:=f6.1;refine⟨ax.held (D.get M id),aq (D.get j.cX id),zq nO (j.on D).map (k:=(s.next:Int)) λh8 M8 s8 o8=> ?_⟩;obtain⟨X8,j',I,f'⟩:=j.add (s':= { s with L:=s.L++ [⟨s.next,x,d,cg,0,0⟩],next:=s.next+1 }) (y:=⟨s.next,J,x,⟨p6,c6,d⟩,cg,0,0⟩) D a' (by show G.size<=J;omega) ((O.iJ).frame f7 cb) O.le (λc v=>⟨g6 c v,by have:=O.dw v;show c≠J;omega,gv (O.dw v) f7.1⟩)
    (λu hu=>by
     have:u.abs∈s.L:=by rw[<-H.abs];exact bu hu
     exact c' _ this) M8 s8 o8 rfl rfl rfl ⟨rfl,rfl,rfl,rfl⟩
   have d':may (s.next:Int) (cg:Int)=true:=by
    unfold yt at q;simp only[aS,aZ]at q;exact mj.2 ⟨ae,ae,ae⟩
   refine⟨_,aq I.cX,cf.Hh I.HE (by show s.E1.length<_;omega) (s.next:Int) (cg:Int) ae (λU h9 S9 Y g9 f9=>⟨_,rfl,?_⟩) (λU=>absurd d' (by rw[U];simp))⟩;obtain⟨X9,k',H9,g',_⟩:=I.HI (s':= { s with L:=s.L++ [⟨s.next,x,d,cg,0,0⟩],next:=s.next+1,E1:=zW s.E1 (s.next:Int) (cg:Int) }) Y g9 f9 rfl rfl rfl ⟨rfl,rfl,rfl,rfl⟩;exact hk h9 X9 ⟨_,_,_,_,_,_,_,H9⟩ (bN.no C (W.trans (f'.trans g')))
 .have q:yt x d.length (cg:Int)=false:=by simpa using q
  rw[q,gh];have e:iN s x d cg=1:=by unfold iN;rw[q];rfl
  have e2:Ai s x d cg=0:=af (by rw[e];decide);have E:j8 s x d cg=s:=af (by rw[e];decide);rw[e,e2,E]at hk;exact hk h3 X ⟨_,_,_,_,_,_,_,H.on F⟩ (bN.iP F)
def kL(s:CF)(k:Int):CF:= { Du s k with over:=s.over+1 }
def pJ(s:CF)(k:Int):CF:= { Du s k with gone:=s.gone+1 }
theorem Small.rem(S:Small s)(k:Int):Small (Du s k):=
 ⟨S.n,cD (cC _ _) S.l,cD (oK _ _) S.e1,cD (oK _ _) S.e2⟩
theorem Small.free(S:Small s)(k:Nat):Small (rq s k):=
 ⟨S.n,by show(oM s.L k 0 0).length<=_;unfold oM;rw[aA];exact S.l,S.e1,cD (oK _ _) S.e2⟩
def Fx(s:CF):Prop:= ∀k∈keys s.E2,∃z∈s.L,(z.num:Int)=k
theorem Fx.rem(H:Fx s)(k:Int):Fx (Du s k):=λj a=>by
 unfold keys at a;obtain⟨e,g,rfl⟩:=bj.1 a;obtain⟨b,d⟩:=ba.1 g;have q:e.1≠k:=by simpa using d
 obtain⟨z,u,e2⟩:=H e.1 (bu b);exact⟨z,ba.2 ⟨u,by simp[e2,q]⟩,e2⟩
theorem K1(L:List Cp)(n:Nat)(a:Int)(b:Nat){z:Cp}(H:z∈L): ∃y∈oM L n a b,y.num=z.num:=by
 unfold oM;refine⟨_,bu H,?_⟩;split<;>rfl
theorem Ct.T6(H:Ct h t X s)(S:Small s)(now:Int)(hk: ∀h' x P C,Ct h' t x { s with E1:=cf.rest s.E1 now } ->bN X h x h'->fi h' P (cf.due s.E1 now).length C 1 (kc (cf.due s.E1 now))->(∀y,aL P y->h.size<=y/\¬x.M y)->R (.slice P (cf.due s.E1 now).length C) h'):
  ∃(u:bZ),aX h (AA t 5)=some (.pointer u)/\Cl 118 #[.pointer u,.U now] h R:=by
 obtain⟨m,xs,B,r,A,w,o,H⟩:=H;have:=S.e1;refine⟨_,aq H.cX,cf.Dq H.HE ae now λd v c1 A1 o1 g f1=> ?_⟩;obtain⟨x,L,b,st,e⟩:=H.HI (s':= { s with E1:=cf.rest s.E1 now }) A1 (λc j=> .inl j) f1 rfl rfl rfl ⟨rfl,rfl,rfl,rfl⟩;refine hk d x v c1 ⟨_,_,_,_,_,_,_,b⟩ st o1 (λy a=>⟨g y a,λq=> ?_⟩);have a:=g y a;rcases e y q with h2|h2
 .have:=H.Eh y ((H.mm y).1 h2);omega
 .have:=H.HE.lt h2;omega
theorem Ct.T8(H:Ct h t X s)(S:Small s)(now:Int)(hk: ∀h' x P C,Ct h' t x { s with E2:=cf.rest s.E2 now } ->bN X h x h'->fi h' P (cf.due s.E2 now).length C 1 (kc (cf.due s.E2 now))->(∀y,aL P y->h.size<=y/\¬x.M y)->R (.slice P (cf.due s.E2 now).length C) h'):
  ∃(u:bZ),aX h (AA t 6)=some (.pointer u)/\Cl 118 #[.pointer u,.U now] h R:=by
 obtain⟨m,xs,B,r,A,w,o,H⟩:=H;have:=S.e2;refine⟨_,aq H.cX,cf.Dq H.HF ae now λd v c1 A1 o1 g f1=> ?_⟩;obtain⟨x,L,b,st,e⟩:=H.HG (s':= { s with E2:=cf.rest s.E2 now }) A1 (λc j=> .inl j) f1 rfl rfl rfl ⟨rfl,rfl,rfl,rfl⟩;refine hk d x v c1 ⟨_,_,_,_,_,_,_,b⟩ st o1 (λy a=>⟨g y a,λq=> ?_⟩);have a:=g y a;rcases e y q with h2|h2
 .have:=H.Eh y ((H.mm y).1 h2);omega
 .have:=H.HF.lt h2;omega
structure vH (h:ak) (X:Ft) (p:bZ) (n c:Nat) (l:List Int):Prop where
 own:fi h p n c 1 (l.map gw)
 len:n=l.length
 ap: ∀y,aL p y->¬X.M y
theorem vH.step{x:Ft}(N:vH h X p n c l)(st:bN X h x h'):vH h' x p n c l:=
 ⟨N.own.frame st.fr N.ap,N.len,λy H a=>by
  rcases st.jD y a with h1|h1
  .exact N.ap y H h1
  .have:=N.own.dw H;omega⟩
theorem vH.at{K:Int->Prop}(N:vH h X p n c l)(H:l[i]? =some k)(hk:K k):
  ((0:Int)<=(i:Int)/\(i:Int)<(n:Int))/\aO p λa=> ∃t:Int,aX h (a.add (Int.toNat (i:Int)*1))=some (.I t)/\K t:=by
 have g:=(aB.1 H).1;have j:=N.len;obtain⟨b,d,e⟩:=N.own.addr ae;subst e;refine⟨ae,az.2 ⟨k,?_,hk⟩⟩;rw[aC,cp];exact N.own.cell (by rw[aF,H];rfl)
theorem nP(H: ∀s k,Small s->Small (f s k)): ∀(l:List Int)(s:CF),Small s->Small (l.foldl f s)
 | [],_,h=>h
 |k::l,s,h=>nP H l (f s k) (H s k h)
theorem Cv: ∀(l:List Int)(s:CF),(l.foldl kL s).over=s.over+l.length
 | [],_=>rfl
 |k::l,s=>by rw[List.foldl_cons,Cv l,aW];show s.over+1+l.length=_;omega
theorem Cw: ∀(l:List Int)(s:CF),(l.foldl pJ s).gone=s.gone+l.length
 | [],_=>rfl
 |k::l,s=>by rw[List.foldl_cons,Cw l,aW];show s.gone+1+l.length=_;omega
theorem Cx: ∀(l:List Int)(s:CF),Fx s->Fx (l.foldl kL s)
 | [],_,h=>h
 |k::l,s,h=>Cx l (kL s k) (h.rem k)
theorem uo(H:l[i]? =some k)(s:CF):(l.take (i+1)).foldl f s=f ((l.take i).foldl f s) k:=by
 rw[bm,H,List.foldl_append];rfl
def kq(s:CF)(now:Int):CF:=
 let s1:=(keys (cf.due s.E1 now)).foldl kL { s with E1:=cf.rest s.E1 now }
 (keys (cf.due s1.E2 now)).foldl (λs k=>rq s k.toNat) { s1 with E2:=cf.rest s1.E2 now }
theorem Cy: ∀(l:List Int)(s:CF)(z:Cp),z∈s.L->∃y∈(l.foldl (λs k=>rq s k.toNat) s).L,y.num=z.num
 | [],s,z,H=>⟨z,H,rfl⟩
 |k::l,s,z,H=>by
  obtain⟨y,b,e⟩:=K1 s.L k.toNat 0 0 H;obtain⟨u,a,e2⟩:=Cy l (rq s k.toNat) y b;exact⟨u,a,e2.trans e⟩
theorem As(L:List E)(now:Int):(cf.rest L now).length<=L.length:=(List.dropWhile_sublist _).length_le
theorem vw(H:Ct h t X s)(d:Small s)(ho:s.over<=40000)(hE:Fx s)(now:Int)(hk: ∀h' D E K,Ct h' t D (kq s now)->bN X h D h'->vH h' D E (cf.due s.E1 now).length K (keys (cf.due s.E1 now))->(∀y,aL E y->h.size<=y)->R (.slice E (cf.due s.E1 now).length K) h'):
  Cl 53 #[.P t 0,.U now] h R:=by
 have n':(cf.due s.E1 now).length<=s.E1.length:=(List.takeWhile_sublist _).length_le;have l':=d.e1;have hm: ∀{R:fG},R (.bool true) h->Cl 47 #[.P t 0] h R:=λhk=>by
  obtain⟨m,xs,B,r,A,w,o,H⟩:=H;exact fO H hk
 refine vF.walk (hm ⟨_,rfl,?_⟩);rw[dz];refine H.T6 d now λh2 I P C H2 k' o2 Q=>⟨_,_,_,rfl,?_⟩
 have f':Small { s with E1:=cf.rest s.E1 now } :=⟨d.n,d.l,cD (As _ _) d.e1,d.e2⟩;have kl:(keys (cf.due s.E1 now)).length=(cf.due s.E1 now).length:=by unfold keys;rw[aA]
 have N2:vH h2 I P (cf.due s.E1 now).length C (keys (cf.due s.E1 now)):=⟨o2,kl.symm,λy b=>(Q y b).2⟩;have j': ∀(s:CF) k,Small s->Small (kL s k):=λs k h=>⟨(h.rem k).n,(h.rem k).l,(h.rem k).e1,(h.rem k).e2⟩
 refine⟨λu g=> ∃(i:Nat)(x:Ft),u=(i:Int)/\i<=(cf.due s.E1 now).length/\Ct g t x (((keys (cf.due s.E1 now)).take i).foldl kL { s with E1:=cf.rest s.E1 now })/\bN X h x g/\vH g x P (cf.due s.E1 now).length C (keys (cf.due s.E1 now)),λu _=>(cf.due s.E1 now).length - u.toNat,⟨0,I,rfl,br _,H2,k',N2⟩,?_⟩;rintro _ g ⟨i,x,rfl,hi,q,a',N⟩;have S:=nP j' ((keys (cf.due s.E1 now)).take i) _ f';by_cases c':i<(cf.due s.E1 now).length
 .rw[gh];have a:(keys (cf.due s.E1 now))[i]? =some ((keys (cf.due s.E1 now))[i]' ae):=aj _;generalize (keys (cf.due s.E1 now))[i]' ae=k at a;refine N.at a (oL q S k λg3 X3 H3 W=>⟨rfl,H3.T4 ?_ λg4 H4 Y=> ?_⟩)
  .show(((keys (cf.due s.E1 now)).take i).foldl kL { s with E1:=cf.rest s.E1 now }).over<=100000;rw[Cv,bC];show s.over+_<=100000;omega
  .rw[bB ae ae];refine⟨⟨i+1,X3,ae,ae,?_,a'.trans (W.trans Y),(N.step W).step Y⟩,by show(cf.due s.E1 now).length - Int.toNat ((i:Int)+1)<(cf.due s.E1 now).length - i;omega⟩;rw[uo a];exact H4
 .rw[af (by simp;omega)];obtain rfl:i=(cf.due s.E1 now).length:=ae
  have ta:(keys (cf.due s.E1 now)).take (cf.due s.E1 now).length=keys (cf.due s.E1 now):=bk ae;rw[ta]at q S;have U:Fx ((keys (cf.due s.E1 now)).foldl kL { s with E1:=cf.rest s.E1 now }):=Cx _ _ hE;generalize d':(keys (cf.due s.E1 now)).foldl kL { s with E1:=cf.rest s.E1 now } =s1 at q S U;refine q.T8 S now λh6 J V L H6 Z o6 g6=>⟨_,_,_,rfl,?_⟩
  have e':(keys (cf.due s1.E2 now)).length=(cf.due s1.E2 now).length:=by unfold keys;rw[aA]
  have g':Small { s1 with E2:=cf.rest s1.E2 now } :=⟨S.n,S.l,S.e1,cD (As _ _) S.e2⟩;have N6:vH h6 J V (cf.due s1.E2 now).length L (keys (cf.due s1.E2 now)):=⟨o6,e'.symm,λy b=>(g6 y b).2⟩;have m':=S.e2;have o':(cf.due s1.E2 now).length<=s1.E2.length:=(List.takeWhile_sublist _).length_le;refine⟨λu g=> ∃(i:Nat)(x:Ft),u=(i:Int)/\i<=(cf.due s1.E2 now).length/\Ct g t x (((keys (cf.due s1.E2 now)).take i).foldl (λs k=>rq s k.toNat) { s1 with E2:=cf.rest s1.E2 now })/\bN X h x g/\vH g x V (cf.due s1.E2 now).length L (keys (cf.due s1.E2 now))/\vH g x P (cf.due s.E1 now).length C (keys (cf.due s.E1 now)),λu _=>(cf.due s1.E2 now).length - u.toNat,⟨0,J,rfl,br _,H6,a'.trans Z,N6,N.step Z⟩,?_⟩;rintro _ g7 ⟨j,X7,rfl,hj,v,Nv,G,M⟩;have i':=nP (f:=λs k=>rq s k.toNat) (λs k h=>h.free k.toNat) ((keys (cf.due s1.E2 now)).take j) _ g';by_cases c':j<(cf.due s1.E2 now).length
  .rw[gh];have a:(keys (cf.due s1.E2 now))[j]? =some ((keys (cf.due s1.E2 now))[j]' ae):=aj _;generalize (keys (cf.due s1.E2 now))[j]' ae=k at a;have b':k∈keys s1.E2:=by
    have T:=aJ a;unfold keys at T⊢;obtain⟨e,he,rfl⟩:=bj.1 T;exact bu ((List.takeWhile_sublist _).subset he)
   obtain⟨z,hz,ez⟩:=U k b';obtain⟨y,b,ey⟩:=Cy ((keys (cf.due s1.E2 now)).take j) { s1 with E2:=cf.rest s1.E2 now } z hz;have O:k=(y.num:Int):=by rw[ey];exact ez.symm
   refine G.at a ?_;rw[O];refine Jp v i' b λg8 X8 H8 F=>⟨rfl,?_⟩
   rw[bB ae ae];refine⟨⟨j+1,X8,ae,ae,?_,Nv.trans F,G.step F,M.step F⟩,by show(cf.due s1.E2 now).length - Int.toNat ((j:Int)+1)<(cf.due s1.E2 now).length - j;omega⟩;rw[uo a,O,aC];exact H8
  .rw[af (by simp;omega)];obtain rfl:j=(cf.due s1.E2 now).length:=ae
   rw[bk ae]at v;refine hk g7 X7 P C ?_ Nv M (λy b=>(Q y b).1);unfold kq;rw[d'];exact v
def xR(s:CF)(x:Ev):CF:=((lC s.L x).map (λz=>(z.num:Int))).foldl pJ s
theorem PR(H:Cm h t X s m xs B r A w o)(x:Ev):kx (xs.filter (λy=>decide (y.e=x)))=(lC s.L x).map (λz=>(z.num:Int)):=by
 unfold lC kx;rw[<-H.abs,dN,dK];rfl
theorem pI(H:Ct h t X s)(S:Small s)(ho:s.gone<=40000)(x:Ev)(hk: ∀h' e P D,Ct h' t e (xR s x)->bN X h e h'->vH h' e P (lC s.L x).length D ((lC s.L x).map (λz=>(z.num:Int)))->(∀y,aL P y->h.size<=y)->R (.slice P (lC s.L x).length D) h'):
  Cl 99 #[.P t 0,kO x] h R:=by
 have K:=H;obtain⟨m,xs,B,r,A,w,o,H⟩:=H;have sl:=S.l;have xl:=H.len;refine vG.walk (ax.box λb T eb V f1=>ax.ld V (Cs (H.on f1) x ae λU v C o2 G f2=>⟨_,_,_,rfl,?_⟩));have F:=f1.tt f2;have z1:=f1.1;rw[HO H x,PR H x]at o2;rw[HO H x];have ol:(lC s.L x).length<=s.L.length:=cC _ _;have kl:((lC s.L x).map (λz=>(z.num:Int))).length=(lC s.L x).length:=aA _;have O:vH U X v (lC s.L x).length C ((lC s.L x).map (λz=>(z.num:Int))):=⟨o2,kl.symm,λy q W=>by
  have T:=G y q;have:=H.Eh y ((H.mm y).1 W);omega⟩
 have Y: ∀(s:CF) k,Small s->Small (pJ s k):=λs k h=>⟨(h.rem k).n,(h.rem k).l,(h.rem k).e1,(h.rem k).e2⟩
 refine⟨λu g=> ∃(i:Nat)(a:Ft),u=(i:Int)/\i<=(lC s.L x).length/\Ct g t a ((((lC s.L x).map (λz=>(z.num:Int))).take i).foldl pJ s)/\bN X h a g/\vH g a v (lC s.L x).length C ((lC s.L x).map (λz=>(z.num:Int))),λu _=>(lC s.L x).length - u.toNat,⟨0,X,rfl,br _,K.on F,bN.iP F,O⟩,?_⟩;rintro _ g ⟨i,a,rfl,hi,d,J,N⟩;have Z:=nP Y (((lC s.L x).map (λz=>(z.num:Int))).take i) _ S;by_cases a':i<(lC s.L x).length
 .rw[gh];have j:((lC s.L x).map (λz=>(z.num:Int)))[i]? =some (((lC s.L x).map (λz=>(z.num:Int)))[i]' ae):=aj _;generalize ((lC s.L x).map (λz=>(z.num:Int)))[i]' ae=k at j;refine N.at j (oL d Z k λg3 Q L E=>⟨rfl,L.T5 ?_ λg4 M I=> ?_⟩)
  .show((((lC s.L x).map (λz=>(z.num:Int))).take i).foldl pJ s).gone<=100000;rw[Cw,bC];omega
  .rw[bB ae ae];refine⟨⟨i+1,Q,ae,ae,?_,J.trans (E.trans I),(N.step E).step I⟩,by show(lC s.L x).length - Int.toNat ((i:Int)+1)<(lC s.L x).length - i;omega⟩;rw[uo j];exact M
 .rw[af (by simp;omega)];obtain rfl:i=(lC s.L x).length:=ae
  rw[bk ae]at d;exact hk g a v C d J N (λy q=>bR (G y q))
abbrev Nw:Value:=.agg #[.int .i64 0,.bool false,.int .u64 0,.int .u64 0,.string ⟨#[]⟩,.string ⟨#[]⟩,.slice none 0 0,.int .u64 0,.int .i64 0,.int .u64 0]
abbrev Cp.val(z:Cp)(p:bZ)(c:Nat):Value:=.agg #[.int .i64 (z.num:Int),.bool z.e.jT,.int .u64 z.e.node,.int .u64 z.e.gr,.string z.e.host,.string z.e.jv,.slice p z.d.length c,.int .u64 (z.cg:Int),.int .i64 z.ses,.int .u64 (z.dl:Int)]
def uq(ses:Int)(dl:Nat):Prop:=1<=ses/\ses<=1099511627776/\dl<=1099511627776
def lg(L:List Cp)(x:Ev):Option Cp:=(lC L x).find? (λz=>decide (z.ses=0))
def rB(s:CF)(z:Cp)(ses:Int)(dl:Nat):CF:= { s with L:=oM s.L z.num ses dl,E2:=zW s.E2 (z.num:Int) (dl:Int) }
theorem HP(hk:R (.bool (decide (1<=k/\k<=1099511627776))) h):Cl 192 #[.I k] h R:=by
 refine wL.walk ?_;by_cases q:1<=k
 .have Q:k≥1:=q;simp only[Q,bt,bg];simp only[q,true_and]at hk;exact hk
 .have Q: ¬k≥1:=q;simp only[Q,bf,au,aM];simp only[q,false_and,bf]at hk;exact hk
theorem K2(H:Ct h t X s)(sm:Small s)(hb: ∀z∈s.L,1<=z.num/\z.num<s.next/\z.d.length<=600)(x:Ev)(ses:Int)(dl:Nat)(K':k=(dl:Int))(k1: ¬uq ses dl->iq h R (.tuple #[Nw,.I 1]))(k2:uq ses dl->lg s.L x=none->iq h R (.tuple #[Nw,.I 4]))(k3:uq ses dl->∀z,lg s.L x=some z->∀h' P p' c',Ct h' t P (rB s z ses dl)->bN X h P h'->Row h' p' (bc z.d)->z.d.length<=c'->(∀y,aL p' y->h.size<=y/\¬(P.M y\/P.D y))->R (.tuple #[({ z with ses:=ses,dl:=dl } :Cp).val p' c',.I 0]) h'):
  Cl 156 #[.P t 0,kO x,.I ses,.U k] h R:=by
 subst K';obtain⟨m,xs,B,r,A,w,o,H⟩:=H;have sn:=sm.n;have sl:=sm.l;have se:=sm.e2;have xl:=H.len;refine uj.walk (ax.box λb h1 e1 V f1=>aN.box λq L e2 e' f2=> ?_);have z1:=aE V;have z2:=aE e';have f12:=f1.tt f2;have V:=f2.get V id;refine fO (H.on f12) ⟨_,rfl,?_⟩;rw[dz];have Zy:=f1.1;have fin: ∀g (e:Int),Fr No L g->(iq h R (.tuple #[Nw,.I e]))->aN.ST g (AA q 0) 0 false 0 0 hC hC none 0 0 0 0 0 λQ=>aN.LD Q (AA q 0) λO' P' Q' R' S' T' W' V' U' X' Y' Z'=>
   R (.tuple #[.agg #[.I O',.bool P',.U Q',.U R',.string S',.string T',.slice W' V' U',.U X',.I Y',.U Z'],.I e]) Q:=λg e fg hk=>
  aN.set (fg.get e' id) λQ A s2 o2=>aN.ld A (hk Q ((f12.tt fg).fresh (S:=λy=>y=q) ⟨ae,λy _ D=>o2 y D⟩ (λy e=>ae)))
 refine aI.of λy' hJ=>HP ⟨_,rfl,?_⟩
 have bad: ¬uq ses dl->y' true L:=λD=>by
  subst hJ;simp only[bg];exact fin L 1 (Fr.refl _ _) (k1 D)
 by_cases q1:1<=ses/\ses<=1099511627776
 .rw[aw q1,dz];by_cases q2:(dl:Int)>1099511627776
  .rw[aw q2];exact bad (λhm=>bR hm.2.2)
  .rw[aD q2];clear bad;subst hJ;simp only[au,aM];have hm:uq ses dl:=⟨q1.1,q1.2,ae⟩;refine ax.ld V (Cs (H.on f12) x ae λF p7 c7 o7 g7 f7=>⟨_,_,_,rfl,?_⟩);have Z:=f12.tt f7;have O:=H.on Z;have o':=f7.get e' id;have hF:(xs.filter (λy=>decide (y.e=x))).map CV.abs=lC s.L x:=by unfold lC;rw[<-H.abs,dN];rfl
   generalize r':xs.filter (λy=>decide (y.e=x))=C at o7 hF;have nl:(kx C).length=C.length:=by unfold kx;rw[aA]
   have fl:C.length<=xs.length:=by rw[<-r'];exact cC _ _
   refine⟨λu g=>g=F/\∃i:Nat,u=(i:Int)/\i<=C.length/\∀j y,j<i->C[j]? =some y->y.ses≠0,λu _=>C.length - u.toNat,⟨rfl,0,rfl,br _,λj y G=>ae⟩,?_⟩;rintro _ F ⟨rfl,i,rfl,hi,d'⟩;by_cases q':i<C.length
   .rw[gh];have d:C[i]? =some C[i]:=aj q';generalize C[i]=y at d;have M:y∈xs:=by
     have:=aJ d;rw[<-r']at this;exact(ba.1 this).1
    obtain⟨ab,ao,rfl⟩:=o7.addr ae;have cc:=o7.cell (j:=i) (v:=gw (y.num:Int)) (by rw[aF];unfold kx;rw[aF,d];rfl);have L7:=look O M;have ca:=O.Ef y M;simp only[aC,cp];refine⟨ae,az.2 ⟨_,cc,_,aq O.cX,_,L7,az.2 ⟨_,aq ca,?_⟩⟩⟩;by_cases W:y.ses=0
    .rw[ah (cH W)];have M':lg s.L x=some y.abs:=by
      unfold lg;rw[<-hF,List.find?_map];have:C.find? ((λz:Cp=>decide (z.ses=0)) ∘ CV.abs)=some y:=by
       rw[List.find?_eq_some_iff_getElem];refine⟨by simp[CV.abs,W],i,q',(aB.1 d).2,λj G=> ?_⟩;have N:=d' j (C[j]' ae) G (aj ae);have N':decide ((C[j]' ae).abs.ses=0)=false:=aD N;show(!decide ((C[j]' ae).abs.ses=0))=true;rw[N'];rfl
      rw[this];rfl
     have f':=hb y.abs (by rw[<-H.abs];exact bu M);have Zz:1<=y.num:=f'.1;have ZA:y.num<s.next:=f'.2.1;have ZB:y.v.b.length<=600:=f'.2.2;refine az.2 (O.Cu (ses:=ses) (dl:=dl) M λU7 a' VQ=>⟨_,aq a'.cX,?_⟩);have L':may (y.num:Int) (dl:Int)=true:=mj.2 ⟨ae,ae,ae⟩;refine cf.Hh a'.HF (by show s.E2.length<_;omega) (y.num:Int) (dl:Int) ae (λ_ l' Yf x' G' f11=>⟨_,rfl,?_⟩) (λhx=>absurd L' (by rw[hx];simp));obtain⟨E,Xl,b',VR,_⟩:=a'.HG (s':=rB s y.abs ses dl) x' G' f11 rfl rfl rfl ⟨rfl,rfl,rfl,rfl⟩;have t':({ y with ses:=ses,dl:=dl } :CV)∈xs.map (λz=>if z.num=y.num then({ y with ses:=ses,dl:=dl } :CV)else z):=bj.2 ⟨y,M,ah rfl⟩;have k':=b'.Ef _ t';have F':=b'.Bb _ t';refine az.2 (aN.ld k' (aN.new λJ m' ZC n' f13=>az.2 ⟨_,_,_,aq (f13.get k' id),gQ ((F'.row).frame f13 cb) rfl (by show y.v.b.length<=_;omega) λY j' H' v' f14 K=>⟨_,_,_,rfl,?_⟩⟩));have qQ:=VQ.trans VR;have ZD:F.size<=l'.size:=qQ.fr.1;have ZE:=f13.1;refine bL (f14.get n' id) bQ λT D' ZF g'=> ?_
     have I':aN.at T J (y.num:Int) y.e.jT y.e.node y.e.gr y.e.host y.e.jv Y y.v.b.length j' (y.cg:Int) ses (dl:Int):=D';refine aN.ld I' ?_;have nM: ∀y,y<F.size->h.size<=y->¬E.M y:=λy y1 y2 hm=>by
      rcases qQ.jD y hm with h3|h3
      .have:=H.Eh y ((H.mm y).1 h3);omega
      .omega
     have Ua:q<F.size:=aE o';have C': ¬X.M q:=λhm=>by have:=H.Eh q ((H.mm q).1 hm);omega
     have J':aN.at T q 0 false 0 0 ⟨#[]⟩ ⟨#[]⟩ none 0 0 0 0 0:=by
      have h3:=qQ.fr.get o' C';have h4:=(f13.tt f14).get h3 id;have:q≠J:=ae
      unfold aN.at;rw[g' q this];exact h4
     refine aN.set J' λU E' ZG w'=>aN.ld E' ?_
     have Yg: ∀y,aL Y y->m'.size<=y:=K;have fA:Fr (λy=>y=J) H' T:=⟨ae,λy _ D=>g' y D⟩;have fB:Fr (λy=>y=q) T U:=⟨ae,λy _ D=>w' y D⟩;have Yh:J<m'.size:=aE n';have Ub:Row U Y (bc y.v.b):=((v'.iJ).frame fA (λa ea hm=>by have:=K a.block ⟨a,ea,rfl⟩;have hm:a.block=J:=hm;omega)).frame fB (λa ea hm=>by have:=K a.block ⟨a,ea,rfl⟩;have hm:a.block=q:=hm;omega);have i':Ct l' t E (rB s y.abs ses dl):=⟨_,_,_,_,_,_,_,b'⟩;have u':=λy (d:E.M y\/E.D y)=>i'.lt y d
     have z':=i'.on (f13.tt f14);have A':=z'.frame fA (λy d e=>bR (u' y d));have d2: ¬(E.M q\/E.D q):=λhm=>by
      rcases hm with hm|hm
      .exact nM q Ua ae hm
      .rcases qQ.lW q hm with h3|h3
       .have:=(H.dd q h3).2;omega
       .omega
     have B':=A'.frame fB (λy d e=>d2 (e▸d));have I:=bN.no Z qQ;have Yi:bN X h E U:=by
      refine⟨⟨gv f14.1 I.fr.1,λy d D=> ?_⟩,I.jD,I.lW,I.wc⟩;have:=I.fr.1;rw[w' y ae,g' y ae,(f13.tt f14).2 y ae id];exact I.fr.2 y d D
     exact k3 hm y.abs M' U E Y j' B' Yi Ub v'.le (λy d=>⟨gv (K y d) Z.1,λhx=>gv (u' y hx) (K y d)⟩)
    .rw[af (cH W),bB ae ae];refine⟨⟨by first|trivial|rfl,i+1,ae,ae,λj z G N=> ?_⟩,by show C.length - Int.toNat ((i:Int)+1)<C.length - i;omega⟩;by_cases ej:j=i
     .subst ej;rw[d]at N;cases N;exact W
     .exact d' j z ae N
   .rw[af (by simp;omega)];refine fin F 4 f7 (k2 hm ?_);unfold lg;rw[<-hF,List.find?_map];have:C.find? ((λz:Cp=>decide (z.ses=0)) ∘ CV.abs)=none:=by
     rw[List.find?_eq_none];intro y d;obtain⟨j,G⟩:=bK d;have:=d' j y (bR ((aB.1 G).1)) G;have L:decide (y.abs.ses=0)=false:=aD this;show¬(decide (y.abs.ses=0)=true);rw[L];decide
    rw[this];rfl
 .rw[aD q1,gh];exact bad (λhm=>q1 ⟨hm.1,hm.2.1⟩)

end gx
end
section
open Go.kQ
namespace gx
open iY cf hM
variable {h:ak} {t:Nat} {X:Ft} {s s':CF} {n:Nat} {now:Int}
variable {z:Cp} {L:List Cp} {k a ses:Int} {e:E} {b:Nat} {K:List Int}
structure Ord (s:CF):Prop where
 nd:(s.L.map Cp.num).Nodup
 o1:ju s.E1
 o2:ju s.E2
 n1:(keys s.E1).Nodup
 n2:(keys s.E2).Nodup
theorem Ct.ord(H:Ct h t X s):Ord s:=by
 obtain⟨m,xs,A,S,d,c,l,H⟩:=H;refine⟨?_,H.HE.sorted,H.HF.sorted,H.HE.nodup,H.HF.nodup⟩;rw[<-H.abs,dK];exact H.so.imp (λh=>Nat.ne_of_lt h)
structure sa (s:CF):Prop where
 bd: ∀z∈s.L,1<=z.num/\z.num<s.next/\z.d.length<=600
 sp: ∀z∈s.L,0<=z.ses
 e1: ∀e,e∈s.E1↔ ∃z∈s.L,e=((z.num:Int),(z.cg:Int))
 e2: ∀e,e∈s.E2↔ ∃z∈s.L,z.ses≠0/\e=((z.num:Int),(z.dl:Int))
 xO:s.next=1+s.L.length+s.gk+s.over+s.gone
theorem Ord.inj(O:Ord s){y:Cp}(m:z∈s.L)(l:y∈s.L)(e:z.num=y.num):z=y:=by
 obtain⟨i,H⟩:=bK m;obtain⟨j,c⟩:=bK l;have o:=(aB.1 H).1;by_cases d:i=j
 .subst d;rw[H]at c;exact bp c
 .exfalso;have f:(s.L.map Cp.num)[i]? =some z.num:=by rw[aF,H];rfl
  have g:(s.L.map Cp.num)[j]? =some y.num:=by rw[aF,c];rfl
  have:i=j:=(dU (by rw[aA];exact o) O.nd).1 (f.trans ((bP some e).trans g.symm));exact d this
theorem sc{L:List E}:e∈fS L k↔e∈L/\e.1≠k:=by unfold fS;simp[ba]
theorem Fy{L:List E}{v:Int}:e∈zW L k v↔e=(k,v)\/(e∈L/\e.1≠k):=by
 unfold zW;rw[(mg _ _).mem_iff,bG,sc]
theorem mV :z∈Bu L k↔z∈L/\(z.num:Int)≠k:=by unfold Bu;simp[ba]
theorem mW :z∈oM L n a b↔ ∃y∈L,z=if y.num=n then { y with ses:=a,dl:=b } else y:=by
 unfold oM;rw[bj];exact⟨λ⟨y,H,c⟩=>⟨y,H,c.symm⟩,λ⟨y,H,c⟩=>⟨y,H,c.symm⟩⟩
theorem Nx(L:List Cp)(n:Nat)(a:Int)(b:Nat):(oM L n a b).length=L.length:=by unfold oM;rw[aA]
theorem vu: ∀{L:List Cp},(L.map Cp.num).Nodup->∀{z:Cp},z∈L->(Bu L (z.num:Int)).length+1=L.length
 | [],_,z,hz=>by cases hz
 |y::l,nd,z,hz=>by
  rw[cj,fb]at nd;unfold Bu;rw[cz];rcases bG.1 hz with rfl|hz
  .rw[af bQ,cB.2 (λx H=> ?_),aW];have:x.num≠z.num:=λe=>nd.1 (by rw[<-e];exact bu H)
   simp;omega
  .have c:y.num≠z.num:=λe=>nd.1 (by rw[e];exact bu hz)
   rw[ah (by simp;omega),aW,aW];have:=vu nd.2 hz;unfold Bu at this;omega
theorem sa.add(ok:sa s)(x:Ev)(d:cM)(cg:Nat):sa (j8 s x d cg):=by
 unfold j8;by_cases H:iN s x d cg=0
 .rw[ah H];have hd:d.length<=600:=by
   unfold iN at H;split at H
   .rename_i f;unfold yt at f;simp only[aS,aZ]at f;exact f.2.2.2.1
   .cases H
  refine⟨λz hz=> ?_,λz hz=> ?_,λe=> ?_,λe=> ?_,?_⟩
  .rcases bz.1 hz with hz|hz
   .have:=ok.bd z hz;exact⟨this.1,Nat.lt_succ_of_lt this.2.1,this.2.2⟩
   .obtain rfl:=bM.1 hz;exact⟨by have:=ok.xO;show 1<=s.next;omega,Nat.lt_succ_self _,hd⟩
  .rcases bz.1 hz with hz|hz
   .exact ok.sp z hz
   .obtain rfl:=bM.1 hz;exact dT _
  .show e∈zW s.E1 _ _↔ ∃z∈s.L++ [_],_;rw[Fy,ok.e1];constructor
   .rintro(rfl|⟨⟨z,hz,rfl⟩,_⟩)
    .exact⟨_,bz.2 (.inr (bM.2 rfl)),rfl⟩
    .exact⟨z,bz.2 (.inl hz),rfl⟩
   .rintro⟨z,hz,rfl⟩;rcases bz.1 hz with hz|hz
    .exact .inr ⟨⟨z,hz,rfl⟩,by have:=(ok.bd z hz).2.1;show(z.num:Int)≠_;omega⟩
    .obtain rfl:=bM.1 hz;exact .inl rfl
  .show e∈s.E2↔ ∃z∈s.L++ [_],_;rw[ok.e2];constructor
   .rintro⟨z,hz,c⟩;exact⟨z,bz.2 (.inl hz),c⟩
   .rintro⟨z,hz,c⟩;rcases bz.1 hz with hz|hz
    .exact⟨z,hz,c⟩
    .obtain rfl:=bM.1 hz;exact absurd rfl c.1
  .have:=ok.xO;show s.next+1=1+(s.L++ [_]).length+s.gk+s.over+s.gone;rw[ar,dG];omega
 .rw[af H];exact ok
theorem sa.rem(ok:sa s)(O:Ord s)(l:z∈s.L)(c:s'.L=Bu s.L (z.num:Int))(i:s'.E1=fS s.E1 (z.num:Int))(j:s'.E2=fS s.E2 (z.num:Int))(g:s'.next=s.next)(m:s'.gk+s'.over+s'.gone=s.gk+s.over+s.gone+1):sa s':=by
 refine⟨λy H=> ?_,λy H=> ?_,λe=> ?_,λe=> ?_,?_⟩
 .rw[c,mV]at H;rw[g];exact ok.bd y H.1
 .rw[c,mV]at H;exact ok.sp y H.1
 .rw[i,sc,ok.e1,c];constructor
  .rintro⟨⟨y,H,rfl⟩,d⟩;exact⟨y,mV.2 ⟨H,d⟩,rfl⟩
  .rintro⟨y,H,rfl⟩;have:=mV.1 H;exact⟨⟨y,this.1,rfl⟩,this.2⟩
 .rw[j,sc,ok.e2,c];constructor
  .rintro⟨⟨y,H,f,rfl⟩,d⟩;exact⟨y,mV.2 ⟨H,d⟩,f,rfl⟩
  .rintro⟨y,H,f,rfl⟩;have:=mV.1 H;exact⟨⟨y,this.1,f,rfl⟩,this.2⟩
 .have:=vu O.nd l;have:=ok.xO;rw[g,c];omega
theorem Fz(h:km L k ses=0): ∃z∈L,(z.num:Int)=k/\z.ses=ses/\ses≠0:=by
 unfold km at h;cases c:yr L k with
 |none=>rw[c]at h;cases h
 |some z=>
  rw[c]at h;dsimp only at h;split at h
  .cases h
  .rename_i H;obtain⟨d,f⟩:=wP c;refine⟨z,d,f,?_,?_⟩<;>(simp only[not_or,Decidable.not_not]at H)
   .exact H.2
   .rw[<-H.2];exact H.1
theorem sa.VS(ok:sa s)(O:Ord s)(k ses:Int):sa (sJ s k ses):=by
 unfold sJ;by_cases H:km s.L k ses=0
 .rw[ah H];obtain⟨z,c,rfl,_,_⟩:=Fz H;exact ok.rem O c rfl rfl rfl rfl (by show s.gk+1+s.over+s.gone=_;omega)
 .rw[af H];exact ok
theorem sa.set(ok:sa s)(O:Ord s)(p:z∈s.L)(o:0<=a)(f:s'.L=oM s.L z.num a b)(i:s'.E1=s.E1)(j: ∀e,e∈s'.E2↔(a≠0/\e=((z.num:Int),(b:Int)))\/(e∈s.E2/\e.1≠(z.num:Int)))(g:s'.next=s.next)(q:s'.gk+s'.over+s'.gone=s.gk+s.over+s.gone):sa s':=by
 refine⟨λy H=> ?_,λy H=> ?_,λe=> ?_,λe=> ?_,?_⟩
 .rw[f,mW]at H;obtain⟨u,c,rfl⟩:=H;rw[g];have:=ok.bd u c;split<;>exact this
 .rw[f,mW]at H;obtain⟨u,c,rfl⟩:=H;split
  .exact o
  .exact ok.sp u c
 .rw[i,ok.e1,f];constructor
  .rintro⟨y,H,rfl⟩;refine⟨_,mW.2 ⟨y,H,rfl⟩,?_⟩;split<;>rfl
  .rintro⟨y,H,rfl⟩;obtain⟨u,c,rfl⟩:=mW.1 H;refine⟨u,c,?_⟩;split<;>rfl
 .rw[j,ok.e2,f];constructor
  .rintro(⟨l,rfl⟩|⟨⟨y,H,d,rfl⟩,m⟩)
   .refine⟨_,mW.2 ⟨z,p,rfl⟩,?_⟩;rw[ah rfl];exact⟨l,rfl⟩
   .refine⟨_,mW.2 ⟨y,H,rfl⟩,?_⟩;rw[af (λe=>m (by rw[e]))];exact⟨d,rfl⟩
  .rintro⟨y,H,d,rfl⟩;obtain⟨u,c,rfl⟩:=mW.1 H;by_cases e:u.num=z.num
   .rw[ah e]at d⊢;exact .inl ⟨d,by rw[<-e]⟩
   .rw[af e]at d⊢;exact .inr ⟨⟨u,c,d,rfl⟩,by show(u.num:Int)≠_;omega⟩
 .have:=ok.xO;rw[g,f,Nx];omega
theorem sa.rel(ok:sa s)(O:Ord s)(k ses:Int):sa (Dv s k ses):=by
 unfold Dv;by_cases H:km s.L k ses=0
 .rw[ah H];obtain⟨z,c,rfl,_,_⟩:=Fz H;rw[aC];refine ok.set O c (dT 0) rfl rfl (λe=> ?_) rfl rfl;show e∈fS _ _↔_;rw[sc];simp
 .rw[af H];exact ok
theorem HQ{x:Ev}(h:lg L x=some z):z∈L/\z.e=x/\z.ses=0:=by
 unfold lg lC at h;have H:=eX h;have c:=List.find?_some h;rw[ba]at H;exact⟨H.1,cH H.2,by simpa using c⟩
theorem sa.Cu(ok:sa s)(O:Ord s)(c:z∈s.L){dl:Nat}(H:uq ses dl):sa (rB s z ses dl):=by
 have d:=H.1;refine ok.set O c ae rfl rfl (λe=> ?_) rfl rfl;show e∈zW _ _ _↔_;rw[Fy];have:ses≠0:=ae
 simp[this]
theorem gm: ∀{L:List E},ju L->cf.due L now=L.filter (jy now)/\cf.rest L now=L.filter (λe=> !jy now e)
 | [],_=>⟨rfl,rfl⟩
 |e::r,g=>by
  have f:=dS.1 g;obtain⟨i1,i2⟩:=gm (L:=r) f.2;unfold cf.due at i1⊢;unfold cf.rest at i2⊢;by_cases d:jy now e=true
  .rw[List.takeWhile_cons,List.dropWhile_cons,cz,cz,d];simp only[bg,dh,au,aM];rw[i1,i2];exact⟨rfl,rfl⟩
  .have c:jy now e=false:=by simpa using d
   have all: ∀x∈r,jy now x=false:=by
    intro x H;have h1:=f.1 x H;unfold jy at c⊢;have i:=fR c;apply aD
    rcases h1 with h1|h1<;>omega
   rw[List.takeWhile_cons,List.dropWhile_cons,cz,cz,c];simp only[au,aM,eL,bg];refine⟨?_,?_⟩
   .symm;rw[List.filter_eq_nil_iff];intro x H;rw[all x H];simp
   .congr 1;symm;rw[cB];intro x H;rw[all x H];rfl
def ur(L:List Cp)(K:List Int):List Cp:=L.filter (λz=> !decide ((z.num:Int)∈K))
def oN(L:List E)(K:List Int):List E:=L.filter (λe=> !decide (e.1∈K))
theorem Au(L:List Cp):ur L []=L:=by unfold ur;exact cB.2 (λ_ _=>bQ)
theorem rC(L:List E):oN L []=L:=by unfold oN;exact cB.2 (λ_ _=>bQ)
theorem wR(L:List Cp)(k:Int)(K:List Int):ur (Bu L k) K=ur L (k::K):=by
 unfold ur Bu;rw[List.filter_filter];apply ee
 intro x _;by_cases H:(x.num:Int)=k
 .simp[H]
 .by_cases c:(x.num:Int)∈K<;>simp[H,c]
theorem oO(L:List E)(k:Int)(K:List Int):oN (fS L k) K=oN L (k::K):=by
 unfold oN fS;rw[List.filter_filter];apply ee
 intro x _;by_cases H:x.1=k
 .simp[H]
 .by_cases c:x.1∈K<;>simp[H,c]
theorem Cz: ∀(K:List Int)(s:CF),K.foldl kL s= { s with L:=ur s.L K,E1:=oN s.E1 K,E2:=oN s.E2 K,over:=s.over+K.length }
 | [],s=>by rw[Au,rC,rC];rfl
 |k::K,s=>by
  rw[List.foldl_cons,Cz K];unfold kL Du;dsimp only;rw[wR,oO,oO,aW];congr 1;omega
theorem wS: ∀(K:List Int)(s:CF),K.foldl pJ s= { s with L:=ur s.L K,E1:=oN s.E1 K,E2:=oN s.E2 K,gone:=s.gone+K.length }
 | [],s=>by rw[Au,rC,rC];rfl
 |k::K,s=>by
  rw[List.foldl_cons,wS K];unfold pJ Du;dsimp only;rw[wR,oO,oO,aW];congr 1;omega
def mX(L:List Cp)(K:List Int):List Cp:=L.map (λz=>if(z.num:Int)∈K then { z with ses:=0,dl:=0 } else z)
theorem CA: ∀(K:List Int)(s:CF),(∀k∈K,0<=k)->K.foldl (λs k=>rq s k.toNat) s= { s with L:=mX s.L K,E2:=oN s.E2 K }
 | [],s,_=>by
  rw[rC];have:mX s.L []=s.L:=by unfold mX;simp
  rw[this];rfl
 |k::K,s,f=>by
  rw[List.foldl_cons,CA K _ (λj g=>f j (ct _ g))];have hk:=f k bQ;unfold rq;dsimp only;have e:((k.toNat:Nat):Int)=k:=ae
  rw[e,oO];have:mX (oM s.L k.toNat 0 0) K=mX s.L (k::K):=by
   unfold mX oM;rw[dK];apply dV
   intro x _;show(λz:Cp=>if(z.num:Int)∈K then({ z with ses:=0,dl:=0 } :Cp)else z) (if x.num=k.toNat then({ x with ses:=0,dl:=0 } :Cp)else x)=_;by_cases d:x.num=k.toNat
   .have c:(x.num:Int)=k:=ae
    rw[ah d,ah (show(x.num:Int)∈k::K by rw[c];simp)];dsimp only;split<;>rfl
   .have c:(x.num:Int)≠k:=ae
    rw[af d];dsimp only;by_cases H:(x.num:Int)∈K
    .rw[ah H,ah (ct _ H)]
    .rw[af H,af (by simp[c,H])]
  rw[this]
theorem Jq: ∀(K:List Int)(L:List Cp),(L.map Cp.num).Nodup->K.Nodup->(∀k∈K,∃z∈L,(z.num:Int)=k)->(ur L K).length+K.length=L.length
 | [],L,_,_,_=>by rw[Au];rfl
 |k::K,L,nd,f,hk=>by
  obtain⟨z,d,rfl⟩:=hk k bQ;rw[<-wR,aW];have g:=vu nd d;have N:=fb.1 f;have i:=Jq K (Bu L (z.num:Int)) (fu (fP _ cU) nd) N.2 (λj H=>by
   obtain⟨y,c,e⟩:=hk j (ct _ H);exact⟨y,mV.2 ⟨c,λe2=>N.1 (by rw[<-e2,e];exact H)⟩,e⟩)
  omega
theorem mY :z∈ur L K↔z∈L/\(z.num:Int)∉K:=by unfold ur;simp[ba]
theorem Av{L:List E}:e∈oN L K↔e∈L/\e.1∉K:=by unfold oN;simp[ba]
theorem K3 :z∈mX L K↔ ∃y∈L,z=if(y.num:Int)∈K then { y with ses:=0,dl:=0 } else y:=by
 unfold mX;rw[bj];exact⟨λ⟨y,H,c⟩=>⟨y,H,c.symm⟩,λ⟨y,H,c⟩=>⟨y,H,c.symm⟩⟩
theorem Ny(O:Ord s)(x:Ev):((lC s.L x).map (λz=>(z.num:Int))).Nodup:=by
 have:((lC s.L x).map Cp.num).Nodup:=fu (fP _ cU) O.nd;have e:(lC s.L x).map (λz=>(z.num:Int))=((lC s.L x).map Cp.num).map (λn:Nat=>(n:Int)):=by rw[dK];rfl
 rw[e];exact List.Pairwise.map _ (λa b h=>ae) this
theorem sa.outs(ok:sa s)(O:Ord s)(N:K.Nodup)(hk: ∀k∈K,∃z∈s.L,(z.num:Int)=k)(c:s'.L=ur s.L K)(i:s'.E1=oN s.E1 K)(j:s'.E2=oN s.E2 K)(g:s'.next=s.next)(l:s'.gk+s'.over+s'.gone=s.gk+s.over+s.gone+K.length):sa s':=by
 refine⟨λy H=> ?_,λy H=> ?_,λe=> ?_,λe=> ?_,?_⟩
 .rw[c,mY]at H;rw[g];exact ok.bd y H.1
 .rw[c,mY]at H;exact ok.sp y H.1
 .rw[i,Av,ok.e1,c];constructor
  .rintro⟨⟨y,H,rfl⟩,d⟩;exact⟨y,mY.2 ⟨H,d⟩,rfl⟩
  .rintro⟨y,H,rfl⟩;have:=mY.1 H;exact⟨⟨y,this.1,rfl⟩,this.2⟩
 .rw[j,Av,ok.e2,c];constructor
  .rintro⟨⟨y,H,f,rfl⟩,d⟩;exact⟨y,mY.2 ⟨H,d⟩,f,rfl⟩
  .rintro⟨y,H,f,rfl⟩;have:=mY.1 H;exact⟨⟨y,this.1,f,rfl⟩,this.2⟩
 .have:=Jq K s.L O.nd N hk;have:=ok.xO;rw[g,c];omega
theorem sa.drop(ok:sa s)(O:Ord s)(x:Ev):sa (xR s x):=by
 unfold xR;rw[wS];refine ok.outs O (Ny O x) (λk hk=> ?_) rfl rfl rfl rfl (by show s.gk+s.over+(s.gone+_)=_;omega);obtain⟨z,H,e⟩:=bj.1 hk;exact⟨z,(ba.1 H).1,e⟩
theorem Dw(O:Ord s):e∈cf.due s.E1 now↔e∈s.E1/\e.2<=now:=by
 rw[(gm O.o1).1,ba];unfold jy;simp
theorem K4(O:Ord s)(now:Int):(keys (cf.due s.E1 now)).Nodup:=by
 unfold keys;exact fu (fP _ (List.takeWhile_sublist _)) O.n1
theorem Dx(ok:sa s)(O:Ord s)(H:z∈s.L):(z.num:Int)∈keys (cf.due s.E1 now)↔(z.cg:Int)<=now:=by
 unfold keys;rw[bj];constructor
 .rintro⟨e,f,e1⟩;obtain⟨c,d⟩:=(Dw O).1 f;obtain⟨y,g,rfl⟩:=(ok.e1 e).1 c;obtain rfl:=O.inj g H (Int.ofNat.inj e1);exact d
 .intro h;exact⟨(z.num,z.cg),(Dw O).2 ⟨(ok.e1 _).2 ⟨z,H,rfl⟩,h⟩,rfl⟩
theorem Sk(ok:sa s)(O:Ord s)(hk:k∈keys (cf.due s.E1 now)): ∃z∈s.L,(z.num:Int)=k:=by
 unfold keys at hk;obtain⟨e,H,rfl⟩:=bj.1 hk;obtain⟨z,c,rfl⟩:=(ok.e1 e).1 ((Dw O).1 H).1;exact⟨z,c,rfl⟩
theorem K5(O:Ord s):oN (cf.rest s.E1 now) (keys (cf.due s.E1 now))=oN s.E1 (keys (cf.due s.E1 now)):=by
 rw[(gm O.o1).1,(gm O.o1).2];unfold oN keys;rw[List.filter_filter];apply ee
 intro e H;by_cases hd:jy now e=true
 .have:e.1∈(s.E1.filter (jy now)).map (·.1):=bu (ba.2 ⟨H,hd⟩);simp only[this,bt,dh,ft]
 .simp[hd]
def lM(now:Int)(z:Cp):Cp:=if z.ses≠0/\(z.dl:Int)<=now then { z with ses:=0,dl:=0 } else z
def Nz(s:CF)(now:Int):CF:= { L:=ur s.L (keys (cf.due s.E1 now)),next:=s.next,gk:=s.gk,over:=s.over+(keys (cf.due s.E1 now)).length,gone:=s.gone,E1:=oN s.E1 (keys (cf.due s.E1 now)),E2:=oN s.E2 (keys (cf.due s.E1 now)) }
def NA(s1:CF)(now:Int):CF:=(keys (cf.due s1.E2 now)).foldl (λs k=>rq s k.toNat) { s1 with E2:=cf.rest s1.E2 now }
theorem NB(O:Ord s):kq s now=NA (Nz s now) now:=by
 unfold kq NA Nz;dsimp only;rw[Cz];dsimp only;rw[K5 O]
theorem K6(ok:sa s)(O:Ord s)(now:Int):sa (kq s now)/\(∀z,z∈(kq s now).L↔ ∃y∈s.L,now<(y.cg:Int)/\z=lM now y)/\(kq s now).next=s.next/\(kq s now).E1.length<=s.E1.length/\(kq s now).E2.length<=s.E2.length/\(kq s now).L=(s.L.filter (λy=>decide (now<(y.cg:Int)))).map (lM now)/\(kq s now).gk=s.gk/\(kq s now).over=s.over+(cf.due s.E1 now).length/\(kq s now).gone=s.gone:=by
 rw[NB O];generalize g:Nz s now=s1;have o:sa s1:=by
  subst g;exact ok.outs O (K4 O now) (λk hk=>Sk ok O hk) rfl rfl rfl rfl (by show s.gk+(s.over+_)+s.gone=_;omega)
 have j:Ord s1:=by
  subst g;exact⟨fu (fP _ cU) O.nd,fU _ O.o1,fU _ O.o2,fu (fP _ cU) O.n1,fu (fP _ cU) O.n2⟩
 have M: ∀z,z∈s1.L↔z∈s.L/\now<(z.cg:Int):=λz=>by
  subst g;show z∈ur _ _↔_;rw[mY];constructor
  .rintro⟨d,i⟩;exact⟨d,Int.not_le.1 (λe=>i ((Dx ok O d).2 e))⟩
  .rintro⟨d,i⟩;exact⟨d,λe=>absurd ((Dx ok O d).1 e) (Int.not_le.2 i)⟩
 have n1:s1.next=s.next:=by subst g;rfl
 have l1:s1.E1.length<=s.E1.length:=by subst g;exact cC _ _
 have l2:s1.E2.length<=s.E2.length:=by subst g;exact cC _ _
 have c1:s1.gk=s.gk/\s1.over=s.over+(cf.due s.E1 now).length/\s1.gone=s.gone:=by subst g;exact⟨rfl,by show s.over+(keys _).length=_;unfold keys;rw[aA],rfl⟩
 have r:s1.L=s.L.filter (λy=>decide (now<(y.cg:Int))):=by
  subst g;show ur _ _=_;unfold ur;refine ee λz c=> ?_
  have:=Dx (now:=now) ok O c;by_cases hd:(z.cg:Int)<=now
  .rw[aw (this.2 hd),aD (Int.not_lt.2 hd)];rfl
  .rw[aD (λe=>hd (this.1 e)),aw (Int.not_le.1 hd)];rfl
 clear g;have l: ∀e,e∈cf.due s1.E2 now↔e∈s1.E2/\e.2<=now:=λe=>by
  rw[(gm j.o2).1,ba];unfold jy;simp
 have D: ∀z∈s1.L,((z.num:Int)∈keys (cf.due s1.E2 now)↔z.ses≠0/\(z.dl:Int)<=now):=λz c=>by
  unfold keys;rw[bj];constructor
  .rintro⟨e,p,e1⟩;obtain⟨d,i⟩:=(l e).1 p;obtain⟨y,H,f,rfl⟩:=(o.e2 e).1 d;obtain rfl:=j.inj H c (Int.ofNat.inj e1);exact⟨f,i⟩
  .rintro⟨d,i⟩;exact⟨(z.num,z.dl),(l _).2 ⟨(o.e2 _).2 ⟨z,c,d,rfl⟩,i⟩,rfl⟩
 have u: ∀k∈keys (cf.due s1.E2 now),0<=k:=λk hk=>by
  unfold keys at hk;obtain⟨e,p,rfl⟩:=bj.1 hk;obtain⟨z,c,_,rfl⟩:=(o.e2 e).1 ((l e).1 p).1;show(0:Int)<=(z.num:Int);omega
 unfold NA;rw[CA _ _ u];have m: ∀z∈s1.L,(if(z.num:Int)∈keys (cf.due s1.E2 now)then({ z with ses:=0,dl:=0 } :Cp)else z)=lM now z:=λz c=>by
  unfold lM;by_cases hd:z.ses≠0/\(z.dl:Int)<=now
  .rw[ah hd,ah ((D z c).2 hd)]
  .rw[af hd,af (λe=>hd ((D z c).1 e))]
 have fm: ∀z,z∈mX s1.L (keys (cf.due s1.E2 now))↔ ∃y∈s1.L,z=lM now y:=λz=>by
  rw[K3];constructor
  .rintro⟨y,H,rfl⟩;exact⟨y,H,m y H⟩
  .rintro⟨y,H,rfl⟩;exact⟨y,H,(m y H).symm⟩
 have F: ∀y,(lM now y).num=y.num:=λy=>by unfold lM;split<;>rfl
 have q: ∀y,(lM now y).cg=y.cg:=λy=>by unfold lM;split<;>rfl
 have v: ∀y,(lM now y).d=y.d:=λy=>by unfold lM;split<;>rfl
 refine⟨⟨λz c=> ?_,λz c=> ?_,λe=> ?_,λe=> ?_,?_⟩,λz=> ?_,n1,l1,?_,?_,c1⟩
 .obtain⟨y,H,rfl⟩:=(fm z).1 c;rw[F,v];exact o.bd y H
 .obtain⟨y,H,rfl⟩:=(fm z).1 c;unfold lM;split
  .exact dT _
  .exact o.sp y H
 .show e∈s1.E1↔ ∃z∈mX _ _,_;rw[o.e1];constructor
  .rintro⟨y,H,rfl⟩;exact⟨_,(fm _).2 ⟨y,H,rfl⟩,by rw[F,q]⟩
  .rintro⟨z,c,rfl⟩;obtain⟨y,H,rfl⟩:=(fm z).1 c;exact⟨y,H,by rw[F,q]⟩
 .show e∈oN (cf.rest s1.E2 now) _↔ ∃z∈mX _ _,_;rw[Av,(gm j.o2).2,ba];constructor
  .rintro⟨⟨d,i⟩,w⟩;obtain⟨y,H,f,rfl⟩:=(o.e2 e).1 d;have hd: ¬(y.ses≠0/\(y.dl:Int)<=now):=λhd=>w ((D y H).2 hd)
   refine⟨_,(fm _).2 ⟨y,H,rfl⟩,?_⟩;unfold lM;rw[af hd];exact⟨f,rfl⟩
  .rintro⟨z,c,f,rfl⟩;obtain⟨y,H,rfl⟩:=(fm z).1 c;unfold lM at f⊢;by_cases hd:y.ses≠0/\(y.dl:Int)<=now
   .rw[ah hd]at f;exact absurd rfl f
   .rw[af hd]at f⊢;refine⟨⟨(o.e2 _).2 ⟨y,H,f,rfl⟩,?_⟩,λhk=>hd ((D y H).1 hk)⟩;have: ¬(y.dl:Int)<=now:=λe=>hd ⟨f,e⟩
    unfold jy;simpa using this
 .have:=o.xO;show s1.next=1+(mX _ _).length+_+_+_;unfold mX;rw[aA];exact this
 .show z∈mX _ _↔_;rw[fm];constructor
  .rintro⟨y,H,rfl⟩;have:=(M y).1 H;exact⟨y,this.1,this.2,rfl⟩
  .rintro⟨y,H,x,rfl⟩;exact⟨y,(M y).2 ⟨H,x⟩,rfl⟩
 .refine cD (cC _ _) (cD (As _ _) l2)
 .show mX _ _=_;rw[<-r];exact dV m

end gx
end
section
variable {h:ak} {R:fG}
variable {x:Bool} {X a:Int} {c d:ByteArray}
theorem NC.walk (j:aT h (.cells #[.bool x,.U X,.U a,.string c,.string d] 29) λb e=>ax.LD e (AA b 0) λn o p q r=>Cl 86 #[.agg #[.bool n,.U o,.U p,.string q,.string r]] e λv H=> ∃t6,v=.bool t6/\if(!t6)then R (.tuple #[.string hC,.I 3]) H else ax.LD H (AA b 0) λs u w y z=> ∃(eq:Bool),yD Tryz.prog 29 (.agg #[.bool s,.U u,.U w,.string y,.string z]) (.agg #[.bool false,.U 0,.U 0,.string hC,.string hC]) eq/\if eq then R (.tuple #[.string (⟨#[100,116,110,58,110,111,110,101]⟩:ByteArray),.I 0]) H else∃t14,Cc H b 0 (.bool t14)/\if t14 then Hu H b 1 λt16=>Hu H b 2 λt21=>Cl 135 #[.U t16,.I 10] H λV f=> ∃t17,V=.string t17/\Cc f b 2 (.U t21)/\(((⟨#[105,112,110,58]⟩:ByteArray).size+t17.size:Nat):Int)<=IntKind.max .i64/\((((⟨#[105,112,110,58]⟩:ByteArray)++t17).size+(⟨#[46]⟩:ByteArray).size:Nat):Int)<=IntKind.max .i64/\Cl 135 #[.U t21,.I 10] f λA g=> ∃t22,A=.string t22/\(((((⟨#[105,112,110,58]⟩:ByteArray)++t17)++(⟨#[46]⟩:ByteArray)).size+t22.size:Nat):Int)<=IntKind.max .i64/\R (.tuple #[.string ((((⟨#[105,112,110,58]⟩:ByteArray)++t17)++(⟨#[46]⟩:ByteArray))++t22),.I 0]) g else ax.LD H (AA b 0) λt T k l m=>Cl 136 #[.agg #[.bool t,.U T,.U k,.string l,.string m]] H λB i=> ∃t25,B=.string t25/\(((⟨#[100,116,110,58]⟩:ByteArray).size+t25.size:Nat):Int)<=IntKind.max .i64/\R (.tuple #[.string ((⟨#[100,116,110,58]⟩:ByteArray)++t25),.I 0]) i):Cl 75 #[.agg #[.bool x,.U X,.U a,.string c,.string d]] h R:=aR (lq (sq (bq (lq (cq ll (lq (cq ll (lq (cq (sq (.gT (.op 0 (.op 1 (.op 5 (.op 6 (.op 2 (.op 3 (.op 4 (.op 7 (.op 8 (.op 9 (.op 10 .done)))))))))))) lf) lf))))))) ll)) Tryz.func75 j
theorem ND.walk (e:aT h (.cells #[.bool x,.U X,.U a,.string c,.string d] 29) λb H=>Hs H b 3 λt4=>(((⟨#[47,47]⟩:ByteArray).size+t4.size:Nat):Int)<=IntKind.max .i64/\((((⟨#[47,47]⟩:ByteArray)++t4).size+(⟨#[47]⟩:ByteArray).size:Nat):Int)<=IntKind.max .i64/\Hs H b 4 λt8=>(((((⟨#[47,47]⟩:ByteArray)++t4)++(⟨#[47]⟩:ByteArray)).size+t8.size:Nat):Int)<=IntKind.max .i64/\R (.string ((((⟨#[47,47]⟩:ByteArray)++t4)++(⟨#[47]⟩:ByteArray))++t8)) H):Cl 136 #[.agg #[.bool x,.U X,.U a,.string c,.string d]] h R:=aR (lq ll) Tryz.func136 e

end
section
namespace iY
variable {h:ak} {R:fG}
theorem jK(a b:cM):str a++str b=str (a++b):=by
 unfold str;apply ByteArray.ext
 rw[ByteArray.data_append];simp
theorem iw(a:cM):(str a).size=a.length:=by unfold str;rfl
theorem vI(s:ByteArray):s=str s.data.toList:=(Mz s).symm
theorem kM(s:ByteArray):s.data.toList.length=s.size:=by rw[eR];rfl
theorem Sm:IntKind.max .i64=9223372036854775807:=rfl
theorem Jr(x:Ev)(c:x.host.size<=1000)(d:x.jv.size<=1000)(hk: iq h R (.string (str ([47,47]++x.host.data.toList++ [47]++x.jv.data.toList)))):Cl 136 #[kO x] h R:=by
 refine ND.walk (ax.box λb a e H f3=>⟨_,aq H,?_⟩);have e1:(⟨#[47,47]⟩:ByteArray)=str [47,47]:=rfl;have e2:(⟨#[47]⟩:ByteArray)=str [47]:=rfl;have l1:=kM x.host;have l2:=kM x.jv;have K:=hk a f3;rw[e1,e2,Sm];refine⟨?_,?_,_,aq H,?_,?_⟩
 .rw[iw];simp;omega
 .rw[vI x.host,jK,iw,iw];simp;omega
 .rw[vI x.host,jK,jK,iw];simp;omega
 .rw[vI x.host,vI x.jv,jK,jK,jK];exact K

end iY
end
end Go.Proofs.YtlenamcfacpheaaGreatDoor
namespace Go.Proofs
open Go.Den
open IntKind (wrap)
open Int (toNat)
section
open Go.Shelf
def Tryz.FA:Go.Shelf.Ren:=⟨fun|284=>234|129=>223|317=>276|318=>277|n=>n,fun|53=>27|3=>3|212=>374|0=>0|4=>4|46=>211|5=>5|9=>9|n=>n,fun|17=>0|n=>n⟩
theorem Tryz.PS : Go.Proofs.LaysM.n284 Tryz.prog Tryz.FA := {
  mixed := by kernel_rfl
  f129 := Tryz.func223.trans (congrArg some (by kernel_rfl))
  f284 := Tryz.func234.trans (congrArg some (by kernel_rfl))
  f317 := Tryz.func276.trans (congrArg some (by kernel_rfl))
  f318 := Tryz.func277.trans (congrArg some (by kernel_rfl))
  t0 := Tryz.underlying0
  a0 := Tryz.isAgg0
  z0 := Tryz.sizeOf0
  v0 := Tryz.zeroValue0
  t3 := Tryz.underlying3
  a3 := Tryz.isAgg3
  z3 := Tryz.sizeOf3
  v3 := Tryz.zeroValue3
  t4 := Tryz.underlying4
  a4 := Tryz.isAgg4
  z4 := Tryz.sizeOf4
  v4 := Tryz.zeroValue4
  t5 := Tryz.underlying5
  a5 := Tryz.isAgg5
  z5 := Tryz.sizeOf5
  v5 := Tryz.zeroValue5
  t9 := Tryz.underlying9
  a9 := Tryz.isAgg9
  z9 := Tryz.sizeOf9
  v9 := Tryz.zeroValue9
  t46 := Tryz.underlying211
  a46 := Tryz.isAgg211
  z46 := Tryz.sizeOf211
  v46 := Tryz.zeroValue211
  t53 := Tryz.underlying27
  a53 := Tryz.isAgg27
  z53 := Tryz.sizeOf27
  v53 := Tryz.zeroValue27
  t212 := Tryz.underlying374
  a212 := Tryz.isAgg374
  z212 := Tryz.sizeOf374
  v212 := Tryz.zeroValue374
  g17 := by kernel_rfl
  i0 := by kernel_rfl
  i3 := by kernel_rfl
  i4 := by kernel_rfl
  i5 := by kernel_rfl
  i9 := by kernel_rfl
  i46 := by kernel_rfl
  i53 := by kernel_rfl
  i212 := by kernel_rfl
  m17 := by kernel_rfl }
def Tryz.FB:Go.Shelf.Ren:=⟨fun|285=>235|n=>n,fun|37=>22|53=>27|3=>3|4=>4|51=>315|9=>9|5=>5|0=>0|n=>n,fun|n=>n⟩
theorem Tryz.PT : Go.Proofs.Lays.n285 Tryz.prog Tryz.FB := {
  mixed := by kernel_rfl
  f285 := Tryz.func235.trans (congrArg some (by kernel_rfl))
  t0 := Tryz.underlying0
  a0 := Tryz.isAgg0
  z0 := Tryz.sizeOf0
  v0 := Tryz.zeroValue0
  t3 := Tryz.underlying3
  a3 := Tryz.isAgg3
  z3 := Tryz.sizeOf3
  v3 := Tryz.zeroValue3
  t4 := Tryz.underlying4
  a4 := Tryz.isAgg4
  z4 := Tryz.sizeOf4
  v4 := Tryz.zeroValue4
  t5 := Tryz.underlying5
  a5 := Tryz.isAgg5
  z5 := Tryz.sizeOf5
  v5 := Tryz.zeroValue5
  t9 := Tryz.underlying9
  a9 := Tryz.isAgg9
  z9 := Tryz.sizeOf9
  v9 := Tryz.zeroValue9
  t37 := Tryz.underlying22
  a37 := Tryz.isAgg22
  z37 := Tryz.sizeOf22
  v37 := Tryz.zeroValue22
  t51 := Tryz.underlying315
  a51 := Tryz.isAgg315
  z51 := Tryz.sizeOf315
  v51 := Tryz.zeroValue315
  t53 := Tryz.underlying27
  a53 := Tryz.isAgg27
  z53 := Tryz.sizeOf27
  v53 := Tryz.zeroValue27 }
def Tryz.FC:Go.Shelf.Ren:=⟨fun|283=>233|n=>n,fun|3=>3|9=>9|4=>4|n=>n,fun|n=>n⟩
theorem Tryz.PU : Go.Proofs.Lays.n283 Tryz.prog Tryz.FC := {
  mixed := by kernel_rfl
  f283 := Tryz.func233.trans (congrArg some (by kernel_rfl))
  t3 := Tryz.underlying3
  a3 := Tryz.isAgg3
  z3 := Tryz.sizeOf3
  v3 := Tryz.zeroValue3
  t4 := Tryz.underlying4
  a4 := Tryz.isAgg4
  z4 := Tryz.sizeOf4
  v4 := Tryz.zeroValue4
  t9 := Tryz.underlying9
  a9 := Tryz.isAgg9
  z9 := Tryz.sizeOf9
  v9 := Tryz.zeroValue9 }

end
end Go.Proofs
namespace Go.Proofs.YtlenamcfacpheaaGreatDoor
open Go.Den
open IntKind (wrap)
open Int (toNat)
section
namespace mO
variable {h h':ak} {R:fG}
def oe(h:ak):Prop:= ∃t f,h[(0:Nat)]? =some (.cells (Lib.pow10Tab.map λz=>Value.int .u64 z).toArray t f)
theorem oe.frame{S:Nat->Prop}(T:oe h)(f:Fr S h h')(a: ∀c,c<h.size->¬S c):oe h':=by
 obtain⟨t,fr,H⟩:=T;exact⟨t,fr,f.get H (a _ (aE H))⟩
theorem oe.on(T:oe h)(f:Fr No h h'):oe h':=T.frame f cb
theorem oe.is{w:World}{s:String}(a:Tryz.prog.globalNamed s=some 0)(T:oe w.heap):Lib.TabIs Tryz.prog w s .u64 Lib.pow10Tab:=by
 obtain⟨t,fr,H⟩:=T;unfold Lib.TabIs World.var?;rw[a];show(match w.heap[(0:Nat)]? with|some (.cells cs _ _)=>some cs|_=>none)=_;rw[H]
theorem NF{i:Nat}(b:i<100)(hk:R (.string ⟨(Lib.decDigits i).toArray⟩) h):Cl 233 #[.I i] h R:=λw c=>
 (Any.internal_strconv_small Tryz.PU i b w).mono λe w' ⟨a,H⟩=>⟨_,a,by rw[H,c];exact hk,by rw[H];exact fM.refl _⟩
theorem K7{u:Nat}(T:oe h)(b:1<=u)(c:u<18446744073709551616)(hk:R (.I (Lib.nDigits u)) h):Cl 234 #[.U u] h R:=λw H=>
 (Any.internal_strconv_numDigits Tryz.PS u b c w (by rw[<-H]at T;exact T.is cZ)).mono λe w' ⟨d,a⟩=>⟨_,d,by rw[a,H];exact hk,by rw[a];exact fM.refl _⟩

end mO
end
section
variable {h:ak} {R:fG}
variable {i B:Int}
theorem mn.walk(f:if(B==10)then if(decide (i<100))then Cl 233 #[.I (wrap .i64 i)] h λv a=> ∃t15,v=.string t15/\R (.string t15) a else aT h (.cells #[.int .u8 0,.int .u8 0,.int .u8 0,.int .u8 0,.int .u8 0,.int .u8 0,.int .u8 0,.int .u8 0,.int .u8 0,.int .u8 0,.int .u8 0,.int .u8 0,.int .u8 0,.int .u8 0,.int .u8 0,.int .u8 0,.int .u8 0,.int .u8 0,.int .u8 0,.int .u8 0,.int .u8 0,.int .u8 0,.int .u8 0,.int .u8 0] 324) λb c=>Cl 234 #[.U i] c λV d=>Vi V λt17=>((0:Int)<=t17/\t17<=((24:Nat):Int))/\Cl 235 #[.slice (cR (Sa b 0) 24 0 1) ((toNat t17) - 0) (24 - 0),.U i] d λk H=>k=.tuple #[]/\((0:Int)<=t17/\t17<=((24:Nat):Int))/\∃(t24:ByteArray),qq Tryz.prog 22 9 (.slice (cR (Sa b 0) 24 0 1) ((toNat t17) - 0) (24 - 0)) H t24/\R (.string t24) H else Cl 236 #[.Z,.U i,.I B,.bool false,.bool false] h λl e=> ∃j g T t,l=.tuple #[.slice j g T,.string t]/\R (.string t) e):Cl 186 #[.U i,.I B] h R:=aR (lq (sq (lq (cq (sq (lq (cq ll lf)) (lq (lq (lq ll)))) lf)) (lq ll))) Tryz.func186 f
theorem uu.walk(a:Cl 186 #[.U i,.I B] h λv H=> ∃t7,v=.string t7/\R (.string t7) H):Cl 135 #[.U i,.I B] h R:=aR (lq ll) Tryz.func135 a

end
section
namespace mO
variable {h h':ak} {R:fG}
variable {u:Nat}
theorem K8{cX n cap:Nat}{c:Array Value}{t:TypeId}(a:h[cX]? =some (.cells c t (0,0)))(i: ∀j,j<n->c[j]? =some (.int .u8 0))(p:u<10 ^ n)(q:u<18446744073709551616)(y:n<100)(hk: ∀h' C d v,h'[cX]? =some (.cells C t (0,0))->Lib.FmtInv n u 0 v d->(∀j,j<n->C[j]? =some (.int .u8 ((d[j]!).toNat:Int)))->h'.size=h.size->(∀x,x≠cX->h'[x]? =h[x]?)->R (.tuple #[]) h'):
  Cl 235 #[.slice (Sa cX 0) n cap,.U u] h R:=λw r=>by
 subst r;have l:Sort.Holds (λ(b:UInt8)=>Value.int .u8 (b.toNat:Int)) w cX 0 (Array.replicate n 0):=λj H=>by
  rw[Array.size_replicate]at H;refine⟨?_,?_⟩
  .rw[ky,kf a,bH,i j H];have:(Array.replicate n (0:UInt8))[j]! =0:=by simp[H]
   rw[this];rfl
  .rw[rM];exact lF a
 have key:=Any.internal_strconv_formatBase10 Tryz.PT cX 0 cap u (Array.replicate n 0) w l (by rw[Array.size_replicate];exact p) q (by rw[Array.size_replicate];omega);rw[Array.size_replicate]at key;refine Calls.mono key λe w' ⟨m,k,v,d,g,f⟩=>⟨_,m,?_,?_⟩
 .subst g;have o:((Sort.putRow (λ(b:UInt8)=>Value.int .u8 (b.toNat:Int)) w cX 0 d).drewN k).heap=w.heap.modify cX (Sort.onCells (Sort.putCells (λ(b:UInt8)=>Value.int .u8 (b.toNat:Int)) 0 d)):=rfl;rw[o];refine hk _ (Sort.putCells (λ(b:UInt8)=>Value.int .u8 (b.toNat:Int)) 0 d c) d v ?_ f (λj H=> ?_) bQ (λx s=>by rw[dy,af (λe=>s e.symm)])
  .rw[dy,ah rfl,a];rfl
  .unfold Sort.putCells;rw[Array.getElem?_mapIdx,i j H,dk,ah ⟨br _,by rw[f.size];omega⟩,Nat.sub_zero]
 .subst g;exact⟨rfl,rfl,rfl⟩
theorem tS:Tryz.prog.underlying 22=some (.slice 5):=cZ
theorem t8:Tryz.prog.underlying 5=some (.int .u8):=cZ
theorem tT:Tryz.prog.underlying 9=some .string:=cZ
theorem K9(t:oe h)(b:u<18446744073709551616)(hk: iq h R (.string ⟨(Lib.decDigits u).toArray⟩)):Cl 186 #[.U u,.I 10] h R:=by
 refine mn.walk ?_;rw[ah (by rfl)];by_cases c:u<100
 .rw[gh,bB ae ae];exact NF c ⟨_,rfl,hk h (Fr.refl _ _)⟩
 .rw[af (by simp;omega)];refine cI ?_;generalize m:(#[.int .u8 0,.int .u8 0,.int .u8 0,.int .u8 0,.int .u8 0,.int .u8 0,.int .u8 0,.int .u8 0,.int .u8 0,.int .u8 0,.int .u8 0,.int .u8 0,.int .u8 0,.int .u8 0,.int .u8 0,.int .u8 0,.int .u8 0,.int .u8 0,.int .u8 0,.int .u8 0,.int .u8 0,.int .u8 0,.int .u8 0,.int .u8 0]:Array Value)=cs;have k: ∀j,j<24->cs[j]? =some (.int .u8 0):=by
   have:cs=Array.replicate 24 (.int .u8 0):=by rw[<-m];rfl
   intro j H;rw[this];simp[H]
  have f1:Fr No h (h.push (.cells cs 324)):=Fr.push _ _;have g:(h.push (.cells cs 324))[h.size]? =some (.cells cs 324 (0,0)):=bV;have p:Lib.nDigits u<=20:=by have:=Lib.numDigits_eq u ae b;split at this<;>omega
  refine K7 (t.on f1) ae b ⟨_,rfl,ae,?_⟩;have es:cR (some ((AA h.size 0):Addr)) 24 0 1=some (AA h.size 0):=rfl;rw[es,aC,Nat.sub_zero];refine K8 g (λj H=>k j ae) (Lib.lt_pow_nDigits u) b ae λd C D v2 i f l s o2=>⟨rfl,ae,str (Lib.decDigits u),?_,?_⟩
  .refine ED tS t8 tT (.inr ⟨_,rfl,gO i (λj v H=> ?_)⟩) (Lib.decDigits_length u).symm;rw[bH];have a:j<(Lib.decDigits u).length:=by have:=(aB.1 H).1;rwa[jq]at this
   have n:j<Lib.nDigits u:=by rwa[Lib.decDigits_length]at a
   rw[l j n,<-Lib.row_is_numeral f j a,<-H];unfold bc;rw[aF,aj a];rfl
  .exact hk d (f1.fresh (S:=λy=>y=h.size) ⟨ae,λy _ o=>o2 y o⟩ (λy e=>Nat.le_of_eq e.symm))
theorem sV(t:oe h)(a:u<18446744073709551616)(hk: iq h R (.string ⟨(Lib.decDigits u).toArray⟩)):Cl 135 #[.U u,.I 10] h R:=
 uu.walk (K9 t a λH f1=>⟨_,rfl,hk H f1⟩)

end mO
end
section
namespace iY
variable {h:ak} {R:fG}
def gE(x:Ev):cM:=
 if x=.zero then [100,116,110,58,110,111,110,101]
 else if x.jT=true then [105,112,110,58]++Lib.decDigits x.node.toNat++ [46]++Lib.decDigits x.gr.toNat
 else [100,116,110,58]++([47,47]++x.host.data.toList++ [47]++x.jv.data.toList)
theorem yM{u:Nat}(a:u<18446744073709551616):(Lib.decDigits u).length<=20:=by
 rw[Lib.decDigits_length];by_cases H:u<10
 .rw[Lib.nDigits_small H];omega
 .have:=Lib.numDigits_eq u ae a;split at this<;>omega
theorem oP{x:Ev}(H:cV x=true)(b:0<=x.gr):(gE x).length<=100:=by
 unfold gE;unfold cV at H;by_cases z:x=.zero
 .rw[ah z];simp
 rw[af z]at H⊢;by_cases a:x.jT=true
 .rw[ah a]at H⊢;have H:=aP H;have l1:=yM (u:=x.node.toNat) ae;have l2:=yM (u:=x.gr.toNat) ae;simp only[ar,aW,bw];omega
 .rw[af a]at H⊢;simp only[aS,aZ]at H;simp only[ar,aW,bw,kM];omega
theorem nL(x:Ev)(T:mO.oe h)(w1:0<=x.gr)(hk: iq h R (.tuple #[.string (if cV x=true then str (gE x)else⟨#[]⟩),.I (if cV x=true then 0 else 3)])):Cl 75 #[kO x] h R:=by
 refine NC.walk (ax.box λb j i f f1=>ax.ld f (fx x λd f2=>⟨_,rfl,?_⟩));by_cases H:cV x=true
 .simp only[H,bg]at hk;rw[af (cH H)];have a:=f2.get f id;have F:=f1.tt f2;have t:=T.on F;refine ax.ld a ⟨_,u0 (y:=.zero) (x:=x) rfl rfl,?_⟩;unfold gE at hk;unfold cV at H;by_cases z:x=.zero
  .rw[ah (aw z)];rw[ah z]at hk;exact hk d F
  rw[af (cH z)];rw[af z]at H;simp only[af z]at hk;refine⟨_,aq a,?_⟩;have e1:(⟨#[105,112,110,58]⟩:ByteArray)=str [105,112,110,58]:=rfl;have e2:(⟨#[46]⟩:ByteArray)=str [46]:=rfl;have E:(⟨#[100,116,110,58]⟩:ByteArray)=str [100,116,110,58]:=rfl;by_cases c:x.jT=true
  .rw[ah c]at H⊢;simp only[ah c]at hk;have H:=aP H;have l1:=yM (u:=x.node.toNat) ae;have l2:=yM (u:=x.gr.toNat) ae;have n1:x.node=(x.node.toNat:Int):=ae
   have n2:x.gr=(x.gr.toNat:Int):=ae
   rw[e1,e2,Sm];refine⟨_,aq a,_,aq a,?_⟩;rw[n1];refine mO.sV t ae λe f3=>⟨_,rfl,aq (f3.get a id),?_⟩
   have c1:(⟨(Lib.decDigits x.node.toNat).toArray⟩:ByteArray)=str (Lib.decDigits x.node.toNat):=rfl;have C:(⟨(Lib.decDigits x.gr.toNat).toArray⟩:ByteArray)=str (Lib.decDigits x.gr.toNat):=rfl;rw[c1];refine⟨?_,?_,?_⟩
   .rw[iw,iw];simp;omega
   .rw[jK,iw,iw];simp;omega
   rw[n2];refine mO.sV (t.on f3) ae λg f4=>⟨_,rfl,?_⟩
   rw[C];refine⟨?_,?_⟩
   .rw[jK,jK,iw,iw];simp;omega
   .rw[jK,jK,jK];exact hk g (F.tt (f3.tt f4))
  .rw[af c]at H⊢;simp only[af c]at hk;simp only[aS,aZ]at H;refine ax.ld a (Jr x ae ae λe f3=>⟨_,rfl,?_⟩);have l1:=kM x.host;have l2:=kM x.jv;rw[E,Sm];refine⟨?_,?_⟩
   .rw[iw,iw];simp;omega
   .rw[jK];exact hk e (F.tt f3)
 .simp only[H,au,aM]at hk;rw[ah (cH H)];exact hk d (f1.tt f2)

end iY
end
section
variable {h:ak} {R:fG}
theorem HR.walk{c:bZ}{A e:Nat}{B:bZ}{b f:Nat}(g:if((A:Int) !=(b:Int))then R (.bool false) h else∃(I:Int->ak->Prop)(m:Int->ak->Nat),I 0 h/\∀(i:Int)(H:ak),I i H->if(decide (i<(A:Int)))then Bd i A/\aO c λa=>oY H (a.add (toNat i*1)) λj T t=> ∃(t21:ByteArray),qq Tryz.prog 22 9 (.slice j T t) H t21/\Bd i b/\aO B λd=>oY H (d.add (toNat i*1)) λn l k=> ∃(t26:ByteArray),qq Tryz.prog 22 9 (.slice n l k) H t26/\if(!(t21.toList==t26.toList))then R (.bool false) H else(I (wrap .i64 (i+1)) H/\m (wrap .i64 (i+1)) H<m i H)else R (.bool true) H):Cl 26 #[.slice c A e,.slice B b f] h R:=aR (lq (sq (lq (cq ll lf)) (sq (lq (bq (.loop [(5,.one (.int .i64))] (sq (lq (cq lf lf)) (sq (bq (sq (pN 11) (cq ll lf))) lf))))) ll))) Tryz.func26 g

end
section
open Go.fk
namespace hM
variable {h f:ak} {R:fG} {p q:bZ} {c d i:Nat}
variable {l:Nat}
structure Rows (h:ak) (p:bZ) (l c:Nat) (xs:List BV):Prop where
 len:l=xs.length
 row:Row h p (xs.flatMap jO)
 cap:l<=c
 each: ∀x∈xs,Row h x.p (bc x.b)
theorem BL.Js{bs:List (cM)}(H:BL f h p l c bs): ∃xs,Rows h p l c xs/\xs.map BV.b=bs:=by
 obtain⟨xs,e1,e2,e,E,a⟩:=H.rows;exact⟨xs,⟨e1,e2,E,a⟩,e⟩
theorem iI{m:Nat}{xs ys:List BV}(v:Rows h p l c xs)(w:Rows h q m d ys)(A:l<=1000000000)(hk:R (.bool (decide (xs.map BV.b=ys.map BV.b))) h):Cl 26 #[.slice p l c,.slice q m d] h R:=by
 obtain⟨rfl,r1,_,e1⟩:=v;obtain⟨rfl,r2,_,e2⟩:=w;refine HR.walk ?_;by_cases o:xs.length=ys.length
 .have:((xs.length:Int) !=(ys.length:Int))=false:=by rw[o];simp
  rw[this];simp only[au,aM];refine⟨λi g=>g=h/\∃k:Nat,i=(k:Int)/\k<=xs.length/\(xs.take k).map BV.b=(ys.take k).map BV.b,λi _=>xs.length - i.toNat,⟨rfl,0,rfl,ae,bQ⟩,?_⟩;rintro _ _ ⟨rfl,k,rfl,z,n⟩;by_cases u:k<xs.length
  .have q1:(k:Int)<(xs.length:Int):=ae
   simp only[q1,bt,bg,aC];have j:xs[k]? =some xs[k]:=aj u;have G:ys[k]? =some (ys[k]' ae):=aj _;generalize xs[k]=x at j;generalize ys[k]' ae=y at G;obtain⟨a,rfl⟩:=r1.some (by intro e;cases xs with|nil=>simp at u|cons=>simp at e);obtain⟨b,rfl⟩:=r2.some (by intro e;cases ys with|nil=>simp at G|cons=>simp at e);have C:=(r1.fI jX j).1;have s:=(r2.fI jX G).1;rw[eK]at C s;refine⟨⟨by first|trivial|omega,by first|trivial|omega⟩,az.2 ⟨_,_,_,C,_,conv (e1 x (aJ j)) rfl,⟨by first|trivial|omega,by first|trivial|omega⟩,az.2 ⟨_,_,_,s,_,conv (e2 y (aJ G)) rfl,?_⟩⟩⟩;rw[oC,oC];by_cases H:x.b=y.b
   .rw[H];simp only[ff,dh,au,aM];rw[bB ae ae];refine⟨⟨by first|trivial|rfl,k+1,ae,ae,?_⟩,by show _ - Int.toNat ((k:Int)+1)<_;omega⟩;rw[bm,bm,j,G,aV,aV,n];simp[H]
   .have:(x.b==y.b)=false:=by simpa using H
    simp only[this,eL,bg];have r:xs.map BV.b≠ys.map BV.b:=λe=>by
     have t:(xs.map BV.b)[k]? =(ys.map BV.b)[k]? :=by rw[e]
     rw[aF,aF,j,G]at t;exact H (bp t)
    rw[aD r]at hk;exact hk
  .have q1: ¬(k:Int)<(xs.length:Int):=ae
   simp only[q1,bf,au,aM];obtain rfl:k=xs.length:=ae
   rw[dZ,o,dZ]at n;rw[aw n]at hk;exact hk
 .have:((xs.length:Int) !=(ys.length:Int))=true:=by simp;omega
  rw[ah this];have r:xs.map BV.b≠ys.map BV.b:=λe=>o (by have:=bP List.length e;simpa using this)
  rw[aD r]at hk;exact hk

end hM
end
section
variable {h:ak} {R:fG}
theorem Bv.walk{c:Nat}(Q:ax.LD h (AA c 1) λq' r' s' t' u'=>Cl 75 #[.agg #[.bool q',.U r',.U s',.string t',.string u']] h λv H=> ∃r S,v=.tuple #[.string r,.I S]/\Hi H c 0 λt17=>Hl H c 6 λa T t=>Hu H c 7 λt30=>Hi H c 8 λt35=>Hu H c 9 λt40=>(Cl 65 #[] H λv' b=>Vp v' λt13=>Cc b c 9 (.U t40)/\Cc b c 8 (.I t35)/\Cc b c 7 (.U t30)/\Cc b c 6 (.slice a T t)/\Cc b c 0 (.I t17)/\(Cl 66 #[.pointer t13,.I t17] b λG' l=>Vp G' λt18=>Cc l c 9 (.U t40)/\Cc l c 8 (.I t35)/\Cc l c 7 (.U t30)/\Cc l c 6 (.slice a T t)/\aU Tryz.prog (convert 9 22 (.string r)) l λO' m=>Vl O' λd' a' X=>Cc m c 9 (.U t40)/\Cc m c 8 (.I t35)/\Cc m c 7 (.U t30)/\Cc m c 6 (.slice a T t)/\Cl 71 #[.pointer t18,.slice d' a' X] m λP' n=>Vp P' λt21=>Cc n c 9 (.U t40)/\Cc n c 8 (.I t35)/\Cc n c 7 (.U t30)/\Cc n c 6 (.slice a T t)/\Cl 71 #[.pointer t21,.slice a T t] n λQ' q=>Vp Q' λt26=>Cc q c 9 (.U t40)/\Cc q c 8 (.I t35)/\Cc q c 7 (.U t30)/\Cl 72 #[.pointer t26,.U t30] q λR' w=>Vp R' λt31=>Cc w c 9 (.U t40)/\Cc w c 8 (.I t35)/\Cl 66 #[.pointer t31,.I t35] w λS' z=>Vp S' λt36=>Cc z c 9 (.U t40)/\Cl 72 #[.pointer t36,.U t40] z λT' P=>Vp T' λt41=>Cl 67 #[.pointer t41] P λU' K=> ∃G D A,U'=.slice G D A/\R (.slice G D A) K)/\(aU Tryz.prog (convert 9 22 (.string r)) b λw' d=>Vl w' λe' b' Y=>Cc d c 9 (.U t40)/\Cc d c 8 (.I t35)/\Cc d c 7 (.U t30)/\Cc d c 6 (.slice a T t)/\Cc d c 0 (.I t17)/\Cl 66 #[.pointer t13,.I t17] d λx' g=>Vp x' λV=>Cc g c 9 (.U t40)/\Cc g c 8 (.I t35)/\Cc g c 7 (.U t30)/\Cc g c 6 (.slice a T t)/\Cl 71 #[.pointer V,.slice e' b' Y] g λy' i=>Vp y' λg'=>Cc i c 9 (.U t40)/\Cc i c 8 (.I t35)/\Cc i c 7 (.U t30)/\Cc i c 6 (.slice a T t)/\Cl 71 #[.pointer g',.slice a T t] i λz' o=>Vp z' λi'=>Cc o c 9 (.U t40)/\Cc o c 8 (.I t35)/\Cc o c 7 (.U t30)/\Cl 72 #[.pointer i',.U t30] o λA' s=>Vp A' λk'=>Cc s c 9 (.U t40)/\Cc s c 8 (.I t35)/\Cl 66 #[.pointer k',.I t35] s λB' x=>Vp B' λm'=>Cc x c 9 (.U t40)/\Cl 72 #[.pointer m',.U t40] x λC' L=>Vp C' λo'=>Cl 67 #[.pointer o'] L λD' M=> ∃I E B,D'=.slice I E B/\R (.slice I E B) M)/\True)/\(aU Tryz.prog (convert 9 22 (.string r)) H λE' e=>Vl E' λf' c' Z=>Cc e c 9 (.U t40)/\Cc e c 8 (.I t35)/\Cc e c 7 (.U t30)/\Cc e c 6 (.slice a T t)/\Cc e c 0 (.I t17)/\Cl 65 #[] e λF' f=>Vp F' λU=>Cc f c 9 (.U t40)/\Cc f c 8 (.I t35)/\Cc f c 7 (.U t30)/\Cc f c 6 (.slice a T t)/\Cc f c 0 (.I t17)/\Cl 66 #[.pointer U,.I t17] f λH' j=>Vp H' λW=>Cc j c 9 (.U t40)/\Cc j c 8 (.I t35)/\Cc j c 7 (.U t30)/\Cc j c 6 (.slice a T t)/\Cl 71 #[.pointer W,.slice f' c' Z] j λI' k=>Vp I' λh'=>Cc k c 9 (.U t40)/\Cc k c 8 (.I t35)/\Cc k c 7 (.U t30)/\Cc k c 6 (.slice a T t)/\Cl 71 #[.pointer h',.slice a T t] k λJ' p=>Vp J' λj'=>Cc p c 9 (.U t40)/\Cc p c 8 (.I t35)/\Cc p c 7 (.U t30)/\Cl 72 #[.pointer j',.U t30] p λK' u=>Vp K' λl'=>Cc u c 9 (.U t40)/\Cc u c 8 (.I t35)/\Cl 66 #[.pointer l',.I t35] u λL' y=>Vp L' λn'=>Cc y c 9 (.U t40)/\Cl 72 #[.pointer n',.U t40] y λM' N=>Vp M' λp'=>Cl 67 #[.pointer p'] N λN' O=> ∃J F C,N'=.slice J F C/\R (.slice J F C) O)/\True):Cl 69 #[.P c 0] h R:=aR (lq (lq (sq (.gT (.op 1 (.op 2 (.op 3 (.op 4 (.op 6 (.op 9 (.op 10 (.op 11 (.op 12 (.op 14 (.op 15 (.op 16 (.op 17 (.op 19 (.op 20 (.op 21 (.op 22 (.op 24 (.op 25 (.op 26 (.op 27 (.alts (.fork 0 (.alts (.fork 5 (.op 7 (.op 8 (.op 13 (.op 18 (.op 23 (.op 28 (.op 29 (.op 30 .done)))))))) (.fork 7 (.op 5 (.op 8 (.op 13 (.op 18 (.op 23 (.op 28 (.op 29 (.op 30 .done)))))))) .gy))) (.fork 7 (.op 0 (.op 5 (.op 8 (.op 13 (.op 18 (.op 23 (.op 28 (.op 29 (.op 30 .done))))))))) .gy))))))))))))))))))))))))) lf))) Tryz.func69 Q
theorem vJ.walk{t:Nat}(x:Cl 47 #[.P t 0] h λv H=> ∃t7,v=.bool t7/\if(!t7)then R (.Z) H else Hi H t 1 λt13=>Hi H t 2 λt18=>Hi H t 3 λt23=>Hi H t 4 λt28=> ∃t33,Cc H t 0 (.map t33)/\Cl 65 #[] H λV d=>Vp V λt9=>Cc d t 0 (.map t33)/\Cc d t 4 (.I t28)/\Cc d t 3 (.I t23)/\Cc d t 2 (.I t18)/\Cc d t 1 (.I t13)/\Cl 66 #[.pointer t9,.I t13] d λJ e=>Vp J λt14=>Cc e t 0 (.map t33)/\Cc e t 4 (.I t28)/\Cc e t 3 (.I t23)/\Cc e t 2 (.I t18)/\Cl 66 #[.pointer t14,.I t18] e λK f=>Vp K λt19=>Cc f t 0 (.map t33)/\Cc f t 4 (.I t28)/\Cc f t 3 (.I t23)/\Cl 66 #[.pointer t19,.I t23] f λL i=>Vp L λt24=>Cc i t 0 (.map t33)/\Cc i t 4 (.I t28)/\Cl 66 #[.pointer t24,.I t28] i λN j=>Vp N λt29=>Cc j t 0 (.map t33)/\∃t34:Int,O8 Tryz.prog #[107] 3 (.map t33) j (.I t34)/\Cl 66 #[.pointer t29,.I t34] j λP n=>Vp P λt35=>Cc n t 0 (.map t33)/\Cl 67 #[.pointer t35] n λQ p=>Vl Q λA z y=>Cc p t 0 (.map t33)/\aT p (.cells #[.slice A z y] 22) λb q=>Cc q t 0 (.map t33)/\Cl 68 #[.P t 0] q λS s=>Vl S λC r W=> ∃(I:bZ->Nat->Nat->Int->ak->Prop)(M:bZ->Nat->Nat->Int->ak->Nat),I (Sa b 0) 1 1 0 s/\∀(g:bZ)(O o:Nat)(t41:Int)(c:ak),I g O o t41 c->if(decide (t41<(r:Int)))then Bd t41 r/\aO C λa=>lR c (a.add (toNat t41*1)) λt44=> ∃t49,Cc c t 0 (.map t49)/\∃t51,ig Tryz.prog 107 (.map t49) (.I t44) false c (.pointer t51)/\Cl 69 #[.pointer t51] c λU u=>Vl U λF E D=>aT u (.cells #[.slice F E D] 22) λB w=>aU Tryz.prog (Builtin.append_ #[64,64] 64 #[.slice g O o,.slice (Sa B 0) 1 1]) w λG m=> ∃l k T,G=.slice l k T/\(I l k T (wrap .i64 (t41+1)) m/\M l k T (wrap .i64 (t41+1)) m<M g O o t41 c)else R (.slice g O o) c):Cl 23 #[.P t 0] h R:=aR (lq (sq (lq (cq ll lf)) (sq (.gT (.op 1 (.op 2 (.op 3 (.op 4 (.op 6 (.op 7 (.op 8 (.op 9 (.op 11 (.op 12 (.op 13 (.op 14 (.op 16 (.op 17 (.op 18 (.op 19 (.op 21 (.op 22 (.op 23 (.op 24 (.op 0 (.op 5 (.op 10 (.op 15 (.op 20 (.op 25 (.op 26 (.op 27 (.op 28 (.op 29 .done))))))))))))))))))))))))))))))) (sq (lq (bq (.loop [(3,.one (.slice)),(41,.one (.int .i64))] (lq (sq (cq lf lf) (sq (bq ll) lf)))))) ll)))) Tryz.func23 x

end
section
open Go.fk Go.kQ
namespace gx
open iY cf hM
variable {h h':ak} {R:fG} {t:Nat} {X:Ft} {s:CF} {m A w:Nat} {xs:List CV} {u i:Nat→Prop} {C:Nat→Option Nat} {p:bZ} {n c:Nat}
variable {z:CV} {g:ak} {b:Nat}
def recC(z:Cp):cM:=cd z.num++dJ (gE z.e)++dJ z.d++cd z.cg++cd (fJ z.ses)++cd z.dl
structure L5 (z:Cp):Prop where
 r:cV z.e=true
 v:0<=z.e.gr
 d:z.d.length<=600
 n:z.num<=1000000
 t:z.cg<=1099511627776
 s0:0<=z.ses
 s1:z.ses<=1099511627776
 l:z.dl<=1099511627776
theorem nQ(t:cM):(dJ t).length<=t.length+10:=by
 have:=(bO t.length).2;unfold dJ;rw[ar];omega
theorem NG{z:Cp}(k:L5 z):(recC z).length<=1000:=by
 have l0:=oP k.r k.v;have l1:=nQ (gE z.e);have l2:=nQ z.d;have l3:=k.d;have e1:=(bO z.num).2;have e2:=(bO z.cg).2;have e:=(bO (fJ z.ses)).2;have E:=(bO z.dl).2;unfold recC;simp only[ar];omega
theorem HA{x:CV}{K:Bool->Int->Int->ByteArray->ByteArray->Prop}(H:x.at g b)(hk:K x.e.jT x.e.node x.e.gr x.e.host x.e.jv):ax.LD g (AA b 1) K:=
 ⟨_,aq H,_,aq H,_,aq H,_,aq H,_,aq H,hk⟩
theorem Aw{H:ak}{b':Nat}{S:Nat->Prop}{q:bZ}{dq:Nat}(k:L5 z.abs)(d:z.at H b)(Q:Row H z.v.p (bc z.v.b))(x:Fr No H g)(c':Wr g b' S (cd z.num))(L: ∀y,S y->H.size<=y)(row:Row g q (bc (gE z.e)))(hq: ∀y,aL q y->¬S y)(hk: ∀P K h',fi h' P (recC z.abs).length K 1 (bc (recC z.abs))->Fr No H h'->(∀y,aL P y->H.size<=y)->R (.slice P (recC z.abs).length K) h'):
  aX g (AA b 9)=some (.U (z.dl:Int))/\aX g (AA b 8)=some (.I z.ses)/\aX g (AA b 7)=some (.U (z.cg:Int))/\aX g (AA b 6)=some (.slice z.v.p z.v.b.length z.v.c)/\
  Cl 71 #[.P b' 0,.slice q (str (gE z.e)).size dq] g λj' f=>
  ∃(t21:bZ),j'=.pointer t21/\
  aX f (AA b 9)=some (.U (z.dl:Int))/\
  aX f (AA b 8)=some (.I z.ses)/\
  aX f (AA b 7)=some (.U (z.cg:Int))/\
  aX f (AA b 6)=some (.slice z.v.p z.v.b.length z.v.c)/\
  Cl 71 #[.pointer t21,.slice z.v.p z.v.b.length z.v.c] f λk' j=>
  ∃(t26:bZ),k'=.pointer t26/\
  aX j (AA b 9)=some (.U (z.dl:Int))/\
  aX j (AA b 8)=some (.I z.ses)/\
  aX j (AA b 7)=some (.U (z.cg:Int))/\
  Cl 72 #[.pointer t26,.U (z.cg:Int)] j λl' E=>
  ∃(t31:bZ),l'=.pointer t31/\
  aX E (AA b 9)=some (.U (z.dl:Int))/\
  aX E (AA b 8)=some (.I z.ses)/\
  Cl 66 #[.pointer t31,.I z.ses] E λm' O=>
  ∃(t36:bZ),m'=.pointer t36/\
  aX O (AA b 9)=some (.U (z.dl:Int))/\
  Cl 72 #[.pointer t36,.U (z.dl:Int)] O λn' f'=>
  ∃(t41:bZ),n'=.pointer t41/\
  Cl 67 #[.pointer t41] f' λo' e'=>
  ∃(a':bZ)(Z Y:Nat),o'=.slice a' Z Y/\
  R (.slice a' Z Y) e':=by
 have kr:cV z.e=true:=k.r;have kv:0<=z.e.gr:=k.v;have kd:z.v.b.length<=600:=k.d;have kt:z.cg<=1099511627776:=k.t;have k0:0<=z.ses:=k.s0;have k1:z.ses<=1099511627776:=k.s1;have kl:z.dl<=1099511627776:=k.l;have lb:=aE d;have bS: ∀{I:Nat->Prop},(∀y,I y->H.size<=y)->¬I b:=λhh hn=>by have:=hh b hn;omega
 have l0:=oP kr kv;have p':=nQ (gE z.e);have q':=nQ z.v.b;have e1:=(bO z.num).2;have e2:=(bO z.cg).2;have e3:=(bO (fJ z.ses)).2;have l:z.at g b:=x.get d id;have zg:=x.1;refine⟨aq l,aq l,aq l,aq l,hM.nL c' ae row (iw _) ae hq λg1 u W1 st1=> ?_⟩;have D: ∀y,u y->H.size<=y:=λy a=>(st1.new y a).elim (L y) (λH=>ae)
 have F:=x.fresh st1.fr L;have b1:z.at g1 b:=F.get d id;have z1:=F.1;refine⟨_,rfl,aq b1,aq b1,aq b1,aq b1,hM.mP W1 (by simp only[ar];omega) (Q.frame F cb) rfl ae (λy a g' hs=>gv (iK Q (by intro e;apply g';have:=bP List.length e;rw[jq]at this;exact gG.1 this) a) (D y hs)) λg2 i W2 T=> ?_⟩;have M: ∀y,i y->H.size<=y:=λy a=>(T.new y a).elim (D y) (λH=>ae)
 have o:=F.fresh T.fr D;have B:z.at g2 b:=o.get d id;have z2:=o.1;refine⟨_,rfl,aq B,aq B,aq B,hM.fz z.cg W2 (by simp only[ar];omega) rfl ae λg3 S3 W3 U=> ?_⟩;have N: ∀y,S3 y->H.size<=y:=λy a=>(U.new y a).elim (M y) (λH=>ae)
 have r:=o.fresh U.fr M;have J:z.at g3 b:=r.get d id;have z3:=r.1;refine⟨_,rfl,aq J,aq J,hM.gR W3 (by simp only[ar];omega) ae λg4 S4 W4 V=> ?_⟩;have d': ∀y,S4 y->H.size<=y:=λy a=>(V.new y a).elim (N y) (λH=>ae)
 have v:=r.fresh V.fr N;have b4:z.at g4 b:=v.get d id;have z4:=v.1;refine⟨_,rfl,aq b4,hM.fz z.dl W4 (by simp only[ar];omega) rfl ae λg5 S5 W i'=> ?_⟩;have G:=v.fresh i'.fr d';have er:cd z.num++dJ (gE z.e)++dJ z.v.b++cd z.cg++cd (fJ z.ses)++cd z.dl=recC z.abs:=rfl;rw[er]at W;have lr:=NG k;refine⟨_,rfl,hM.ir W ae λp6 c6 g6 o6 f6 n6=>⟨_,_,_,rfl,?_⟩⟩;have z5:=G.1;exact hk p6 c6 g6 o6 (G.tt f6) (λy a=>bR (n6 y a))
theorem wT(V:z.at h b)(b':Row h z.v.p (bc z.v.b))(k:L5 z.abs)(tb:mO.oe h)(hk: ∀P D h',fi h' P (recC z.abs).length D 1 (bc (recC z.abs))->Fr No h h'->(∀y,aL P y->h.size<=y)->R (.slice P (recC z.abs).length D) h'):Cl 69 #[.P b 0] h R:=by
 have kr:cV z.e=true:=k.r;have kn:z.num<=1000000:=k.n;refine Bv.walk (HA V (iY.nL z.e tb k.v λl f1=> ?_));simp only[kr,bg];have j:z.at l b:=f1.get V id;have z0:=f1.1;have L:=b'.frame f1 cb;have K: ∀P D h',fi h' P (recC z.abs).length D 1 (bc (recC z.abs))->Fr No l h'->(∀y,aL P y->l.size<=y)->R (.slice P (recC z.abs).length D) h':=λP D h' o f g=>hk P D h' o (f1.tt f) (λy H=>bR (g y H))
 clear hk;have I:(str (gE z.e)).data.toList=gE z.e:=by unfold str;simp
 have a':bc (gE z.e)≠ []:=by
  intro e;have:=bP List.length e;rw[jq]at this;revert this;unfold gE;split<;>(try split)<;>simp
 have O:cd (fJ (z.num:Int))=cd z.num:=by unfold fJ;rw[aC]
 refine⟨_,_,rfl,_,aq j,_,_,_,aq j,_,aq j,_,aq j,_,aq j,?_,?_,trivial⟩
 .refine hM.gu λG c' S W f2 n2=> ?_
  have r:z.at G b:=f2.get j id;refine⟨_,rfl,aq r,aq r,aq r,aq r,aq r,?_,?_,trivial⟩
  .refine hM.gR W bQ ae λh3 S3 E Z=> ?_
   rw[O,cy]at E;have z2:=f2.1;have Q:=f2.fresh Z.fr n2;have B:z.at h3 b:=Q.get j id;have N: ∀y,S3 y->l.size<=y:=λy H=>(Z.new y H).elim (n2 y) (λl=>ae)
   refine⟨_,rfl,aq B,aq B,aq B,aq B,Rp λq d U row cq f4 M=>⟨_,_,_,rfl,?_⟩⟩;rw[I]at row;exact Aw k j L (Q.tt f4) (E.frame f4 cb) N row (λy H v=>gv (M y H) (E.lt y v)) K
  .refine Rp λq d h3 row cq f3 N=>⟨_,_,_,rfl,?_⟩
   have B:z.at h3 b:=(f2.tt f3).get j id;have E:=W.frame f3 cb;refine⟨aq B,aq B,aq B,aq B,aq B,hM.gR E bQ ae λU T F x=>⟨_,rfl,?_⟩⟩;rw[O,cy]at F;have z2:=(f2.tt f3).1;have M: ∀y,T y->l.size<=y:=λy H=>(x.new y H).elim (n2 y) (λl=>ae)
   rw[I]at row;refine Aw k j L ((f2.tt f3).fresh x.fr n2) F M (row.frame x.fr (λa J v=>gv (N a.block ⟨a,J,rfl⟩) (W.lt _ v))) (λy H v=> ?_) K;have l:=iK row a' H;have G:=N y H;rcases x.new y v with h3|h3
   .have:=W.lt y h3;omega
   .omega
 .refine Rp λq d G row cq f2 n2=>⟨_,_,_,rfl,?_⟩
  have r:z.at G b:=f2.get j id;refine⟨aq r,aq r,aq r,aq r,aq r,hM.gu λh3 c' S W f3 N=> ?_⟩;have B:z.at h3 b:=(f2.tt f3).get j id;have z2:=f2.1;have z3:=f3.1;refine⟨_,rfl,aq B,aq B,aq B,aq B,aq B,hM.gR W bQ ae λU T F x=>⟨_,rfl,?_⟩⟩;rw[O,cy]at F;rw[I]at row;have Y: ∀y,aL q y->y<G.size:=λy H=>iK row a' H
  refine Aw k j L ((f2.tt f3).fresh x.fr (λy H=>bR (N y H))) F (λy H=>(x.new y H).elim (λl=>bR (N y l)) (λl=>ae)) ((row.frame f3 cb).frame x.fr (λa J v=>gv (Y a.block ⟨a,J,rfl⟩) (N _ v))) (λy H v=> ?_) K;have l:=Y y H;rcases x.new y v with h3|h3
  .have:=N y h3;omega
  .omega
def pV(s:CF):cM:=cd s.next++cd s.gk++cd s.over++cd s.gone++cd s.L.length
def vK(s:CF):List (cM):=pV s::s.L.map recC
theorem mq(H:Ct h t X s)(sm:Small s)(hc:s.gk<=50000/\s.over<=50000/\s.gone<=50000)(ok: ∀z∈s.L,L5 z)(tb:mO.oe h)(hk: ∀h' p' l' c',BL h h' p' l' c' (vK s)->Fr No h h'->R (.slice p' l' c') h'):Cl 23 #[.P t 0] h R:=by
 obtain⟨m,xs,A,u,w,i,C,H⟩:=H;have sn:=sm.n;have sl:=sm.l;have xl:=H.len;refine vJ.walk (fO H ⟨_,rfl,?_⟩);rw[dz];refine⟨_,aq H.cX,_,aq H.cX,_,aq H.cX,_,aq H.cX,_,aq H.cX,hM.gu λl C' S k' f1 n1=> ?_⟩;have N: ∀k:Nat,fJ (k:Int)=k:=λk=>by unfold fJ;rw[aC]
 have l1:=(bO s.next).2;have l2:=(bO s.gk).2;have l3:=(bO s.over).2;have l4:=(bO s.gone).2;have l5:=(bO s.L.length).2;have G:=H.on f1;refine⟨_,rfl,aq G.cX,aq G.cX,aq G.cX,aq G.cX,aq G.cX,hM.gR k' bQ ae λh2 i W2 f'=> ?_⟩;rw[N,cy]at W2;have z1:=f1.1;have K:=f1.fresh f'.fr n1;have n2: ∀y,i y->h.size<=y:=λy d=>(f'.new y d).elim (n1 y) (λl=>ae)
 have E:=H.on K;have z2:=K.1;refine⟨_,rfl,aq E.cX,aq E.cX,aq E.cX,aq E.cX,hM.gR W2 ae ae λh3 S3 W3 g'=> ?_⟩;rw[N]at W3;have L:=K.fresh g'.fr n2;have n3: ∀y,S3 y->h.size<=y:=λy d=>(g'.new y d).elim (n2 y) (λl=>ae)
 have W:=H.on L;have z3:=L.1;refine⟨_,rfl,aq W.cX,aq W.cX,aq W.cX,hM.gR W3 (by simp only[ar];omega) ae λh4 S4 W4 i'=> ?_⟩;rw[N]at W4;have M:=L.fresh i'.fr n3;have n4: ∀y,S4 y->h.size<=y:=λy d=>(i'.new y d).elim (n3 y) (λl=>ae)
 have G4:=H.on M;have z4:=M.1;refine⟨_,rfl,aq G4.cX,aq G4.cX,hM.gR W4 (by simp only[ar];omega) ae λh5 S5 W5 j'=> ?_⟩;rw[N]at W5;have Q:=M.fresh j'.fr n4;have n5: ∀y,S5 y->h.size<=y:=λy d=>(j'.new y d).elim (n4 y) (λl=>ae)
 have G5:=H.on Q;have z5:=Q.1;refine⟨_,rfl,aq G5.cX,_,GU nO G5.map,?_⟩;rw[aA,xl];refine hM.gR W5 (by simp only[ar];omega) ae λh6 S6 Y u'=> ?_
 rw[N]at Y;have T:=Q.fresh u'.fr n5;have G6:=H.on T;have z6:=T.1;have er:cd s.next++cd s.gk++cd s.over++cd s.gone++cd s.L.length=pV s:=rfl;rw[er]at Y;have lh:(pV s).length<=50:=by unfold pV;simp only[ar];omega
 refine⟨_,rfl,aq G6.cX,hM.ir Y ae λP o f o7 f7 n7=>⟨_,_,_,rfl,?_⟩⟩;have U:=T.tt f7;have z7:=U.1;have B7:BL h f none 0 0 []:=BL.nil;refine⟨cK (H.on U).cX rfl,cI ?_⟩;have f8:Fr No f (f.push (.cells #[.slice P (pV s).length o] 22)):=Fr.push _ _;have o8:fi (f.push (.cells #[.slice P (pV s).length o] 22)) (Sa f.size 0) 1 1 1 (jO ⟨P,o,pV s⟩):=.row f.size 0 _ _ rfl bV (bn _) bQ rfl (λj v hj=>by rw[bH];simpa using hj);have D:BL h (f.push (.cells #[.slice P (pV s).length o] 22)) (Sa f.size 0) 1 1 [pV s]:=by
  refine⟨[⟨P,o,pV s⟩],aL P,rfl,cH o8,rfl,?_,?_,λy ⟨a,e,e2⟩=>by cases e;rw[<-e2];exact z7⟩
  .intro v x;obtain rfl:=bM.1 x;exact BV.jr (o7.frame f8 cb) (λ_=>id)
  .intro y d;have l:=n7 y d;have h2:=o7.dw d;exact⟨ae,by rw[du];omega,λ⟨a,e,e2⟩=>by cases e;have e2:f.size=y:=e2;omega⟩
 generalize f.push (.cells #[.slice P (pV s).length o] 22)=h8 at f8 D⊢;generalize (some (AA f.size 0):bZ)=p8 at D⊢;clear o8;have V:=U.tt f8;have G8:=H.on V;refine⟨aq G8.cX,uk G8 ae λh9 p9 c9 o9 n9 f9=>⟨_,_,_,rfl,?_⟩⟩;have F9:=V.tt f9;have z8:=V.1;refine⟨λop ol Z q g=> ∃k:Nat,q=(k:Int)/\k<=xs.length/\BL h g op ol Z (pV s::(s.L.take k).map recC)/\Fr No h g/\fi g p9 xs.length c9 1 ((kx xs).map gw)/\(∀y,aL op y->¬aL p9 y),λ_ _ _ q _=>xs.length - q.toNat,⟨0,rfl,ae,cH (D.on f9),F9,o9,λy d r=>gv (D.lt d) (n9 y r)⟩,?_⟩;rintro op ol Z _ g ⟨k,rfl,z',B,F,O,d'⟩;by_cases r':k<xs.length
 .have q1:(k:Int)<(xs.length:Int):=ae
  simp only[q1,bt,bg,aC];have J:xs[k]? =some xs[k]:=aj r';generalize xs[k]=v at J;have b':s.L[k]? =some v.abs:=by rw[<-H.abs,aF,J];rfl
  have x:=aJ J;have I:=H.on F;obtain⟨ab,m',rfl⟩:=O.addr ae;have cn:=O.cell (j:=k) (v:=gw (v.num:Int)) (by unfold kx;rw[dK,aF,J];rfl);refine⟨⟨by first|trivial|omega,by first|trivial|omega⟩,az.2 ⟨_,by rw[cp];exact cn,_,aq I.cX,_,look I x,wT (I.Ef v x) (I.Bb v x).row (ok v.abs (aJ b')) (tb.on F) λA' v' x' s' f10 e'=>⟨_,_,_,rfl,?_⟩⟩⟩;have zg:=F.1;have bl:=B.len;rw[aW,aA,bC]at bl;have t': ∀y,aL (some ((AA ab m'):Addr)) y->y<g.size:=λy d=>O.dw d
  have n': ∀y,aL op y->y<g.size:=λy d=>B.lt d
  have D':=f10.1;refine(B.on f10).push ae s' (λy d=>⟨bR (e' y d),λho=>gv (n' y ho) (e' y d)⟩) ae λB' w' y' a' f11 o'=>⟨_,_,_,rfl,?_⟩
  rw[bB ae ae];refine⟨⟨k+1,ae,ae,?_,?_,(O.frame f10 cb).frame f11 (λy d r=>d' y r d),λy d r=>(o' y d).elim (λl=>d' y l r) (λl=>bR (t' y r))⟩,by show xs.length - Int.toNat ((k:Int)+1)<xs.length - k;omega⟩
  .rw[bm,b',aV];rw[dC]at a';exact a'
  .obtain⟨_,_,_,_,_,_,_,q'⟩:=B;exact(F.tt f10).fresh f11 q'
 .have q1: ¬(k:Int)<(xs.length:Int):=ae
  simp only[q1,bf,au,aM];rw[bk ae]at B;exact hk g op ol Z B F
abbrev Dy(y:CV):List Value:= [.int .i64 (y.num:Int),.bool y.e.jT,.int .u64 y.e.node,.int .u64 y.e.gr,.string y.e.host,.string y.e.jv,y.v.val,.int .u64 (y.cg:Int),.int .i64 y.ses,.int .u64 (y.dl:Int)]
theorem gA(y:CV):(Dy y).length=10:=rfl
theorem Sn(y:CV): ∀v∈Dy y,fX v=true:=by
 intro v H;simp only[Dy,bG,List.not_mem_nil,or_false]at H;rcases H with rfl|rfl|rfl|rfl|rfl|rfl|rfl|rfl|rfl|rfl<;>rfl
theorem tA:nW Tryz.prog 242 114 10 112 (.agg #[.I 0,.bool false,.U 0,.U 0,.string ⟨#[]⟩,.string ⟨#[]⟩,.Z,.U 0,.I 0,.U 0]):=⟨cZ,cZ,rfl⟩
theorem uA:Tryz.prog.underlying 242=some (.slice 114):=cZ
theorem Jt(H:Ct h t X s)(sm:Small s)(hd: ∀z∈s.L,z.d.length<=600)(hk: ∀h' S U (ys:List CV),fi h' S ys.length U 10 (ys.flatMap Dy)->ys.map CV.abs=s.L->(∀y∈ys,BV.ok h' (λz=>h.size<=z) y.v)->(∀y,aL S y->h.size<=y)->Fr No h h'->R (.slice S ys.length U) h'):Cl 160 #[.P t 0] h R:=by
 obtain⟨m,xs,A,u,w,i,C,H⟩:=H;have sl:=sm.l;have xl:=H.len;refine wN.walk (uk H ae λh1 p1 c1 o1 n1 f1=>⟨_,_,_,rfl,?_⟩);refine⟨λop Q O q g=> ∃(k:Nat)(ys:List CV),q=(k:Int)/\k<=xs.length/\Q=ys.length/\ys.length=k/\fi g op Q O 10 (ys.flatMap Dy)/\(∀y,aL op y->h1.size<=y)/\ys.map CV.abs=s.L.take k/\(∀y∈ys,BV.ok g (λz=>h1.size<=z) y.v)/\(∀y∈ys,∀z,aL y.v.p z->y.v.b≠ []->¬aL op z)/\Fr No h1 g,λ_ _ _ q _=>xs.length - q.toNat,
  ⟨0, [],rfl,ae,rfl,rfl,.nil rfl rfl rfl rfl,(λy ⟨a,e,_⟩=>by cases e),bQ,(λy hy=>by cases hy),(λy hy=>by cases hy),Fr.refl _ _⟩,?_⟩
 rintro op Q O _ g ⟨k,ys,rfl,i',rfl,k',o,L,J,d,W,F⟩;have G:=H.on (f1.tt F);by_cases d':k<xs.length
 .have q1:(k:Int)<(xs.length:Int):=ae
  simp only[q1,bt,bg,aC];have E:xs[k]? =some xs[k]:=aj d';generalize xs[k]=v at E;have V:s.L[k]? =some v.abs:=by rw[<-H.abs,aF,E];rfl
  have M:=aJ E;have j':v.v.b.length<=600:=hd v.abs (aJ V);have og:=o1.frame F cb;obtain⟨ab,g',rfl⟩:=og.addr ae;have cn:=og.cell (j:=k) (v:=gw (v.num:Int)) (by unfold kx;rw[dK,aF,E];rfl);have e':=G.Ef v M;refine⟨⟨by first|trivial|omega,by first|trivial|omega⟩,az.2 ⟨_,by rw[cp];exact cn,_,aq G.cX,_,look G M,az.2 (aN.ld e' (aN.new λT h2 e2 K f2=>⟨_,_,_,aq K,gQ ((G.Bb v M).row.frame f2 cb) rfl ae λP D h3 o3 f3 Y=>⟨_,_,_,rfl,?_⟩⟩))⟩⟩;have c':=f3.get K id;refine bL c' bQ λr a4 s4 o4=> ?_
  have f4:Fr (λy=>y=T) h3 r:=⟨ae,λy _ hn=>o4 y hn⟩;have l':=aE K;have b':aN.at r T (v.num:Int) v.e.jT v.e.node v.e.gr v.e.host v.e.jv P v.v.b.length D (v.cg:Int) v.ses (v.dl:Int):=a4;refine aN.ld b' ?_;have zg:=F.1;have z2:=f2.1;have z3:=f3.1;have B:Fr No g r:=(f2.tt f3).fresh f4 (λy e=>ae);have oo:=o.frame B cb;refine iD tA uA oo rfl (λf' hw=>Sn ({ v with v:=⟨P,D,v.v.b⟩ } :CV) f' (cH hw)) ae ae λp5 c5 h5 o5 f5 I=>⟨_,_,_,rfl,?_⟩
  have z4:=B.1;have z5:=f5.1;rw[bB ae ae];have Z:fi r P v.v.b.length D 1 (bc v.v.b):=o3.frame f4 (λy hy e=>bR (Y y hy));have N: ∀y,aL P y->g.size<=y/\y<r.size:=λy hy=>⟨bR (Y y hy),Z.dw hy⟩
  have a': ∀y,aL op y->y<g.size:=λy hy=>o.dw hy
  refine⟨⟨k+1,ys++ [{ v with v:=⟨P,D,v.v.b⟩ }],ae,ae,by rw[ar];rfl,by rw[ar];show ys.length+1=_;omega,?_,λy hy=>(I y hy).elim (L y) (λh1=>ae),?_,?_,?_,(F.tt B).fresh f5 L⟩,by show xs.length - Int.toNat ((k:Int)+1)<xs.length - k;omega⟩
  .rw[bY];simpa using o5
  .rw[aV,J,bm,V];rfl
  .intro y hy;rcases bz.1 hy with hy|hy
   .have r1:=(d y hy).row.frame B cb;refine⟨?_,(d y hy).own,(d y hy).cap⟩;by_cases x:y.v.b= []
    .rw[x];exact Row.nil
    .exact r1.frame f5 (λa ea f=>W y hy a.block ⟨a,ea,rfl⟩ x f)
   .obtain rfl:=bM.1 hy;exact BV.jr (Z.frame f5 (λy hy f=>gv (N y hy) (a' y f))) (λy hy=>bR (N y hy))
  .intro y hy z l x f;rcases bz.1 hy with hy|hy
   .rcases I z f with h1|h1
    .exact W y hy z l x h1
    .have:=iK (d y hy).row (by intro e;apply x;have:=bP List.length e;rw[jq]at this;exact gG.1 this) l;omega
   .obtain rfl:=bM.1 hy;rcases I z f with h1|h1
    .have:=(N z l).1;have:=a' z h1;omega
    .have:=(N z l).2;omega
 .have q1: ¬(k:Int)<(xs.length:Int):=ae
  simp only[q1,bf,au,aM];rw[bk ae]at J;have z1:=f1.1;exact hk g op O ys o J (λy hy=>⟨(d y hy).row,λe z l=>bR ((d y hy).own e z l),(d y hy).cap⟩) (λy hy=>bR (L y hy)) (f1.tt F)
theorem rD(H:Ct h t X s)(S:Small s)(hd: ∀z∈s.L,z.d.length<=600)(hk: ∀h' P a (ys:List CV),fi h' P ys.length a 10 (ys.flatMap Dy)->ys.map CV.abs=s.L->(∀y∈ys,Row h' y.v.p (bc y.v.b))->Fr No h h'->R (.slice P ys.length a) h'):Cl 160 #[.P t 0] h R:=
 Jt H S hd λh' P a ys o e r _ f=>hk h' P a ys o e (λy d=>(r y d).row) f
def Dz(L:List Cp)(x:Ev):Nat:=((lC L x).filter (λz=>decide (z.ses=0))).length
theorem NH(H:Ct h t X s)(S:Small s)(x:Ev)(hk: iq h R (.I (Dz s.L x:Int))):Cl 103 #[.P t 0,kO x] h R:=by
 obtain⟨m,xs,A,u,w,i,C,H⟩:=H;have Y:=S.l;have xl:=H.len;refine ui.walk (ax.box λb T Q I f1=>ax.ld I (Cs (H.on f1) x ae λr W P o2 n2 f2=>⟨_,_,_,rfl,?_⟩));have F:=f1.tt f2;generalize e:xs.filter (λy=>decide (y.e=x))=ys at o2⊢;have L: ∀y∈ys,y∈xs:=λy l=>by rw[<-e]at l;exact(ba.1 l).1
 have E:ys.map CV.abs=lC s.L x:=by unfold lC;rw[<-H.abs,dN,<-e];rfl
 have Z:ys.length<=50000:=by rw[<-e];exact cD (cC _ _) ae
 refine⟨λn q g=> ∃k:Nat,q=(k:Int)/\k<=ys.length/\n=((((ys.take k).map CV.abs).filter (λz=>decide (z.ses=0))).length:Int)/\g=r,λ_ q _=>ys.length - q.toNat,⟨0,rfl,ae,bQ,rfl⟩,?_⟩;rintro _ _ _ ⟨k,rfl,U,rfl,rfl⟩;have V:(((ys.take k).map CV.abs).filter (λz=>decide (z.ses=0))).length<=k:=cD (cC _ _) (by rw[aA,bC];omega);have G:=H.on F;by_cases K:k<ys.length
 .have q1:(k:Int)<((ys.length:Nat):Int):=ae
  simp only[q1,bt,bg,aC];have d:ys[k]? =some ys[k]:=aj K;generalize ys[k]=v at d;have f:=L v (aJ d);obtain⟨N,O,rfl⟩:=o2.addr ae;have o:=o2.cell (j:=k) (v:=gw (v.num:Int)) (by unfold kx;rw[dK,aF,d];rfl);have e1:(((ys.take (k+1)).map CV.abs).filter (λz=>decide (z.ses=0))).length=(((ys.take k).map CV.abs).filter (λz=>decide (z.ses=0))).length+if v.ses=0 then 1 else 0:=by
   rw[bm,d,aV,fQ,ar];congr 1
   by_cases a:v.ses=0
   .have:v.abs.ses=0:=a;simp[a,this]
   .have: ¬v.abs.ses=0:=a;simp[a,this]
  refine aI.of λJ B=>⟨⟨by first|trivial|omega,by first|trivial|omega⟩,az.2 ⟨_,by rw[cp];exact o,_,aq G.cX,_,look G f,az.2 ⟨_,aq (G.Ef v f),aI.of λM D=> ?_⟩⟩⟩
  subst D;subst B;dsimp only;rw[bB (n:=(k:Int)+1) ae ae];by_cases a:v.ses=0
  .rw[ah (cH a),bB ae ae];rw[ah a]at e1;exact⟨⟨k+1,ae,ae,ae,rfl⟩,by show ys.length - Int.toNat ((k:Int)+1)<ys.length - k;omega⟩
  .rw[af (cH a)];rw[af a]at e1;exact⟨⟨k+1,ae,ae,ae,rfl⟩,by show ys.length - Int.toNat ((k:Int)+1)<ys.length - k;omega⟩
 .have q1: ¬(k:Int)<((ys.length:Nat):Int):=ae
  simp only[q1,bf,au,aM];rw[bk ae,E];exact hk _ F

end gx
end
section
open Go.kQ
namespace gx
open iY
structure OP where
 kind:Int
 num:Int
 ses:Int
 e:Ev
 p:bZ
 c:Nat
 b:cM
 cg:Nat
abbrev HS(f:OP):List Value:= [.int .i64 f.kind,.int .i64 f.num,.int .i64 f.ses,.bool f.e.jT,.int .u64 f.e.node,.int .u64 f.e.gr,.string f.e.host,.string f.e.jv,.slice f.p f.b.length f.c,.int .u64 (f.cg:Int)]

end gx
end
section
open Go.fk Go.kQ
namespace gx
open iY cf hM
variable {s s':CF} {k:Nat} {f:OP}
variable {z:Cp} {ses:Int} {dl:Nat}
theorem Ju{α:Type}[DecidableEq α]: ∀{l1 l2:List α},l1.Nodup->(∀a∈l1,a∈l2)->l1.length<=l2.length
 | [],_,_,_=>br _
 |a::l,l2,h,H=>by
  obtain⟨d,g⟩:=fb.1 h;have:=Ju (l1:=l) (l2:=l2.erase a) g (λb c=>(List.mem_erase_of_ne (λe=>d (by rw[<-e];exact c))).2 (H b (ct _ c)));have i:=List.length_erase_of_mem (H a bQ);have j:0<l2.length:=List.length_pos_of_mem (H a bQ);rw[aW];omega
theorem Sp{α:Type}[DecidableEq α]{l1 l2:List α}(b:l1.Nodup)(c:l2.Nodup)(H: ∀a,a∈l1↔a∈l2):l1.length=l2.length:=
 Nat.le_antisymm (Ju b (λa h=>(H a).1 h)) (Ju c (λa h=>(H a).2 h))
theorem HT(ok:sa s)(O:Ord s):s.E2.length=(s.L.filter (λz=>decide (z.ses≠0))).length:=by
 have e:((s.L.filter (λz=>decide (z.ses≠0))).map (λz=>(((z.num:Int),(z.dl:Int)):E))).length=(s.L.filter (λz=>decide (z.ses≠0))).length:=aA ..;rw[<-e];refine Sp ?_ ?_ λa=> ?_
 .have:=O.n2;unfold keys at this;exact(en.1 this).imp (λh e=>h (bP _ e))
 .have H:((s.L.filter (λz=>decide (z.ses≠0))).map Cp.num).Nodup:=fu (fP _ cU) O.nd;exact en.2 ((en.1 H).imp (λh e=>h (Int.ofNat.inj (bP Prod.fst e))))
 .rw[ok.e2,bj];constructor
  .rintro⟨z,b,d,rfl⟩;exact⟨z,ba.2 ⟨b,aw d⟩,rfl⟩
  .rintro⟨z,b,rfl⟩;obtain⟨H,c⟩:=ba.1 b;exact⟨z,H,aP c,rfl⟩
theorem L5.free(k:L5 z):L5 { z with ses:=0,dl:=0 } :=⟨k.r,k.v,k.d,k.n,k.t,by show(0:Int)<=0;omega,by show(0:Int)<=1099511627776;omega,by show 0<=1099511627776;omega⟩
theorem L5.Cu(k:L5 z)(h:uq ses dl):L5 { z with ses:=ses,dl:=dl } :=⟨k.r,k.v,k.d,k.n,k.t,by have:=h.1;show 0<=ses;omega,h.2.1,h.2.2⟩
structure Good (s:CF) (k:Nat):Prop where
 ok:sa s
 all: ∀z∈s.L,L5 z
 may: ∀z∈s.L,yt z.e z.d.length (z.cg:Int)=true
 fr: ∀z∈s.L,z.ses=0->z.dl=0
 full: ∀e,(lC s.L e).length<=16
 len:s.next<=k+1
theorem Good.nil:Good ⟨[],1,0,0,0, [], []⟩ 0:=⟨⟨(λz h=>by cases h),(λz h=>by cases h),(λe=>bQ),(λe=>bQ),rfl⟩,(λz h=>by cases h),(λz h=>by cases h),(λz h=>by cases h),λ_=>br _,bn _⟩
theorem Good.L(G:Good s k):s.L.length<=k/\s.gk<=k/\s.over<=k/\s.gone<=k:=by
 have:=G.ok.xO;have:=G.len;omega
theorem Good.small(G:Good s k)(O:Ord s)(hk:k<=40000):Small s:=by
 have c:=G.L;have d:=G.len;have nd: ∀{l:List E},(keys l).Nodup->l.Nodup:=fun {l} a=>(en.1 a).imp (λh e=>h (bP _ e))
 have e1:s.E1.length<=s.L.length:=by
  have:=Ju (l2:=s.L.map (λz=>(((z.num:Int),(z.cg:Int)):E))) (nd O.n1) (λe H=>by
   obtain⟨z,b,rfl⟩:=(G.ok.e1 e).1 H;exact bj.2 ⟨z,b,rfl⟩)
  rwa[aA]at this
 have e2:s.E2.length<=s.L.length:=by
  rw[HT G.ok O];exact cC _ _
 exact⟨ae,ae,ae,ae⟩
theorem Good.held(G:Good s k):Fx s:=λj h=>by
 unfold keys at h;obtain⟨e,H,rfl⟩:=bj.1 h;obtain⟨z,a,_,rfl⟩:=(G.ok.e2 e).1 H;exact⟨z,a,rfl⟩
theorem Good.more(G:Good s k):Good s (k+1):=⟨G.ok,G.all,G.may,G.fr,G.full,bR G.len⟩
theorem Good.sub(G:Good s k)(o:sa s')(P:Cp->Bool)(g:Cp->Cp)(b: ∀z,(g z).e=z.e/\(g z).d=z.d/\(g z).cg=z.cg)(a: ∀z∈s.L,L5 (g z)/\((g z).ses=0->(g z).dl=0))(c:s'.L=(s.L.filter P).map g)(i:s'.next=s.next):Good s' (k+1):=by
 have m: ∀z∈s'.L,∃y∈s.L,z=g y:=λz a=>by
  rw[c]at a;obtain⟨y,H,rfl⟩:=bj.1 a;exact⟨y,(ba.1 H).1,rfl⟩
 refine⟨o,λz h=> ?_,λz h=> ?_,λz h=> ?_,λe=> ?_,bR G.len⟩
 .obtain⟨y,H,rfl⟩:=m z h;exact(a y H).1
 .obtain⟨y,H,rfl⟩:=m z h;rw[(b y).1,(b y).2.1,(b y).2.2];exact G.may y H
 .obtain⟨y,H,rfl⟩:=m z h;exact(a y H).2
 .have d:lC s'.L e=(lC (s.L.filter P) e).map g:=by
   rw[c];unfold lC;rw[dN];congr 1
   refine ee λz _=> ?_
   show decide ((g z).e=e)=decide (z.e=e);rw[(b z).1]
  rw[d,aA];exact cD ((List.Sublist.filter _ cU).length_le) (G.full e)
theorem La(L:List Cp):L.filter (λ_=>true)=L:=cB.2 λ_ _=>rfl
theorem Good.set(G:Good s k)(o:sa s'){n:Nat}(h:uq ses dl\/(ses=0/\dl=0))(a:s'.L=oM s.L n ses dl)(b:s'.next=s.next):Good s' (k+1):=by
 refine G.sub o (λ_=>true) (λx=>if x.num=n then { x with ses:=ses,dl:=dl } else x) (λz=>by split<;>exact⟨rfl,rfl,rfl⟩) (λz H=> ?_) (by rw[La];exact a) b;split
 .rcases h with h|⟨rfl,rfl⟩
  .exact⟨(G.all z H).Cu h,λe=>by have:=h.1;dsimp only at e;omega⟩
  .exact⟨(G.all z H).free,λ_=>rfl⟩
 .exact⟨G.all z H,G.fr z H⟩
theorem Good.out(G:Good s k)(o:sa s'){P:Cp->Bool}(H:s'.L=s.L.filter P)(a:s'.next=s.next):Good s' (k+1):=
 G.sub o P id (λ_=>⟨rfl,rfl,rfl⟩) (λz h=>⟨G.all z h,G.fr z h⟩) (by rw[List.map_id];exact H) a
instance (ses : Int) (dl : Nat) : Decidable (uq ses dl) := by unfold uq; infer_instance
def Tc(f:OP)(s:CF):CF:=
 if f.kind=0 then j8 s f.e f.b f.cg
 else if f.kind=1 then(if uq f.ses f.cg then(match lg s.L f.e with|none=>s|some z=>rB s z f.ses f.cg)else s)
 else if f.kind=2 then sJ s f.num f.ses
 else if f.kind=3 then Dv s f.num f.ses
 else if f.kind=4 then kq s (f.cg:Int)
 else if f.kind=5 then xR s f.e
 else s
theorem Good.do(G:Good s k)(O:Ord s)(p:0<=f.e.gr)(hk:k<=30000):Good (Tc f s) (k+1):=by
 unfold Tc;split
 ·
  have o:=G.ok.add f.e f.b f.cg;by_cases h:iN s f.e f.b f.cg=0
  .have E:j8 s f.e f.b f.cg= { s with L:=s.L++ [⟨s.next,f.e,f.b,f.cg,0,0⟩],next:=s.next+1,E1:=zW s.E1 (s.next:Int) (f.cg:Int) } :=ah h;have H:yt f.e f.b.length (f.cg:Int)=true/\(lC s.L f.e).length<16:=by
    unfold iN at h;split at h
    .rename_i H;refine⟨H,?_⟩;split at h
     .cases h
     .omega
    .cases h
   have b:cV f.e=true/\f.b.length<=600/\f.cg<=1099511627776:=by
    have:=H.1;unfold yt at this;simp only[aS,Bool.not_eq_true',aZ,fa]at this;exact⟨this.1,ae,ae⟩
   have q:=G.len;rw[E]at o⊢;have m: ∀{Q:Cp->Prop},(∀z∈s.L,Q z)->Q ⟨s.next,f.e,f.b,f.cg,0,0⟩->∀z∈s.L++ [⟨s.next,f.e,f.b,f.cg,0,0⟩],Q z:=λa i z hz=>by
    rcases bz.1 hz with hz|hz
    .exact a z hz
    .obtain rfl:=bM.1 hz;exact i
   refine⟨o,m G.all ⟨b.1,p,b.2.1,by show s.next<=1000000;omega,b.2.2,by show(0:Int)<=0;omega,by show(0:Int)<=1099511627776;omega,by show 0<=1099511627776;omega⟩,m G.may H.1,m G.fr (λ_=>rfl),λe=> ?_,by show s.next+1<=_;omega⟩;show(lC (s.L++ [⟨s.next,f.e,f.b,f.cg,0,0⟩]) e).length<=16;unfold lC;rw[fQ,ar];have g:=G.full e;have d:=H.2;unfold lC at g d;by_cases c:f.e=e
   .subst c;simp;omega
   .simp[c];exact g
  .have E:j8 s f.e f.b f.cg=s:=af h;rw[E];exact G.more
 split
 ·
  split
  .rename_i H;cases n:lg s.L f.e with
   |none=>exact G.more
   |some z=>exact G.set (G.ok.Cu O (HQ n).1 H) (.inl H) rfl rfl
  .exact G.more
 split
 ·
  have o:=G.ok.VS O f.num f.ses;unfold sJ at o⊢;split
  .rename_i h;rw[ah h]at o;exact G.out o (P:=λx=> !decide ((x.num:Int)=f.num)) rfl rfl
  .exact G.more
 split
 ·
  have o:=G.ok.rel O f.num f.ses;unfold Dv at o⊢;split
  .rename_i h;rw[ah h]at o;exact G.set o (.inr ⟨rfl,rfl⟩) rfl rfl
  .exact G.more
 split
 ·
  obtain⟨a,_,j,_,_,l,_⟩:=K6 G.ok O (f.cg:Int);refine G.sub a _ (lM (f.cg:Int)) (λz=>by unfold lM;split<;>exact⟨rfl,rfl,rfl⟩) (λz hz=> ?_) l j;unfold lM;split
  .exact⟨(G.all z hz).free,λ_=>rfl⟩
  .exact⟨G.all z hz,G.fr z hz⟩
 split
 ·
  have e:=wS ((lC s.L f.e).map (λz=>(z.num:Int))) s;refine G.out (G.ok.drop O f.e) (P:=λz=> !decide ((z.num:Int)∈(lC s.L f.e).map (λz=>(z.num:Int)))) ?_ ?_
  .unfold xR;rw[e];rfl
  .unfold xR;rw[e]
 .exact G.more

end gx
end
section
variable {h:ak} {R:fG}
variable {x:Int}
theorem Bw.walk(a:Cl 223 #[.U x] h λv H=> ∃t7,v=.I t7/\R (.I t7) H):Cl 183 #[.U x] h R:=aR (lq (sq (cq ll lf) ll)) Tryz.func183 a
theorem yu.walk (f:aI (λ(X:Int) (n:Int) (H:ak)=>aI (λ(a:Int) (N:Int) (d:ak)=>aI (λ(b:Int) (g:Int) (e:ak)=>((0:Int)<=wrap .u8 b/\wrap .u8 b<(((⟨#[0,1,2,2,3,3,3,3,4,4,4,4,4,4,4,4,5,5,5,5,5,5,5,5,5,5,5,5,5,5,5,5,6,6,6,6,6,6,6,6,6,6,6,6,6,6,6,6,6,6,6,6,6,6,6,6,6,6,6,6,6,6,6,6,7,7,7,7,7,7,7,7,7,7,7,7,7,7,7,7,7,7,7,7,7,7,7,7,7,7,7,7,7,7,7,7,7,7,7,7,7,7,7,7,7,7,7,7,7,7,7,7,7,7,7,7,7,7,7,7,7,7,7,7,7,7,7,7,8,8,8,8,8,8,8,8,8,8,8,8,8,8,8,8,8,8,8,8,8,8,8,8,8,8,8,8,8,8,8,8,8,8,8,8,8,8,8,8,8,8,8,8,8,8,8,8,8,8,8,8,8,8,8,8,8,8,8,8,8,8,8,8,8,8,8,8,8,8,8,8,8,8,8,8,8,8,8,8,8,8,8,8,8,8,8,8,8,8,8,8,8,8,8,8,8,8,8,8,8,8,8,8,8,8,8,8,8,8,8,8,8,8,8,8,8,8,8,8,8,8,8,8,8,8,8,8]⟩:ByteArray).size:Nat):Int))/\R (.I (wrap .i64 (g+(wrap .i64 ((((⟨#[0,1,2,2,3,3,3,3,4,4,4,4,4,4,4,4,5,5,5,5,5,5,5,5,5,5,5,5,5,5,5,5,6,6,6,6,6,6,6,6,6,6,6,6,6,6,6,6,6,6,6,6,6,6,6,6,6,6,6,6,6,6,6,6,7,7,7,7,7,7,7,7,7,7,7,7,7,7,7,7,7,7,7,7,7,7,7,7,7,7,7,7,7,7,7,7,7,7,7,7,7,7,7,7,7,7,7,7,7,7,7,7,7,7,7,7,7,7,7,7,7,7,7,7,7,7,7,7,8,8,8,8,8,8,8,8,8,8,8,8,8,8,8,8,8,8,8,8,8,8,8,8,8,8,8,8,8,8,8,8,8,8,8,8,8,8,8,8,8,8,8,8,8,8,8,8,8,8,8,8,8,8,8,8,8,8,8,8,8,8,8,8,8,8,8,8,8,8,8,8,8,8,8,8,8,8,8,8,8,8,8,8,8,8,8,8,8,8,8,8,8,8,8,8,8,8,8,8,8,8,8,8,8,8,8,8,8,8,8,8,8,8,8,8,8,8,8,8,8,8,8,8,8,8,8,8]⟩:ByteArray).data.toList.getD (toNat (wrap .u8 b)) 0).toNat:Nat):Int))))) e) (λc=>if(decide (a≥256))then c (Int.fdiv a (2 ^ min (toNat 8) (IntKind.bits .u64))) (wrap .i64 (N+8)) d else c a N d)) (λj=>if(decide (X≥65536))then j (Int.fdiv X (2 ^ min (toNat 16) (IntKind.bits .u64))) (wrap .i64 (n+16)) H else j X n H)) (λJ=>if(decide (x≥4294967296))then J (Int.fdiv x (2 ^ min (toNat 32) (IntKind.bits .u64))) 32 h else J x 0 h)):Cl 223 #[.U x] h R:=aR (lq (sq (lq (.join [(0,.one (.int .u64)),(2,.one (.int .i64))] (cq ll lf))) (sq (lq (.join [(0,.one (.int .u64)),(2,.one (.int .i64))] (cq ll lf))) (sq (lq (.join [(0,.one (.int .u64)),(2,.one (.int .i64))] (cq ll lf))) ll)))) Tryz.func223 f

end
section
namespace gj
open iY
variable {h h':ak} {R:fG} {b:Nat} {X:Ft} {L xs:List Rg} {m n c:Nat} {p:bZ}
theorem Ax(r:Rg): ∀v∈vA r,fX v=true:=by
 intro v H;simp only[bG,List.not_mem_nil,or_false]at H;rcases H with rfl|rfl|rfl|rfl|rfl|rfl|rfl<;>rfl
theorem Sq(x y:Rg)(hk: iq h R (.I (if kI x.e y.e=true then -1 else 1))):Cl 132 #[x.val,y.val] h R:=by
 refine wJ.walk (bD.box λb1 e e1 a f1=>bD.box λB f e2 d f2=>HA (r:=x) (f2.get a id) (HA (r:=y) d (PF x.e y.e λH f3=>⟨_,rfl,?_⟩)));have K:=hk H (f1.tt (f2.tt f3));by_cases q:kI x.e y.e=true
 .rw[ah q];rw[ah q]at K;exact K
 .rw[af q];rw[af q]at K;exact K
theorem tG:nW Tryz.prog 133 136 7 72 (Rg.zero).val:=⟨cZ,cZ,rfl⟩
theorem uG:Tryz.prog.underlying 133=some (.slice 136):=cZ
def Xm(x:Ev×Value):Rg:=
 match x.2 with
 | .agg ⟨[_,_,_,_,_,.int _ a,.int _ b]⟩=>⟨x.1,a,b⟩
 |_=> .zero
abbrev wU(xs:List Rg):Prop:=(xs.map Rg.e).Nodup
theorem wU.ne{i j:Nat}{x y:Rg}(f:wU xs)(H:xs[i]? =some x)(g:xs[j]? =some y)(d:i≠j):x.e≠y.e:=λe=>by
 apply d
 have a:=(aB.1 H).1;exact(dU (l:=xs.map Rg.e) (cH a) f).1 (by rw[aF,aF,H,g];simp[e])
theorem DA(o:fi h p n c 7 (xs.flatMap vA))(e:n=xs.length)(d:xs.length<=1000)(nd:wU xs)(hk: ∀h' (ys:List Rg),fi h' p n c 7 (ys.flatMap vA)->ys.Perm xs->ys.Pairwise kk->Fr (aL p) h h'->R (.tuple #[]) h'):
  Cl 214 #[.slice p n c,.I 0,.I (n:Int),.func (.func 132) #[] #[]] h R:=by
 subst e;refine jP.TC.walk ?_;have C: ∀{ys:List Rg},ys.Perm xs->ys.length=xs.length:=λT=>T.length_eq
 refine⟨λt g=> ∃(i:Nat)(ys:List Rg),t=(i:Int)/\1<=i/\(i<=xs.length\/i=1)/\fi g p xs.length c 7 (ys.flatMap vA)/\ys.Perm xs/\jW kk ys 0 i/\Fr (aL p) h g,λt _=>xs.length - t.toNat,⟨1,xs,by rw[bB ae ae];rfl,ae,.inr rfl,o,.refl _,jW.small ae,Fr.refl _ _⟩,?_⟩;rintro _ g ⟨i,ys,rfl,Y,h2,B,P,S,F⟩;have ly:=C P;by_cases Z:i<xs.length
 .have q1:(i:Int)<(xs.length:Int):=ae
  simp only[q1,bt,bg];refine⟨λt r=> ∃(j:Nat)(zs:List Rg),t=(j:Int)/\j<=i/\fi r p xs.length c 7 (zs.flatMap vA)/\Dd kk ys zs 0 i j/\Fr (aL p) h r,λt _=>t.toNat,⟨i,ys,rfl,bn _,B,Dd.start S,F⟩,?_⟩;rintro _ s ⟨j,zs,rfl,u,O,I,q⟩;have l:=I.perm.trans P;have lz:=C l;have U:wU zs:=(l.map Rg.e).nodup_iff.2 nd;obtain⟨D,E,rfl⟩:=O.addr ae;refine aI.of λJ f=> ?_
  have stop:(j=0\/∀x y,zs[j]? =some x->zs[j - 1]? =some y->kk y x)->∀G,Fr No s G->J false G:=by
   intro N G f3;subst f;simp only[au,aM];rw[bB ae ae];refine⟨⟨i+1,zs,ae,ae,.inl ae,O.frame f3 cb,l,I.stop tX (br _) u ae N,q.on f3⟩,by show xs.length - Int.toNat ((i:Int)+1)<xs.length - i;omega⟩
  by_cases Q:0<j
  .have q2:(j:Int)>0:=ae
   have e1:IntKind.wrap .i64 ((j:Int) - 1)=((j - 1:Nat):Int):=by rw[bB ae ae];omega
   have H:zs[j]? =some (zs[j]' ae):=aj _;have a:zs[j - 1]? =some (zs[j - 1]' ae):=aj _;generalize zs[j]' ae=x at H;generalize zs[j - 1]' ae=y at a;simp only[q2,bt,bg,e1,aC]at f⊢;refine⟨ae,az.2 (bD.wm (O.fI mU H) ⟨ae,az.2 (bD.wm (O.fI mU a) (Sq x y λG f3=>⟨_,rfl,?_⟩))⟩)⟩;by_cases d:kI x.e y.e=true
   .rw[ah d,aw ae];have k:=O.frame f3 cb;subst f;simp only[bg];refine⟨ae,az.2 (bD.wm (k.fI mU a) ⟨ae,az.2 (bD.wm (k.fI mU H) ⟨ae,az.2 (bD.qQ (k.EN mU (Ax y) ae λg4 V s4 q4=>⟨ae,az.2 (bD.qQ (V.EN mU (Ax x) (by rw[dj];omega) λM A s5 W=> ?_))⟩))⟩)⟩)⟩;have K:(zs.set j y).set (j - 1) x=swp zs j (j - 1):=R4 H a;rw[K]at A;have f5:Fr (aL (Sa D E)) G M:=⟨ae,λz _ e=>by rw[W z e,q4 z e]⟩;exact⟨⟨j - 1,_,rfl,ae,A,I.swap Q u ae H a d,(q.on f3).tt f5⟩,by show Int.toNat ((j - 1:Nat):Int)<j;omega⟩
   .rw[af d,aD ae];refine stop (.inr λx' y' v w=> ?_) G f3;rw[H]at v;rw[a]at w;cases v;cases w;exact(zN (U.ne H a ae)).resolve_left d
  .have q2: ¬(j:Int)>0:=ae
   simp only[q2,bf,au,aM];exact stop (.inl ae) s (Fr.refl _ _)
 .have q1: ¬(i:Int)<(xs.length:Int):=ae
  simp only[q1,bf,au,aM];have:jW kk ys 0 ys.length:=by
   rcases h2 with h2|h2
   .have:i=ys.length:=ae
    rw[<-this];exact S
   .exact jW.small ae
  exact hk g ys B P this.pair F
theorem Hf{x:Int}(hk: ∀n:Int,R (.I n) h):Cl 183 #[.U x] h R:=by
 refine Bw.walk (yu.walk (aI.of λJ H=> ?_));have w: ∀n:Int,0<=IntKind.wrap .u8 n/\IntKind.wrap .u8 n<256:=λn=>by rw[IntKind.wrap_u8];omega
 have k: ∀y n,J y n h:=by
  intro y n;subst H;refine aI.of λJ H=> ?_
  have K: ∀y n,J y n h:=by
   intro y n;subst H;refine aI.of λJ H=> ?_
   have a: ∀y n,J y n h:=by
    intro y n;subst H;exact⟨w y,_,rfl,hk _⟩
   split
   .exact a _ _
   .exact a _ _
  split
  .exact K _ _
  .exact K _ _
 split
 .exact k _ _
 .exact k _ _
theorem Dt(o:fi h p n c 7 (xs.flatMap vA))(H:n=xs.length)(i:xs.length<=12)(nd:wU xs)(hk: ∀h' (ys:List Rg),fi h' p n c 7 (ys.flatMap vA)->ys.Perm xs->ys.Pairwise kk->Fr (aL p) h h'->R (.tuple #[]) h'):
  Cl 131 #[.slice p n c,.func (.func 132) #[] #[]] h R:=by
 subst H;refine jY.TC.walk (Hf λd=>⟨_,rfl,k7.TC.walk ?_⟩);refine⟨λa b l _ _ g=>a=0/\b=(xs.length:Int)/\l=d/\g=h,λ_ _ _ _ _ _=>0,⟨rfl,rfl,rfl,rfl⟩,?_⟩;rintro _ _ _ w wp _ ⟨rfl,rfl,rfl,rfl⟩;refine aI.of λJ e=> ?_
 rw[bB ae ae,ah (by simp;omega)];exact DA o rfl ae nd λh' ys O P s' f=>⟨rfl,rfl,hk h' ys O P s' f⟩
theorem rD(H:Tb h b X L)(hl:L.length<=12)(hk: ∀h' P C,fi h' P L.length C 7 (L.flatMap vA)->(∀y,aL P y->h.size<=y)->Fr No h h'->R (.slice P L.length C) h'):
  Cl 63 #[.P b 0] h R:=by
 obtain⟨m,H⟩:=H;refine Ao.walk (fO H ⟨_,rfl,aI.of λa' K=> ?_⟩);rw[ah rfl];refine⟨_,cK H.cX rfl,zt nO H.map λit t e1 I f1=>⟨_,rfl,?_⟩⟩;refine⟨λop o O g=> ∃ys:List Rg,o=ys.length/\fi g op o O 7 (ys.flatMap vA)/\(∀y,aL op y->h.size<=y/\y≠it)/\Iter g it m kO (L.map Rg.pair) (ys.map Rg.pair)/\Fr No h g,λ_ o _ _=>L.length - o,
  ⟨[],rfl,.nil rfl rfl rfl rfl,(λy ⟨a,e,_⟩=>by cases e),I,f1⟩,?_⟩
 rintro op o O g ⟨ys,rfl,x,G,q,F⟩;have zy:=F.1;have N:=q.le;rw[aA,aA]at N;refine Cg q (λU=> .inl ⟨rfl,?_⟩) (λa v i S c' I s1 o1=> .inr ⟨_,_,rfl,?_⟩)
 .subst K;dsimp only;have j:ys.Perm L:=by
   have e: ∀l:List Rg,(l.map Rg.pair).map Xm=l:=λl=>by
    rw[dK];conv=>rhs;rw[<-List.map_id l]
    exact dV (λr _=>rfl)
   have:=U.map Xm;rwa[e,e]at this
  have nd:wU ys:=(j.map Rg.e).nodup_iff.2 (HB H.so);have Q:=j.length_eq;refine Dt x rfl ae nd λJ zs w p3 s3 f3=>⟨rfl,?_⟩
  have:zs=L:=(List.Perm.eq_of_pairwise (le:=kk) (λa b _ _ t D=>by have:=tX t D;rw[nI]at this;cases this) s3 H.so (p3.trans j));subst this;rw[Q]at w⊢;exact hk J op O w (λy d=>(G y d).1) (F.fresh f3 (λy d=>(G y d).1))
 .obtain⟨r,u,e⟩:=bj.1 S;have E:a=r.e:=(bP Prod.fst e).symm;have ev:v=r.val:=(bP Prod.snd e).symm;subst E ev;refine zB I ⟨_,_,rfl,_,_,_,_,_,_,_,rfl,bD.new λb2 f e2 M f2=>bD.ld M (cI ?_)⟩;have f3:Fr No f (f.push (.cells #[.bool r.e.jT,.U r.e.node,.U r.e.gr,.string r.e.host,.string r.e.jv,.I r.jS,.I r.own] 136)):=Fr.push _ _;have z:Row (f.push (.cells #[.bool r.e.jT,.U r.e.node,.U r.e.gr,.string r.e.host,.string r.e.jv,.I r.jS,.I r.own] 136)) (Sa f.size 0) (vA r):=iS (cs:=vA r);generalize f.push (.cells #[.bool r.e.jT,.U r.e.node,.U r.e.gr,.string r.e.host,.string r.e.jv,.I r.jS,.I r.own] 136)=B at f3 z⊢;have s:Fr (λy=>y=it) g i:=⟨ae,λy _ T=>o1 y T⟩;have Z:=(x.frame s (λy d e=>(G y d).2 e)).frame (f2.tt f3) (λ_ _=>id);have k:Fr No h i:=F.fresh s (λy e=>by have:=f1.1;omega);have A:=k.tt (f2.tt f3);have d':i.size<=B.size:=(f2.tt f3).1;have e':it<i.size:=by
   obtain⟨_,_,_,_,_,_,u,_⟩:=I;exact aE u
  refine dD (cs:=ys.flatMap vA) (ds:=vA r) tG uG Z z rfl (Ax r) ae ae λp4 c4 g4 Y _ f4 W=>⟨_,_,_,rfl,?_⟩
  have V: ∀y,aL p4 y->h.size<=y/\y≠it:=by
   intro y d;rcases W y d with h5|h5
   .exact G y h5
   .have:=k.1;exact⟨ae,ae⟩
  refine⟨⟨ys++ [r],bQ,?_,V,?_,A.fresh f4 (λy d=>(G y d).1)⟩,?_⟩
  .rw[bY,List.flatMap_singleton];exact Y
  .rw[aV];have b':m<h.size:=H.map.lt;exact(I.frame (f2.tt f3) id id).frame f4 (λd=>(G it d).2 rfl) (λd=>by have:=(G m d).1;omega)
  .have:=I.le;rw[ar,aA,aA,dG]at this;show L.length - (ys.length+1)<L.length - ys.length;omega

end gj
end
section
variable {h:ak} {R:fG}
theorem yw.walk{t:Nat}(p:Cl 63 #[.P t 0] h λv j=>Vl v λM i P=> ∃(I:bZ->Nat->Nat->Int->ak->Prop)(m:bZ->Nat->Nat->Int->ak->Nat),I none 0 0 0 j/\∀(c:bZ)(O o:Nat)(t9:Int)(H:ak),I c O o t9 H->if(decide (t9<(i:Int)))then Bd t9 i/\aO M λa=>bD.LD H (a.add (toNat t9*7)) λq r s u w x y=>aT H (.cells #[.bool false,.U 0,.U 0,.string hC,.string hC,.I 0,.I 0] 136) λb k=>bD.ST k (AA b 0) q r s u w x y λf=>bD.LD f (AA b 0) λz A C D E F G=>Cl 64 #[.agg #[.bool z,.U A,.U C,.string D,.string E,.I F,.I G]] f λV l=>Vl V λL K J=>aT l (.cells #[.slice L K J] 22) λB n=>aU Tryz.prog (Builtin.append_ #[64,64] 64 #[.slice c O o,.slice (Sa B 0) 1 1]) n λN g=> ∃e d T,N=.slice e d T/\(I e d T (wrap .i64 (t9+1)) g/\m e d T (wrap .i64 (t9+1)) g<m c O o t9 H)else R (.slice c O o) H):Cl 22 #[.P t 0] h R:=aR (lq (lq (sq (lq (bq (.loop [(3,.one (.slice)),(9,.one (.int .i64))] (lq (sq (cq lf lf) (sq (bq ll) lf)))))) ll))) Tryz.func22 p
theorem FD.walk{r:Bool}{l:Int}{m:Int}{n:ByteArray}{o:ByteArray}{p:Int}{q:Int}(D:aT h (.cells #[.bool r,.U l,.U m,.string n,.string o,.I p,.I q] 136) λb i=>ax.LD i (AA b 0) λP Q S U V=>Cl 75 #[.agg #[.bool P,.U Q,.U S,.string U,.string V]] i λv H=> ∃t W,v=.tuple #[.string t,.I W]/\Hi H b 5 λt16=>Hi H b 6 λt19=>(Cl 65 #[] H λX d=>Vp X λt11=>Cc d b 6 (.I t19)/\Cc d b 5 (.I t16)/\aU Tryz.prog (convert 9 22 (.string t)) d λb' e=>Vl b' λK I F=>Cc e b 6 (.I t19)/\Cc e b 5 (.I t16)/\Cl 71 #[.pointer t11,.slice K I F] e λc' f=>Vp c' λt14=>Cc f b 6 (.I t19)/\Cc f b 5 (.I t16)/\Cl 66 #[.pointer t14,.I t16] f λd' k=>Vp d' λt17=>Cc k b 6 (.I t19)/\Cl 66 #[.pointer t17,.I t19] k λe' B=>Vp e' λt20=>Cl 67 #[.pointer t20] B λf' C=> ∃x u T,f'=.slice x u T/\R (.slice x u T) C)/\(aU Tryz.prog (convert 9 22 (.string t)) H λg' g=>Vl g' λL J G=>Cc g b 6 (.I t19)/\Cc g b 5 (.I t16)/\Cl 65 #[] g λh' a=>Vp h' λE=>Cc a b 6 (.I t19)/\Cc a b 5 (.I t16)/\Cl 71 #[.pointer E,.slice L J G] a λi' c=>Vp i' λM=>Cc c b 6 (.I t19)/\Cc c b 5 (.I t16)/\Cl 66 #[.pointer M,.I t16] c λY j=>Vp Y λN=>Cc j b 6 (.I t19)/\Cl 66 #[.pointer N,.I t19] j λZ z=>Vp Z λO=>Cl 67 #[.pointer O] z λa' A=> ∃y w s,a'=.slice y w s/\R (.slice y w s) A)/\True):Cl 64 #[.agg #[.bool r,.U l,.U m,.string n,.string o,.I p,.I q]] h R:=aR (lq (lq (sq (.gT (.op 1 (.op 4 (.op 5 (.op 7 (.op 8 (.alts (.fork 0 (.op 2 (.op 3 (.op 6 (.op 9 (.op 10 (.op 11 .done)))))) (.fork 2 (.op 0 (.op 3 (.op 6 (.op 9 (.op 10 (.op 11 .done)))))) .gy))))))))) lf))) Tryz.func64 D

end
section
open Go.fk
namespace gj
open iY hM
variable {h h':ak} {R:fG} {b:Nat} {X:Ft} {L:List Rg} {r:Rg}
def wV(r:Rg):cM:=dJ (gE r.e)++cd (fJ r.jS)++cd (fJ r.own)
structure Td (r:Rg):Prop where
 rt:iL r=true
 sv:0<=r.e.gr
theorem Td.e(k:Td r):cV r.e=true/\0<=r.jS/\r.jS<=2/\1<=r.own/\r.own<=1099511627776:=by
 have:=k.rt;unfold iL at this;simp only[aS,Bool.not_eq_true',aZ,fa]at this;exact⟨this.1,this.2.2.1.1,this.2.2.1.2,this.2.2.2.1,this.2.2.2.2⟩
theorem NI(k:Td r):(wV r).length<=200:=by
 have l0:=oP k.e.1 k.sv;have l1:=(bO (gE r.e).length).2;have l2:=(bO (fJ r.jS)).2;have l3:=(bO (fJ r.own)).2;unfold wV dJ;simp only[ar];omega
theorem wT(k:Td r)(tb:mO.oe h)(hk: ∀P C h',fi h' P (wV r).length C 1 (bc (wV r))->Fr No h h'->(∀y,aL P y->h.size<=y)->R (.slice P (wV r).length C) h'):Cl 64 #[r.val] h R:=by
 have K:=k.e;refine FD.walk (bD.box λb f eb G f1=>HA G (iY.nL r.e (tb.on f1) k.sv λa f2=> ?_));simp only[K.1,bg];refine⟨_,_,rfl,?_⟩;have c:r.at a b:=f2.get G id;have u:=f1.tt f2;have l0:=oP K.1 k.sv;have sz:(str (gE r.e)).size=(gE r.e).length:=iw _;have D:(str (gE r.e)).data.toList=gE r.e:=by unfold str;simp
 have O: ∀g (w:Nat) (S:Nat->Prop) q d,Fr No a g->Wr g w S []->(∀y,S y->a.size<=y)->Row g q (bc (gE r.e))->(∀y,aL q y->¬S y)->aX g (AA b 6)=some (.I r.own)/\aX g (AA b 5)=some (.I r.jS)/\Cl 71 #[.P w 0,.slice q (str (gE r.e)).size d] g λd' m=>
   ∃(t14:bZ),d'=.pointer t14/\
   aX m (AA b 6)=some (.I r.own)/\
   aX m (AA b 5)=some (.I r.jS)/\
   Cl 66 #[.pointer t14,.I r.jS] m λe' E=>
   ∃(t17:bZ),e'=.pointer t17/\
   aX E (AA b 6)=some (.I r.own)/\
   Cl 66 #[.pointer t17,.I r.own] E λf' a'=>
   ∃(t20:bZ),f'=.pointer t20/\
   Cl 67 #[.pointer t20] a' λg' b'=>
   ∃(M:bZ)(J T:Nat),g'=.slice M J T/\
   R (.slice M J T) b':=by
  intro g w S q d F W j row hq;have B: ∀{x:Nat->Prop},(∀y,x y->a.size<=y)->¬x b:=λhh hn=>by have:=hh b hn;have:=aE c;omega
  have p:r.at g b:=F.get c id;have zg:=F.1;refine⟨aq p,aq p,hM.nL W bQ row sz ae hq λg1 Q Y st1=> ?_⟩;have l: ∀y,Q y->a.size<=y:=λy H=>(st1.new y H).elim (j y) (λf=>ae)
  have o:r.at g1 b:=st1.fr.get p (B j);have z1:=st1.fr.1;have lt:=oP K.1 k.sv;have l1:=(bO (gE r.e).length).2;have l2:=(bO (fJ r.jS)).2;have l3:=(bO (fJ r.own)).2;have el:(dJ (gE r.e)).length=(cd (gE r.e).length).length+(gE r.e).length:=by unfold dJ;rw[ar]
  refine⟨_,rfl,aq o,aq o,gR Y (by rw[cy];omega) ae λg2 U Z s=>⟨_,rfl,?_⟩⟩;have A: ∀y,U y->a.size<=y:=λy H=>(s.new y H).elim (l y) (λf=>ae)
  have c':r.at g2 b:=s.fr.get o (B l);have z2:=s.fr.1;refine⟨aq c',gR Z (by rw[cy,ar];omega) ae λg3 V z I=>⟨_,rfl,?_⟩⟩;have i': ∀y,V y->a.size<=y:=λy H=>(I.new y H).elim (A y) (λf=>ae)
  have er: []++dJ (gE r.e)++cd (fJ r.jS)++cd (fJ r.own)=wV r:=by unfold wV;rw[cy]
  rw[er]at z;have lr:=NI k;refine ir z ae λp4 c4 g4 o4 f4 n=>⟨_,_,_,rfl,?_⟩
  have v:Fr No a g3:=((F.fresh st1.fr j).fresh s.fr l).fresh I.fr A;have z3:=v.1;have zz:=u.1;exact hk p4 c4 g4 o4 (u.tt (v.tt f4)) (λy H=>bR (n y H))
 refine⟨_,aq c,_,aq c,hM.gu λh3 w S W f3 N=>⟨_,rfl,aq (f3.get c id),aq (f3.get c id),Rp λq d i row cq f4 n=>⟨_,_,_,rfl,?_⟩⟩,Rp λq d h3 row cq f3 N=>⟨_,_,_,rfl,aq (f3.get c id),aq (f3.get c id),hM.gu λi w S W f4 n=>⟨_,rfl,?_⟩⟩,trivial⟩
 .rw[D]at row;exact O i w S q d (f3.tt f4) (W.frame f4 cb) N row (λy H t=>gv (n y H) (W.lt y t))
 .rw[D]at row;have z3:=f3.1;refine O i w S q d (f3.tt f4) W (λy H=>bR (n y H)) (row.frame f4 cb) (λy H t=> ?_);have f:=n y t;have a:=iK row (by unfold gE;intro e;have:=bP List.length e;rw[jq]at this;revert this;split<;>(try split)<;>simp) H;omega
theorem mq(H:Tb h b X L)(u:L.length<=12)(ok: ∀r∈L,Td r)(T:mO.oe h)(hk: ∀h' p l c,BL h h' p l c (L.map wV)->Fr No h h'->R (.slice p l c) h'):Cl 22 #[.P b 0] h R:=by
 refine yw.walk (rD H u λd P c1 o1 n1 f1=>⟨_,_,_,rfl,?_⟩);refine⟨λop O o t g=> ∃k:Nat,t=(k:Int)/\k<=L.length/\BL d g op O o ((L.take k).map wV)/\Fr No d g,λ_ _ _ t _=>L.length - t.toNat,⟨0,rfl,ae,cH BL.nil,Fr.refl _ _⟩,?_⟩;rintro op O o _ g ⟨k,rfl,M,B,f⟩;by_cases w:k<L.length
 .have q1:(k:Int)<((L.length:Nat):Int):=ae
  simp only[q1,bt,bg,aC];have a:L[k]? =some L[k]:=aj w;generalize L[k]=v at a;have i:=o1.frame f cb;obtain⟨A,C,rfl⟩:=i.addr ae;refine⟨⟨by first|trivial|omega,by first|trivial|omega⟩,az.2 (bD.wm (i.fI mU a) (bD.new λD I e2 s f2=>bD.ld s ?_))⟩;have m:=f1.tt (f.tt f2);refine wT (r:=v) (ok v (aJ a)) (T.on m) λN E J z f3 n=>⟨_,_,_,rfl,?_⟩
  have Z:=f.1;have S:=f2.1;have bl:=B.len;rw[aA,bC]at bl;have F:=f2.tt f3;refine(B.on F).push (bR F.1) z (λy e=>⟨bR (n y e),λx=>gv (B.lt x) (n y e)⟩) ae λQ G K j f4 g4=>⟨_,_,_,rfl,?_⟩
  rw[bB ae ae];refine⟨⟨k+1,ae,ae,?_,?_⟩,by show L.length - Int.toNat ((k:Int)+1)<L.length - k;omega⟩
  .rw[bm,a,aV];exact j
  .obtain⟨_,_,_,_,_,_,_,q⟩:=B;exact(f.tt F).fresh f4 q
 .have q1: ¬(k:Int)<((L.length:Nat):Int):=ae
  simp only[q1,bf,au,aM];rw[bk ae]at B;exact hk g op O o (B.mono f1.1) (f1.tt f)

end gj
end
section
open Go.fk
namespace gj
open iY hM
variable {L:List Rg}
structure Fl (L:List Rg):Prop where
 len:L.length<=8
 all: ∀r∈L,Td r
theorem Fl.add(k:Fl L)(r:Rg)(H:0<=r.e.gr):Fl (yo L r):=by
 unfold yo;rcases Aq L r with⟨_,e⟩|⟨_,_,e⟩|⟨_,_,_,e⟩|⟨h,_,b,e⟩<;>rw[e]
 .exact k
 .exact k
 .exact k
 .rw[ah rfl];exact⟨by rw[Np];omega,λz a=>(Fs.1 a).elim (λe=>e▸⟨h,H⟩) (k.all z)⟩
theorem Fl.rem(k:Fl L)(x:Ev)(o:Int):Fl (Ap L x o):=by
 unfold Ap;split
 .exact⟨cD (cC _ _) k.len,λz h=>k.all z (ba.1 h).1⟩
 .exact k
theorem Fl.jS(k:Fl L)(x:Ev)(o q:Int):Fl (Fu L x o q):=by
 unfold Fu;split
 .rename_i H;have a:0<=q/\q<=2:=by
   unfold Hz at H;split at H
   .assumption
   .cases H
  refine⟨by unfold Hx;rw[aA];exact k.len,λz c=> ?_⟩;obtain⟨y,b,rfl⟩:=bj.1 c;have K:=k.all y b;split
  .refine⟨?_,K.sv⟩;have h:=K.rt;unfold iL at h⊢;simp only[aS,Bool.not_eq_true',aZ,fa]at h⊢;exact⟨h.1,h.2.1,⟨a.1,a.2⟩,h.2.2.2⟩
  .exact K
 .exact k

end gj
end
section
namespace eN
open gD (It)
open iY (Ev cV)
variable {σ:SS} {k:Nat}
variable {l:List It} {s:gx.CF} {owner:Int} {d:cM} {cg:Nat}
structure Good (σ:SS) (k:Nat):Prop where
 a:eE.ox σ.A
 g:gj.Fl σ.G
 c:gx.Good σ.C k
 b:σ.B.next<=k+1
 v:σ.B.over<=k
 q:σ.Q=σ.B.items
 ok:sS σ.Q
 n:σ.now<=1099511627776
 e:cV σ.e=true/\σ.e≠Ev.zero/\0<=σ.e.gr
 t:σ.tm<=1099511627776/\σ.sq<=1099511627776
 r:σ.rf<=k
def DC(e:Ev):SS:=⟨[], [],⟨[],1,0,0,0, [], []⟩,⟨[],1,0,0,0⟩, [],e,0,0,0,0⟩
theorem Good.new{e:Ev}(H:cV e=true)(a:e≠Ev.zero)(b:0<=e.gr):Good (DC e) 0:=
 ⟨eE.ox.nil,⟨br _,λ_ h=>(by cases h)⟩,gx.Good.nil,bn _,bn _,rfl,sS.nil,br _,⟨H,a,b⟩,⟨br _,br _⟩,bn _⟩
def sW(s:gD.BS)(now:Nat):gD.BS:= { s with items:=s.items.filter (λx=>decide ((now:Int)<(x.cg:Int))),over:=s.over+(s.items.filter (λx=>decide ((x.cg:Int)<=(now:Int)))).length }
def xS(σ:SS)(now:Nat):Int:=if now>1099511627776 then 1 else if now<σ.now then 18 else 0
def Uc(σ:SS)(now:Nat):SS:= { σ with C:=gx.kq σ.C (now:Int),B:=sW σ.B now,Q:=(sW σ.B now).items,now:=now }
def xT(σ:SS)(now:Nat):SS:=if xS σ now=0 then Uc σ now else σ
theorem sS.filter(ok:sS l)(P:It->Bool):sS (l.filter P):=by
 induction l with
 |nil=>exact ok
 |cons x l i=>
  rw[cz];split
  .obtain⟨a,b,c,d,e,f⟩:=ok;have t1:xj (l.filter P)<=xj l:=by
    clear i f e d;induction l with
    |nil=>exact dT _
    |cons y l i=>rw[cz,jF];split<;>(try rw[jF])<;>omega
   have t2: ∀o,own (l.filter P) o<=own l o:=λo=>by
    clear i f e d t1;induction l with
    |nil=>exact dT _
    |cons y l i=>rw[cz,mQ];split<;>(try rw[mQ])<;>(try split)<;>omega
   rw[jF]at d e;have n1:=Hk (l:=l.filter P);refine⟨a,b,c,by rw[jF];omega,by rw[jF];omega,λk=>⟨Hm,?_⟩⟩;have:=(f k).2;have:=t2 k;rw[mQ]at*;omega
  .exact i ok.sub
theorem NJ(G:gx.Good s k)(O:gx.Ord s)(hk:k<=30000)(now:Nat):gx.Good (gx.kq s (now:Int)) (k+1):=by
 have h:=G.do (f:=⟨4,0,0,Ev.zero,none,0, [],now⟩) O (dT 0) hk;unfold gx.Tc at h;exact h
theorem PV(G:gx.Good s k)(O:gx.Ord s)(hk:k<=30000)(e:Ev)(H:0<=e.gr)(d:cM)(cg:Nat):gx.Good (gx.j8 s e d cg) (k+1):=by
 have h:=G.do (f:=⟨0,0,0,e,none,0,d,cg⟩) O H hk;unfold gx.Tc at h;exact h
theorem Good.more(G:Good σ k):Good σ (k+1):=⟨G.a,G.g,G.c.more,bR G.b,bR G.v,G.q,G.ok,G.n,G.e,G.t,bR G.r⟩
theorem Good.pass(G:Good σ k)(O:gx.Ord σ.C)(L:List Go.kQ.E)(ok:gD.okB σ.B L)(hk:k<=30000)(now:Nat):Good (xT σ now) (k+1):=by
 unfold xT;split
 .rename_i h;have H:now<=1099511627776:=by
   unfold xS at h;split at h
   .cases h
   .omega
  have b:=ok.xO;have a:=G.b;have c:(σ.B.items.filter (λx=>decide ((x.cg:Int)<=(now:Int)))).length<=σ.B.items.length:=cC _ _;refine⟨G.a,G.g,NJ G.c O hk now,by show σ.B.next<=_;omega,by show σ.B.over+_<=_;omega,rfl,?_,H,G.e,G.t,by have:=G.r;show σ.rf<=_;omega⟩;show sS (σ.B.items.filter _);rw[<-G.q];exact G.ok.filter _
 .exact G.more
abbrev nR(l:List It)(owner:Int)(n:Nat):Bool:=me.fits 4800 1600 (xj l) (own l) owner (n:Int)
def uv(σ:SS)(owner:Int)(d:cM)(cg:Nat):Int:=if σ.B.items.length≥16\/nR σ.Q owner d.length=false then 15 else gD.iN σ.B owner d cg
def DD(σ:SS)(owner:Int)(d:cM)(cg:Nat):Int:=if σ.B.items.length≥16\/nR σ.Q owner d.length=false then 0 else gD.Ai σ.B owner d cg
def oh(σ:SS)(owner:Int)(d:cM)(cg:Nat):SS:=if uv σ owner d cg=0 then { σ with B:=gD.Fm σ.B owner d cg,Q:=(gD.Fm σ.B owner d cg).items } else σ
def CB(σ:SS)(num owner:Int):SS:= { σ with B:=gD.mT σ.B num owner,Q:=(gD.mT σ.B num owner).items }
theorem PW{s:gD.BS}(h:gD.iN s owner d cg=0):gD.ue owner d.length (cg:Int)=true/\s.items.length<16:=by
 unfold gD.iN at h;split at h
 .rename_i H;refine⟨H,?_⟩;split at h
  .cases h
  .omega
 .cases h
theorem sS.add{x:It}(ok:sS l)(H:nR l x.owner x.d.length=true):sS (l++ [x]):=by
 have h:=me.Ok.take ok H;rw[Jj,show xj l+(x.d.length:Int)=xj (x::l) by rw[jF];omega]at h;exact sS.perm h (dY _ _).symm
theorem CC(h:uv σ owner d cg=0):nR σ.Q owner d.length=true/\gD.iN σ.B owner d cg=0:=by
 unfold uv at h;split at h
 .cases h
 .rename_i H;cases a:nR σ.Q owner d.length with
  |false=>exact absurd (.inr a) H
  |true=>exact⟨rfl,h⟩
theorem Good.put(G:Good σ k)(owner:Int)(d:cM)(cg:Nat):Good (oh σ owner d cg) (k+1):=by
 unfold oh;split
 .rename_i h;obtain⟨H,a⟩:=CC h;have e:gD.Fm σ.B owner d cg= { σ.B with items:=σ.B.items++ [⟨σ.B.next,owner,d,cg⟩],next:=σ.B.next+1 } :=ah a;rw[e];refine⟨G.a,G.g,G.c.more,by show σ.B.next+1<=_;have:=G.b;omega,by show σ.B.over<=_;have:=G.v;omega,rfl,?_,G.n,G.e,G.t,by show σ.rf<=_;have:=G.r;omega⟩;show sS (σ.B.items++ [_]);rw[<-G.q];exact sS.add G.ok H
 .exact G.more
theorem HU{s:gD.BS}{num:Int}: ∃P:It->Bool,(gD.mT s num owner).items=s.items.filter P/\(gD.mT s num owner).next=s.next/\(gD.mT s num owner).over=s.over:=by
 unfold gD.mT;split
 .exact⟨_,rfl,rfl,rfl⟩
 .exact⟨λ_=>true,(cB.2 λ_ _=>rfl).symm,rfl,rfl⟩
theorem Good.qc(G:Good σ k)(num owner:Int):Good (CB σ num owner) (k+1):=by
 obtain⟨P,h,H,a⟩:=HU (s:=σ.B) (num:=num) (owner:=owner);refine⟨G.a,G.g,G.c.more,by show(gD.mT σ.B num owner).next<=_;rw[H];have:=G.b;omega,by show(gD.mT σ.B num owner).over<=_;rw[a];have:=G.v;omega,rfl,?_,G.n,G.e,G.t,by show σ.rf<=_;have:=G.r;omega⟩;show sS (gD.mT σ.B num owner).items;rw[h,<-G.q];exact G.ok.filter _
theorem Good.kj(G:Good σ k)(token:Nat):Good { σ with A:=eE.kj σ.A token } (k+1):=
 ⟨G.a.open token,G.g,G.c.more,by show σ.B.next<=_;have:=G.b;omega,by show σ.B.over<=_;have:=G.v;omega,G.q,G.ok,G.n,G.e,G.t,by show σ.rf<=_;have:=G.r;omega⟩
theorem Good.VT(G:Good σ k)(O:gx.Ord σ.C)(hk:k<=30000)(e:Ev)(h:0<=e.gr)(d:cM)(cg:Nat):Good { σ with C:=gx.j8 σ.C e d cg } (k+1):=
 ⟨G.a,G.g,PV G.c O hk e h d cg,by show σ.B.next<=_;have:=G.b;omega,by show σ.B.over<=_;have:=G.v;omega,G.q,G.ok,G.n,G.e,G.t,by show σ.rf<=_;have:=G.r;omega⟩

end eN
end
end Go.Proofs.YtlenamcfacpheaaGreatDoor
