/-
  TT is proved here: parts of Js proof, one behind Js other (texts of this work, merged by a program; ZV Js theorem ZW not use is left out). No condition.
-/
import Derived.Test.YtlenamcfacpheaaGreatDoorProg
import Derived.Shelf.SortM.Plain
import Derived.Shelf.SortM.SortNone
import Derived.Ground.SlgmProg
import Derived.Shelf.Strconv.Itoa4
import Derived.Ground.NamesProg
import Derived.Test.YtlenamcfacpheaaGreatDoorMAsesc
set_option maxRecDepth 100000
set_option maxHeartbeats 4000000
namespace Go.Proofs.YtlenamcfacpheaaGreatDoor
open Go.Den
open IntKind (wrap)
open Int (toNat)
section
namespace j8
open qJ
variable {h h':aj} {R:iI} {b:Nat} {X:Ft}
structure Rg where
 e:Ev
 uF:Int
 own:Int
abbrev Rg.zero:Rg:=⟨.zero,0,0⟩
abbrev Rg.val (r:Rg):Value:=.agg #[.bool r.e.vE,.int .u64 r.e.node,.int .u64 r.e.ma,.string r.e.host,.string r.e.sN,.int .i64 r.uF,.int .i64 r.own]
abbrev Rg.at (h:aj) (b:Nat) (r:Rg):Prop:=bJ.at h b r.e.vE r.e.node r.e.ma r.e.host r.e.sN r.uF r.own
abbrev Rg.pair (r:Rg):Ev×Value:=(r.e,r.val)
abbrev CX (x y:Rg):Prop:=zx x.e y.e=true
theorem zO:y9 Tryz.prog T.gZ uH Rg.zero.val:=y9.of T.az T.bJ (by kernel_rfl) key (by kernel_rfl)
structure Tbm (h:aj) (b:Nat) (X:Ft) (L:List Rg) (m:Nat):Prop where
 dF:h[b]? =some (.cells #[.map (some m)] T.Ey (0,0))
 map:pY h m uH (L.map Rg.pair)
 fm: ∀c,X.M c↔c=b\/c=m
 d: ∀c,¬X.D c
 ne:b≠m
 so:L.Pairwise CX
def Tb (h:aj) (b:Nat) (X:Ft) (L:List Rg):Prop:= ∃m,Tbm h b X L m
variable {L : List Rg} {m : Nat}
theorem Tbm.frame {Q:Nat->Prop} (H:Tbm h b X L m) (f:Fr Q h h') (hq: ∀y,X.M y\/X.D y->¬Q y):Tbm h' b X L m:=
 ⟨f.get H.dF (hq b (.inl ((H.fm b).2 (.inl rfl)))),H.map.frame f (hq m (.inl ((H.fm m).2 (.inr rfl)))),H.fm,H.d,H.ne,H.so⟩
theorem Tbm.on (H:Tbm h b X L m) (f:Fr No h h'):Tbm h' b X L m:=H.frame f (λ_ _=>id)
theorem Tb.frame {Q:Nat->Prop} (H:Tb h b X L) (f:Fr Q h h') (hq: ∀y,X.M y\/X.D y->¬Q y):Tb h' b X L:=by
 obtain⟨m,H⟩:=H;exact⟨m,H.frame f hq⟩
theorem Tb.on (H:Tb h b X L) (f:Fr No h h'):Tb h' b X L:=H.frame f (λ_ _=>id)
theorem Tb.lt (H:Tb h b X L) (y:Nat) (hy:X.M y\/X.D y):y<h.size:=by
 obtain⟨m,H⟩:=H;rcases hy with hy|hy
 ·rcases(H.fm y).1 hy with rfl|rfl
  ·exact aI H.dF
  ·exact H.map.lt
 ·exact absurd hy (H.d y)
def pU (L:List Rg) (x:Ev):Option Rg:=L.find? (λr=>decide (r.e=x))
theorem U1 {x:Ev} {r:Rg} (h:pU L x=some r):r∈L/\r.e=x:=⟨List.mem_of_find?_eq_some h,by simpa using List.find?_some h⟩
theorem U2 {x:Ev} :pU L x=none↔ ∀r∈L,r.e≠x:=by unfold pU;simp
theorem aaI (L:List Rg) (x:Ev):DH (L.map Rg.pair) x=(pU L x).map Rg.val:=by
 unfold DH pU;rw[List.find?_map];cases h:L.find? ((λe:Ev×Value=>decide (e.1=x)) ∘ Rg.pair) with
 |none=>have:L.find? (λr=>decide (r.e=x))=none:=h;rw[this];rfl
 |some r=>have:L.find? (λr=>decide (r.e=x))=some r:=h;rw[this];rfl
def Mp (r:Rg):List Rg->List Rg
 | []=> [r]
 |x::l=>if zx x.e r.e=true then x::Mp r l else r::x::l
theorem Dz (r:Rg): ∀L:List Rg,(Mp r L).Perm (r::L)
 | []=> .refl _
 |x::l=>by
  unfold Mp;split
  ·exact((Dz r l).cons x).trans (List.Perm.swap r x l)
  ·exact .refl _
theorem Sb {r x:Rg} :x∈Mp r L↔x=r\/x∈L:=by rw[(Dz r L).mem_iff,bQ]
theorem ac7 (r:Rg) (L:List Rg):(Mp r L).length=L.length+1:=by rw[(Dz r L).length_eq];rfl
theorem Xo {r:Rg} : ∀ {L:List Rg},L.Pairwise CX->(∀x∈L,x.e≠r.e)->(Mp r L).Pairwise CX
 | [],_,_=>List.pairwise_singleton _ _
 |x::l,h,hn=>by
  obtain⟨h1,h2⟩:=fj.1 h;unfold Mp;split
  ·rename_i hx;refine fj.2 ⟨λy hy=> ?_,Xo h2 (λy hy=>hn y (cN _ hy))⟩;rcases Sb.1 hy with rfl|hy
   ·exact hx
   ·exact h1 y hy
  ·rename_i hx;have hrx:zx r.e x.e=true:=(Ut (hn x (by simp))).resolve_left hx;refine fj.2 ⟨λy hy=> ?_,h⟩;rcases bQ.1 hy with rfl|hy
   ·exact hrx
   ·exact Us hrx (h1 y hy)
def aaJ (L:List Rg) (x:Ev):List Rg:=L.filter (λr=> !decide (r.e=x))
def U3 (L:List Rg) (x:Ev) (p:Int):List Rg:=L.map (λr=>if r.e=x then { r with uF:=p } else r)
def nB (r:Rg):Bool:=dk r.e && (!decide (r.e=Ev.zero) && (decide (r.uF≥0) && decide (r.uF<=2) && (decide (r.own≥1) && decide (r.own<=1099511627776))))
def oz (L:List Rg) (r:Rg):Int:=if nB r=false then 1 else if(pU L r.e).isSome=true then 11 else if L.length≥8 then 15 else 0
def IN (L:List Rg) (r:Rg):List Rg:=if oz L r=0 then Mp r L else L
def oS (L:List Rg) (x:Ev) (owner:Int):Int:=match pU L x with|none=>4|some r=>if r.own=owner then 0 else 13
def KZ (L:List Rg) (x:Ev) (owner:Int):List Rg:=if oS L x owner=0 then aaJ L x else L
def aaK (L:List Rg) (x:Ev) (owner p:Int):Int:=if 0<=p/\p<=2 then oS L x owner else 1
def Sc (L:List Rg) (x:Ev) (owner p:Int):List Rg:=if aaK L x owner p=0 then U3 L x p else L
theorem K0 (L:List Rg) (r:Rg):(nB r=false/\oz L r=1)\/(nB r=true/\(pU L r.e).isSome=true/\oz L r=11)\/(nB r=true/\pU L r.e=none/\L.length≥8/\oz L r=15)\/(nB r=true/\pU L r.e=none/\L.length<8/\oz L r=0):=by
 unfold oz;cases h1:nB r with
 |false=>exact .inl ⟨rfl,by simp⟩
 |true=>
  cases h2:pU L r.e with
  |some x=>exact .inr (.inl ⟨rfl,rfl,by simp⟩)
  |none=>
   by_cases h3:L.length≥8
   ·exact .inr (.inr (.inl ⟨rfl,rfl,h3,by simp[h3]⟩))
   ·exact .inr (.inr (.inr ⟨rfl,rfl,by omega,by simp[h3]⟩))
theorem ji (H:Tbm h b X L m) (hk:R (.bool true) h):Cl F.jN #[.P b 0] h R:=jN.walk ⟨_,af H.dF rfl,hk⟩
theorem pE (hk: ∀h' b X,Tb h' b X []->UpF h X h'->R (.P b 0) h'):Cl F.Co #[] h R:=by
 refine Co.walk (cY (cY ?_));have f1:Fr No h (h.push (.map #[] 0)):=Fr.push _ _;have M1:=pY.push (α:=Ev) h uH;have z1:(h.push (.map #[] 0)).size=h.size+1:=fP _;generalize h.push (.map #[] 0)=h1 at f1 M1 z1⊢;have f2:Fr No h1 (h1.push (.cells #[.map (some h.size)] T.Ey)):=Fr.push _ _;refine hk _ h1.size ⟨λc=>c=h1.size\/c=h.size,λ_=>False⟩ ⟨h.size,cA,M1.frame f2 id,λc=>fZ,λ_=>id,by omega,.nil⟩ ⟨f1.tt f2,λc hc=> ?_⟩;rcases hc with hc|hc
 ·rcases hc with rfl|rfl<;>omega
 ·exact hc.elim
theorem Ig {n:Int} (hk:R (.bool (decide (n≥0) && decide (n<=2))) h):Cl F.px #[.I n] h R:=by
 refine px.walk ?_;by_cases q:n≥0
 ·simp only[q,decide_true,bA,fv] at hk⊢;exact hk
 ·simp only[q,decide_false,aA,aU,gL] at hk⊢;exact hk
theorem ic (r:Rg) (hk: ∀h',Fr No h h'->R (.bool (nB r)) h'):Cl F.wW #[r.val] h R:=by
 refine wW.walk (bJ.box λb h1 eb hb f1=> ?_);have lde: ∀ {g:aj} {K:Bool->Int->Int->ByteArray->ByteArray->Prop},r.at g b->K r.e.vE r.e.node r.e.ma r.e.host r.e.sN->az.LD g (AA b 0) K:=λhg hk=>⟨_,af hg rfl,_,af hg rfl,_,af hg rfl,_,af hg rfl,_,af hg rfl,hk⟩
 refine lde hb (qJ.ic r.e λh2 f2=>⟨_,rfl,?_⟩);have fJ:=f2.get hb id;have K:=hk h2 (f1.tt f2);unfold nB at K;by_cases q0:dk r.e=true
 ·rw[ag q0];rw[q0,fv] at K;refine lde fJ ⟨_,IE (y:=.zero) (x:=r.e) rfl rfl,?_⟩;by_cases q1:r.e=.zero
  ·rw[ay q1,dM];rw[ay q1] at K;exact K
  ·rw[decide_eq_false q1,jy];rw[decide_eq_false q1,gM,fv] at K;refine⟨_,af fJ rfl,Ig ⟨_,rfl,?_⟩⟩;by_cases q2:(decide (r.uF≥0) && decide (r.uF<=2))=true
   ·rw[ag q2];rw[q2,fv] at K;refine⟨_,af fJ rfl,?_⟩;by_cases q3:r.own≥1
    ·rw[ag (ay q3)];rw[ay q3,fv] at K;exact⟨_,af fJ rfl,K⟩
    ·rw[ai (by simpa using q3)];rw[decide_eq_false q3,gL] at K;exact K
   ·rw[ai q2];have q2:(decide (r.uF≥0) && decide (r.uF<=2))=false:=by simpa using q2
    rw[q2,gL] at K;exact K
 ·rw[ai q0];have q0:dk r.e=false:=by simpa using q0
  rw[q0,gL] at K;exact K
theorem am8 {g:aj} {b:Nat} {r:Rg} {K:Bool->Int->Int->ByteArray->ByteArray->Prop} (hg:r.at g b) (hk:K r.e.vE r.e.node r.e.ma r.e.host r.e.sN):az.LD g (AA b 0) K:=
 ⟨_,af hg rfl,_,af hg rfl,_,af hg rfl,_,af hg rfl,_,af hg rfl,hk⟩
theorem look (H:Tbm h b X L m) (x:Ev):mD Tryz.prog T.gZ (.map (some m)) (uH x) true h (.tuple #[((pU L x).getD .zero).val,.bool (pU L x).isSome]):=by
 have:=aai zO H.map x;rw[aaI] at this;cases hf:pU L x with
 |none=>rw[hf] at this;exact this
 |some r=>rw[hf] at this;exact this
theorem Fr.put {h0 h1 h2:aj} {c:Nat} (f:Fr No h0 h1) (hs:h2.size=h1.size) (ho: ∀x,x≠c->h2[x]? =h1[x]?) (hc:h0.size<=c):Fr No h0 h2:=
 f.fresh (S:=λy=>y=c) ⟨by omega,λy _ hn=>ho y hn⟩ (λy e=>by omega)
theorem oR (H:Tb h b X L) (x:Ev) (hk: ∀h',Fr No h h'->R (.tuple #[((pU L x).getD .zero).val,.bool (pU L x).isSome]) h'):
  Cl F.mN #[.P b 0,uH x] h R:=by
 obtain⟨m,H⟩:=H;refine mN.walk (az.box λb1 h1 e1 dx f1=>bJ.box λb2 h2 e2 fJ f2=> ?_);have f12:=f1.tt f2;have dx:=f2.get dx id;have H2:=H.on f12;refine ji H2 ⟨_,rfl,?_⟩;rw[dM];refine⟨_,af H2.dF rfl,az.ld dx ⟨_,_,_,_,_,_,_,_,look H2 x,bJ.box λb3 h3 e3 kT f3=> ?_⟩⟩;refine⟨f3.2 m H2.map.lt id,az.held (f3.get dx id),af (f3.get H2.dF id) rfl,bJ.set kT λh4 a4 s4 o4=>bJ.ld a4 ?_⟩;have U5:(Rg.zero).at h4 b2:=by
  have:=f3.get fJ id;have kB:b2≠b3:=by have:=aI fJ;omega
  unfold Rg.at bJ.at;rw[o4 b2 kB];exact this
 have z1:=f12.1;have z3:=f3.1;refine bJ.set U5 λh5 a5 s5 o5=>bJ.ld a5 (hk h5 ?_)
 exact Fr.put (Fr.put (f12.tt f3) s4 o4 (by omega)) s5 o5 (by have:=f1.1;omega)
theorem GN (H:Tb h b X L) (x:Ev) (owner:Int) (hk: ∀h',Fr No h h'->R (.tuple #[(if oS L x owner=0 then(pU L x).getD .zero else .zero).val,.I (oS L x owner)]) h'):
  Cl F.nV #[.P b 0,uH x,.I owner] h R:=by
 obtain⟨m,H⟩:=H;refine nV.walk (az.box λb1 h1 e1 dx f1=>bJ.box λb2 h2 e2 fJ f2=> ?_);have f12:=f1.tt f2;have dx:=f2.get dx id;have H2:=H.on f12;refine ji H2 ⟨_,rfl,?_⟩;rw[dM];refine⟨_,af H2.dF rfl,az.ld dx ⟨_,_,_,_,_,_,_,_,look H2 x,bJ.box λb3 h3 e3 kT f3=> ?_⟩⟩;refine⟨f3.2 m H2.map.lt id,az.held (f3.get dx id),af (f3.get H2.dF id) rfl,bJ.set kT λh4 a4 s4 o4=> ?_⟩;have U5:(Rg.zero).at h4 b2:=by
  have:=f3.get fJ id;have kB:b2≠b3:=by have:=aI fJ;omega
  unfold Rg.at bJ.at;rw[o4 b2 kB];exact this
 have z1:=f1.1;have z2:=f2.1;have F4:=Fr.put (f12.tt f3) s4 o4 (by omega);have fin: ∀(r:Rg) (e:Int),(if oS L x owner=0 then(pU L x).getD .zero else .zero)=r->oS L x owner=e->∀h5,r.at h5 b2->h5.size=h4.size->(∀y,y≠b2->h5[y]? =h4[y]?)->R (.tuple #[r.val,.I e]) h5:=by
  intro r e e1 e2 h5 _ s5 o5;rw[<-e1,<-e2];exact hk h5 (Fr.put F4 s5 o5 (by omega))
 cases hf:pU L x with
 |none=>
  have ea:oS L x owner=4:=by unfold oS;rw[hf]
  rw[ag (by rfl)];exact bJ.set U5 λh5 a5 s5 o5=>bJ.ld a5 (fin .zero 4 (by rw[ea,dM]) ea h5 a5 s5 o5)
 |some r=>
  rw[hf] at a4;rw[ai (by simp)];refine⟨_,af a4 rfl,?_⟩;by_cases ho:r.own=owner
  ·have ea:oS L x owner=0:=by unfold oS;rw[hf];exact ag ho
   rw[ai (by simpa using ho)];exact bJ.ld a4 (bJ.set U5 λh5 a5 s5 o5=>bJ.ld a5 (fin r 0 (by rw[ea,ag rfl,hf];rfl) ea h5 a5 s5 o5))
  ·have ea:oS L x owner=13:=by unfold oS;rw[hf];exact ai ho
   rw[ag (by simpa using ho)];exact bJ.set U5 λh5 a5 s5 o5=>bJ.ld a5 (fin .zero 13 (by rw[ea,dM]) ea h5 a5 s5 o5)
theorem Tbm.put {L':List Rg} {h1:aj} (H:Tbm h b X L m) (M:pY h1 m uH (L'.map Rg.pair)) (hs:h1.size=h.size) (ho: ∀c,c≠m->h1[c]? =h[c]?) (so:L'.Pairwise CX):Tbm h1 b X L' m/\bN X h X h1:=by
 have f:Fr X.M h h1:=⟨by omega,λc _ hn=>ho c (λe=>hn ((H.fm c).2 (.inr e)))⟩;refine⟨⟨?_,M,H.fm,H.d,H.ne,so⟩,bN.E9 f⟩;rw[ho b H.ne];exact H.dF
theorem Sd (L:List Rg) (x:Ev):GC (L.map Rg.pair) x=(aaJ L x).map Rg.pair:=by
 unfold GC aaJ;rw[eM];rfl
theorem af0 {x:Ev} (so:L.Pairwise CX):(aaJ L x).Pairwise CX:=so.sublist cV
theorem af1 {x:Ev} {p:Int} (so:L.Pairwise CX):(U3 L x p).Pairwise CX:=by
 unfold U3;rw[gj];refine so.imp fun {u v} huv=> ?_
 have e: ∀r:Rg,(if r.e=x then { r with uF:=p } else r:Rg).e=r.e:=λr=>by split<;>rfl
 show zx _ _=true;rw[e,e];exact huv
theorem Se {x:Ev} {p:Int} {r:Rg} : ∀ {L:List Rg},L.Pairwise CX->r∈L->r.e=x->(U3 L x p).Perm ({ r with uF:=p } ::aaJ L x)
 | [],_,h,_=>by cases h
 |y::l,so,h,e=>by
  obtain⟨h1,h2⟩:=fj.1 so;unfold U3 aaJ;rw[cB,cD];rcases bQ.1 h with rfl|h
  ·rw[ag e,ai (by simp[e])];refine List.Perm.cons _ ?_;have kB: ∀z∈l,z.e≠x:=λz hz e2=>by
    have:=h1 z hz;rw[CX,e,e2,HO] at this;cases this
   have e1:l.map (λr=>if r.e=x then({ r with uF:=p } :Rg) else r)=l:=by
    conv=>rhs;rw[<-List.map_id l]
    exact fW (λz hz=>ai (kB z hz))
   have e2:l.filter (λr=> !decide (r.e=x))=l:=by
    rw[cI];intro z hz;simp[kB z hz]
   rw[e1,e2]
  ·have hy:y.e≠x:=λe2=>by
    have:=h1 r h;rw[CX,e,e2,HO] at this;cases this
   rw[ai hy,ag (by simp[hy])];exact((Se h2 h e).cons y).trans (List.Perm.swap _ _ _)
theorem KR (H:Tb h b X L) (r:Rg) (hl:L.length<=8) (hk: ∀h',Tb h' b X (IN L r)->bN X h X h'->R (.I (oz L r)) h'):
  Cl F.qe #[.P b 0,r.val] h R:=by
 obtain⟨m,H⟩:=H;refine qe.walk (bJ.box λb1 h1 e1 dx f1=> ?_);have H1:=H.on f1;refine ji H1 ⟨_,rfl,?_⟩;rw[dM];refine⟨_,af H1.dF rfl,am8 (r:=r) dx ⟨_,_,_,_,_,_,_,_,look H1 r.e,bJ.box λb3 h3 e3 kT f3=> ?_⟩⟩;have qx:=f3.get dx id;refine⟨f3.2 m H1.map.lt id,lS qx (λj v hj=> ?_),af (f3.get H1.dF id) rfl,bJ.set kT λh4 a4 s4 o4=> ?_⟩
 ·rw[cf]
  match j,hj with
  |0,hj=>simpa using hj
  |1,hj=>simpa using hj
  |2,hj=>simpa using hj
  |3,hj=>simpa using hj
  |4,hj=>simpa using hj
 have z1:=f1.1;have F4:=Fr.put (f1.tt f3) s4 o4 (by omega);have CY:r.at h4 b1:=by
  have kB:b1≠b3:=by have:=aI dx;omega
  unfold Rg.at bJ.at;rw[o4 b1 kB];exact qx
 refine bJ.ld CY (ic r λh5 f5=>⟨_,rfl,?_⟩);have F5:=F4.tt f5;have H5:=H.on F5;have FN:=f5.get CY id;have vW:IN L r=L->R (.I (oz L r)) h5:=λe=>hk h5 (by rw[e];exact⟨m,H5⟩) (bN.nJ F5)
 rcases K0 L r with⟨q1,q2⟩|⟨q1,q3,q2⟩|⟨q1,q3,q4,q2⟩|⟨q1,q3,q4,q2⟩
 ·rw[q1,jy];rw[q2] at vW;exact vW (by unfold IN;rw[q2];rfl)
 ·rw[q1,dM,ag q3];rw[q2] at vW;exact vW (by unfold IN;rw[q2];rfl)
 ·rw[q1,dM,ai (by rw[q3];simp)];refine⟨_,af H5.dF rfl,_,Ue zO H5.map,?_⟩;rw[aN,jy];rw[q2] at vW;exact vW (by unfold IN;rw[q2];rfl)
 ·rw[q1,dM,ai (by rw[q3];simp)];refine⟨_,af H5.dF rfl,_,Ue zO H5.map,?_⟩;rw[aN,ai (by simp;omega)];refine⟨_,af H5.dF rfl,am8 (r:=r) FN (bJ.ld FN (JT zO H5.map (k:=r.e) λh6 M6 s6 o6=> ?_))⟩;have eL:IN L r=Mp r L:=ag q2;have Gw:=U2.1 q3;have M6:pY h6 m uH ((Mp r L).map Rg.pair):=by
   refine M6.perm ?_;unfold Rp;rw[Dp (λe he=>by obtain⟨y,hy,rfl⟩:=bn.1 he;exact Gw y hy)];exact((Dz r L).map Rg.pair).symm
  obtain⟨H6,st⟩:=H5.put M6 s6 o6 (Xo H5.so Gw);rw[eL,q2] at hk;exact hk h6 ⟨m,H6⟩ (bN.no F5 st)
theorem zP (H:Tb h b X L) (x:Ev) (owner:Int) (hk: ∀h',Tb h' b X (KZ L x owner)->bN X h X h'->R (.I (oS L x owner)) h'):
  Cl F.mV #[.P b 0,uH x,.I owner] h R:=by
 refine mV.walk (az.box λb1 h1 e1 dx f1=>az.ld dx (GN (H.on f1) x owner λh2 f2=>⟨_,_,_,_,_,_,_,_,rfl,bJ.new λb3 h3 e3 kT f3=>aK.of λJ hJ=> ?_⟩));have F3:=f1.tt (f2.tt f3);have qx:=(f2.tt f3).get dx id;obtain⟨m,H⟩:=H;have H3:=H.on F3;by_cases q:oS L x owner=0
 ·rw[ag (by simpa using q)];refine⟨_,af H3.dF rfl,az.ld qx (Rs zO H3.map (k:=x) λh4 M4 s4 o4=>⟨rfl,?_⟩)⟩;subst hJ;rw[Sd] at M4;obtain⟨H4,st⟩:=H3.put M4 s4 o4 (af0 H3.so);exact hk h4 (by unfold KZ;rw[ag q];exact⟨m,H4⟩) (bN.no F3 st)
 ·rw[ai (by simpa using q)];subst hJ;exact hk h3 (by unfold KZ;rw[ai q];exact⟨m,H3⟩) (bN.nJ F3)
theorem aaL (H:Tb h b X L) (x:Ev) (owner p:Int) (hk: ∀h',Tb h' b X (Sc L x owner p)->bN X h X h'->R (.I (aaK L x owner p)) h'):
  Cl F.mX #[.P b 0,uH x,.I owner,.I p] h R:=by
 refine mX.walk (az.box λb1 h1 e1 dx f1=>aK.of λJ hJ=> ?_);have H0:=H;obtain⟨m,H⟩:=H;have H1:=H.on f1;refine ji H1 ⟨_,rfl,?_⟩;rw[ag rfl];refine Ig ⟨_,rfl,?_⟩;subst hJ;by_cases q0:0<=p/\p<=2
 ·have e0:(decide (p≥0) && decide (p<=2))=true:=by simp[q0.1,q0.2]
  have eE:aaK L x owner p=oS L x owner:=ag q0;rw[e0];dsimp only;rw[dM];refine az.ld dx (GN (H0.on f1) x owner λh2 f2=>⟨_,_,_,_,_,_,_,_,rfl,bJ.new λb3 h3 e3 kT f3=>aK.of λJ hJ=> ?_⟩);have F3:=f1.tt (f2.tt f3);have qx:=(f2.tt f3).get dx id;have H3:=H.on F3;rw[eE] at hk;by_cases q:oS L x owner=0
  ·rw[ag (by simpa using q)];obtain⟨r,hr⟩: ∃r,pU L x=some r:=by
    cases hf:pU L x with
    |none=>unfold oS at q;rw[hf] at q;cases q
    |some r=>exact⟨r,rfl⟩
   rw[ag q,hr] at kT;obtain⟨hrm,hre⟩:=U1 hr;refine bM kT (by simp) λh4 a4 s4 o4=> ?_
   have z1:=f1.1;have z2:=f2.1;have F4:=Fr.put F3 s4 o4 (by omega);have H4:=H.on F4;have CY:Ev.at h4 b1 x:=by
    have kB:b1≠b3:=by have:=aI dx;omega
    unfold Ev.at az.at;rw[o4 b1 kB];exact qx
   have a4:({ r with uF:=p } :Rg).at h4 b3:=a4;refine⟨_,af H4.dF rfl,az.ld CY (bJ.ld a4 (JT zO H4.map (k:=x) λh5 M5 s5 o5=> ?_))⟩;have M5:pY h5 m uH ((U3 L x p).map Rg.pair):=by
    refine M5.perm ?_;unfold Rp;rw[Sd];have:=((Se (p:=p) H.so hrm hre).map Rg.pair).symm;rw[cB] at this;have e2:(x,({ r with uF:=p } :Rg).val)=({ r with uF:=p } :Rg).pair:=by rw[<-hre]
    rw[show((x,Value.agg #[.bool r.e.vE,.U r.e.node,.U r.e.ma,.string r.e.host,.string r.e.sN,.I p,.I r.own]):Ev×Value)=({ r with uF:=p } :Rg).pair from e2];exact this
   obtain⟨H5,st⟩:=H4.put M5 s5 o5 (af1 H.so);subst hJ;exact hk h5 (by unfold Sc;rw[eE,ag q];exact⟨m,H5⟩) (bN.no F4 st)
  ·rw[ai (by simpa using q)];subst hJ;exact hk h3 (by unfold Sc;rw[eE,ai q];exact⟨m,H3⟩) (bN.nJ F3)
 ·have e0:(decide (p≥0) && decide (p<=2))=false:=by
   rw[Bool.and_eq_false_iff];by_cases h1:p≥0
   ·exact .inr (decide_eq_false (λh2=>q0 ⟨h1,h2⟩))
   ·exact .inl (decide_eq_false h1)
  have eE:aaK L x owner p=1:=ai q0;rw[e0];dsimp only;rw[jy];rw[eE] at hk;exact hk h1 (by unfold Sc;rw[eE,dM];exact⟨m,H1⟩) (bN.nJ f1)
end j8
end
section
variable {h:aj} {R:iI}
theorem wR.walk (hv:aV h (.map #[] 0) λb aR=>Cl F.uv #[] aR λv aZ=>Vp v λt2=>Cl F.uv #[] aZ λeK bK=>Vp eK λt3=>aV bK (.cells #[.map (some b),.I 1,.I 0,.I 0,.I 0,.pointer t2,.pointer t3] T.lC) λcE cC=>R (.P cE 0) cC):Cl F.wR #[] h R:=aS (lq ll) Tryz.func37 hv
theorem gw.walk {t:Nat} (hv: ∃t9,ak h (AA t 0)=some (.map t9)/\R (.bool (!t9.isNone)) h):Cl F.gw #[.P t 0] h R:=aS (lq ll) Tryz.func47 hv
theorem jr.walk {t:Nat} (hv:Cl F.gw #[.P t 0] h λv aR=>Vb v λt6=>aK (λ(kJ:bV) (kK kL:Nat) (aZ:aj)=>Cl F.tX #[.slice kJ kK kL] aZ λeK bK=>eK=.tuple #[]/\R (.slice kJ kK kL) bK) (λJ=>if t6 then∃t10,ak aR (AA t 0)=some (.map t10)/\aX Tryz.prog (Instr.range T.cZ (.map t10)) aR λgS cC=> ∃(it:Nat),gS=.P it 0/\∃(I:bV->Nat->Nat->aj->Prop) (mu:bV->Nat->Nat->aj->Nat),I none 0 0 cC/\∀(lF:bV) (lG lH:Nat) (cK:aj),I lF lG lH cK->aX Tryz.prog (Instr.next (.P it 0) false T.J0) cK λkV cR=>(kV=.tuple #[.bool false]/\J lF lG lH cR)\/(∃(am9 ana:Value),kV=.tuple #[.bool true,am9,ana]/\aX Tryz.prog (Instr.entry (.P it 0)) cR λou cX=> ∃(ail anb:Value),ou=.tuple #[ail,anb]/\∃t15,ail=.I t15/\aV cX (.cells #[.I t15] T.int) λb dB=>aX Tryz.prog (Builtin.append_ #[T.Fe,T.Fe] T.Fe #[.slice lF lG lH,.slice (some (AA b 0)) 1 1]) dB λxw ff=> ∃CI zL CJ,xw=.slice CI zL CJ/\(I CI zL CJ ff/\mu CI zL CJ ff<mu lF lG lH cK)) else J none 0 0 aR)):Cl F.jr #[.P t 0] h R:=aS (lq (lq (sq (lq (.join [(3,.one (.slice))] (cq (lq (bq (.loop [(3,.one (.slice))] (lq (sq (cq lf lf) (bq (sq (.typed [(15,.one (.int .i64))]) lf))))))) lf))) (lq ll)))) Tryz.func68 hv
theorem fQ.walk {n:Int} {c0:Nat} {c1:Nat} (hv:Hp h c0 0 λt5=>aP t5 λa=> ∃t8,ak h a=some (.map t8)/\∃t10,mD Tryz.prog T.cZ (.map t8) (.I n) false h (.pointer t10)/\aP t10 λkz=>az.LD h (kz.add 1) λIh vO anc ane anf=>az.LD h (AA c1 0) λqM rR ac8 ang anh=> ∃(eq:Bool),Hq Tryz.prog T.az (.agg #[.bool Ih,.U vO,.U anc,.string ane,.string anf]) (.agg #[.bool qM,.U rR,.U ac8,.string ang,.string anh]) eq/\R (.bool (!eq)) h):Cl F.fQ #[.I n,.P c0 0,.P c1 0] h R:=aS (lq (sq (pN 12) lf)) Tryz.func113 hv
theorem ir.of.walk {oD:bV} {mG qK:Nat} {KN:Nat} {PH:Nat} (hv:Cl F.dO #[.slice oD mG qK,.func (.func F.fQ) #[] #[.P KN 0,.P PH 0]] h λv aR=> ∃t10,v=.I t10/\if(t10==(-1)) then R (.slice oD mG qK) aR else∃(I:Int->Int->aj->Prop) (mu:Int->Int->aj->Nat),I t10 (wrap .i64 (t10+1)) aR/\∀(i:Int) (j:Int) (aZ:aj),I i j aZ->if(decide (j<(mG:Int))) then aK (λ(sM:Int) (bK:aj)=>(I sM (wrap .i64 (j+1)) bK/\mu sM (wrap .i64 (j+1)) bK<mu i j aZ)) (λJ=>Bd j mG/\aP oD λa=>Rf aZ (a.add (toNat j*1)) λt25=>Cl F.fQ #[.I t25,.P KN 0,.P PH 0] aZ λeK cC=>Vb eK λt28=>aK (λ(i_2:Int) (cK:aj)=>J i_2 cK) (λjo=>if(!t28) then Bd i mG/\aP oD λkz=>aH cC (kz.add (toNat i*1)) (.I t25) λcR=>jo (wrap .i64 (i+1)) cR else jo i cC)) else((0:Int)<=i/\i<=(mG:Int))/\aX Tryz.prog (Builtin.clear_ #[T.Fe] T.J0 #[.slice (da oD qK (toNat i) 1) (mG - (toNat i)) (qK - (toNat i))]) aZ λgS cX=>gS=.tuple #[]/\((0:Int)<=i/\i<=(qK:Int))/\R (.slice (da oD qK 0 1) ((toNat i) - 0) (qK - 0)) cX):Cl F.ir #[.slice oD mG qK,.func (.func F.fQ) #[] #[.P KN 0,.P PH 0]] h R:=aS (lq (lq (sq (lq (cq ll lf)) (sq (lq (bq (.loop [(5,.one (.int .i64)),(6,.one (.int .i64))] (sq (lq (cq lf lf)) (sq (.join [(5,.one (.int .i64))] (bq (lq (lq (.join [(5,.one (.int .i64))] (cq ll lf)))))) lf))))) (lq ll))))) Tryz.func112 hv
theorem dO.of.walk {oD:bV} {mG qK:Nat} {RU:Nat} {aim:Nat} (hv: ∃(I:Int->aj->Prop) (mu:Int->aj->Nat),I 0 h/\∀(t8:Int) (aR:aj),I t8 aR->if(decide (t8<(mG:Int))) then Bd t8 mG/\aP oD λa=>Rf aR (a.add (toNat t8*1)) λt15=>Cl F.fQ #[.I t15,.P RU 0,.P aim 0] aR λv aZ=> ∃t16,v=.bool t16/\if t16 then R (.I t8) aZ else(I (wrap .i64 (t8+1)) aZ/\mu (wrap .i64 (t8+1)) aZ<mu t8 aR) else R (.I (-1)) aR):Cl F.dO #[.slice oD mG qK,.func (.func F.fQ) #[] #[.P RU 0,.P aim 0]] h R:=aS (lq (sq (lq (bq (.loop [(8,.one (.int .i64))] (lq (sq (cq lf lf) (sq (bq (lq (lq (cq ll lf)))) lf)))))) ll)) Tryz.func168 hv
theorem jL.walk {t:Nat} {dP:Bool} {dQ:Int} {dR:Int} {dS:ByteArray} {dU:ByteArray} (hv:aV h (.cells #[.P t 0] T.my) λb aR=>aV aR (.cells #[.bool dP,.U dQ,.U dR,.string dS,.string dU] T.az) λcE aZ=>Hp aZ b 0 λt5=>Cl F.jr #[.pointer t5] aZ λv bK=>Vl v λaqr aqs aqt=>Cl F.ir #[.slice aqr aqs aqt,.func (.func F.fQ) #[] #[.P b 0,.P cE 0]] bK λeK cC=> ∃yM vR AB,eK=.slice yM vR AB/\R (.slice yM vR AB) cC):Cl F.jL #[.P t 0,.agg #[.bool dP,.U dQ,.U dR,.string dS,.string dU]] h R:=aS (lq ll) Tryz.func49 hv
theorem ml.walk {t:Nat} {dP:Bool} {dQ:Int} {dR:Int} {dS:ByteArray} {dU:ByteArray} (hv:aV h (.cells #[.bool dP,.U dQ,.U dR,.string dS,.string dU] T.az) λb aR=>az.LD aR (AA b 0) λIP IS aaM ajY ajZ=>Cl F.jL #[.P t 0,.agg #[.bool IP,.U IS,.U aaM,.string ajY,.string ajZ]] aR λv aZ=>Vl v λyw rQ CS=> ∃(I:Int->Int->aj->Prop) (mu:Int->Int->aj->Nat),I 0 0 aZ/\∀(n:Int) (t12:Int) (bK:aj),I n t12 bK->if(decide (t12<(rQ:Int))) then aK (λ(n_1:Int) (cC:aj)=>(I n_1 (wrap .i64 (t12+1)) cC/\mu n_1 (wrap .i64 (t12+1)) cC<mu n t12 bK)) (λJ=>Bd t12 rQ/\aP yw λa=>Rf bK (a.add (toNat t12*1)) λt15=> ∃t19,ak bK (AA t 0)=some (.map t19)/\∃t21,mD Tryz.prog T.cZ (.map t19) (.I t15) false bK (.pointer t21)/\aP t21 λkz=>Rf bK (kz.add 8) λt24=>aK (λ(n_2:Int) (cK:aj)=>J n_2 cK) (λjo=>if(t24==0) then jo (wrap .i64 (n+1)) bK else jo n bK)) else R (.I n) bK):Cl F.ml #[.P t 0,.agg #[.bool dP,.U dQ,.U dR,.string dS,.string dU]] h R:=aS (lq (lq (sq (lq (bq (.loop [(5,.one (.int .i64)),(12,.one (.int .i64))] (lq (sq (cq lf lf) (sq (.join [(5,.one (.int .i64))] (bq (lq (lq (.join [(5,.one (.int .i64))] (cq lf lf)))))) lf)))))) ll))) Tryz.func103 hv
theorem kY.walk {t:Nat} (hv:aV h (.cells #[.I 0,.I 0,.I 0,.I 0,.I 0,.I 0] T.gF) λb aR=>Cl F.gw #[.P t 0] aR λv aZ=> ∃t5,v=.bool t5/\if(!t5) then gF.ST aZ (AA b 0) 0 0 0 0 0 0 λbK=>gF.LD bK (AA b 0) λoQ ia oT pH yR KT=>R (.agg #[.I oQ,.I ia,.I oT,.I pH,.I yR,.I KT]) bK else Hp aZ t 6 λt11=>Cl F.mL #[.pointer t11] aZ λeK cC=>Vi eK λt12=>Hi cC t 1 λt16=> ∃t21,ak cC (AA t 0)=some (.map t21)/\∃t22:Int,afe Tryz.prog #[T.cZ] T.int (.map t21) cC (.I t22)/\Hi cC t 2 λt29=>Hi cC t 3 λt33=>Hi cC t 4 λt37=>gF.ST cC (AA b 0) (wrap .i64 (t16 - 1)) (wrap .i64 (t22 - t12)) t12 t29 t33 t37 λcK=>gF.LD cK (AA b 0) λnG nH uC xt xu AP=>R (.agg #[.I nG,.I nH,.I uC,.I xt,.I xu,.I AP]) cK):Cl F.kY #[.P t 0] h R:=aS (lq (sq (lq (cq ll lf)) (lq (sq (pN 27) lf)))) Tryz.func17 hv
theorem rj.walk {dP:Bool} {dQ:Int} {dR:Int} {dS:ByteArray} {dU:ByteArray} {hH:bV} {fT hN:Nat} {pT:Int} (hv:aV h (.cells #[.bool dP,.U dQ,.U dR,.string dS,.string dU] T.az) λb aR=>az.LD aR (AA b 0) λRQ Ky af2 ajQ aqu=>Cl F.kF #[.agg #[.bool RQ,.U Ky,.U af2,.string ajQ,.string aqu]] aR λv aZ=> ∃t8,v=.bool t8/\if t8 then az.LD aZ (AA b 0) λzt zu ab5 ab6 ab7=> ∃(eq:Bool),Hq Tryz.prog T.az (.agg #[.bool zt,.U zu,.U ab5,.string ab6,.string ab7]) (.agg #[.bool false,.U 0,.U 0,.string ka,.string ka]) eq/\if(!eq) then if(decide ((fT:Int)≥1)) then if(decide ((fT:Int)<=600)) then R (.bool (decide (pT<=1099511627776))) aZ else R (.bool false) aZ else R (.bool false) aZ else R (.bool false) aZ else R (.bool false) aZ):Cl F.rj #[.agg #[.bool dP,.U dQ,.U dR,.string dS,.string dU],.slice hH fT hN,.U pT] h R:=aS (lq ll) Tryz.func48 hv
theorem nT.walk {t:Nat} {dP:Bool} {dQ:Int} {dR:Int} {dS:ByteArray} {dU:ByteArray} {hH:bV} {fT hN:Nat} {pT:Int} (hv:aV h (.cells #[.bool dP,.U dQ,.U dR,.string dS,.string dU] T.az) λb aR=>Cl F.gw #[.P t 0] aR λv aZ=> ∃t13,v=.bool t13/\if(!t13) then R (.tuple #[.I 0,.I 6]) aZ else az.LD aZ (AA b 0) λvM rP Nu HY Nv=>Cl F.rj #[.agg #[.bool vM,.U rP,.U Nu,.string HY,.string Nv],.slice hH fT hN,.U pT] aZ λeK bK=> ∃t19,eK=.bool t19/\if(!t19) then R (.tuple #[.I 0,.I 1]) bK else az.LD bK (AA b 0) λDY DZ RL ani anj=>Cl F.jL #[.P t 0,.agg #[.bool DY,.U DZ,.U RL,.string ani,.string anj]] bK λgS cC=> ∃iQ iy iz,gS=.slice iQ iy iz/\if(decide ((iy:Int)≥16)) then R (.tuple #[.I 0,.I 15]) cC else Hi cC t 1 λt30=> ∃t34,ak cC (AA t 1)=some (.I t34)/\aH cC (AA t 1) (.I (wrap .i64 (t34+1))) λcK=> ∃t41,ak cK (AA t 0)=some (.map t41)/\az.LD cK (AA b 0) λac9 ada adb ade adf=>Cl F.cv #[.slice hH fT hN] cK λkV cR=>Vl kV λSf Sg Xp=>fF (AA b 0) [.bool ac9,.U ada,.U adb,.string ade,.string adf] 0 cR/\ak cR (AA t 0)=some (.map t41)/\aV cR (.cells #[.I t30,.bool ac9,.U ada,.U adb,.string ade,.string adf,.slice Sf Sg Xp,.U pT,.I 0,.U 0] T.aJ) λcE cX=>fF (AA b 0) [.bool ac9,.U ada,.U adb,.string ade,.string adf] 0 cX/\ak cX (AA t 0)=some (.map t41)/\aX Tryz.prog (Instr.mapUpdate T.cZ (.map t41) (.I t30) (.P cE 0)) cX λ_ dB=>Hp dB t 5 λt53=>Cl F.kP #[.pointer t53,.I t30,.U pT] dB λou ff=> ∃t56,ou=.I t56/\R (.tuple #[.I t30,.I 0]) ff):Cl F.nT #[.P t 0,.agg #[.bool dP,.U dQ,.U dR,.string dS,.string dU],.slice hH fT hN,.U pT] h R:=aS (lq (sq (bq (lq (cq ll (lq (cq ll (lq (cq ll lf))))))) (lq (lq (sq (.mC (.op 0 (.op 1 (.op 2 (.op 3 (.op 4 (.op 5 (.op 6 (.op 7 (.op 9 (.op 8 (.op 10 (.op 11 (.op 12 .done)))))))))))))) (lq ll)))))) Tryz.func15 hv
theorem oh.walk {n:Int} (hv:if(decide (n≥1)) then R (.bool (decide (n<=1099511627776))) h else R (.bool false) h):Cl F.oh #[.I n] h R:=aS (lq ll) Tryz.func192 hv
theorem iG.walk {t:Nat} {dP:Bool} {dQ:Int} {dR:Int} {dS:ByteArray} {dU:ByteArray} {kM:Int} {deadline:Int} (hv:aV h (.cells #[.bool dP,.U dQ,.U dR,.string dS,.string dU] T.az) λb aR=>aV aR (.cells #[.I 0,.bool false,.U 0,.U 0,.string ka,.string ka,.Z,.U 0,.I 0,.U 0] T.aJ) λcE aZ=>Cl F.gw #[.P t 0] aZ λv bK=> ∃t16,v=.bool t16/\if(!t16) then aJ.ST bK (AA cE 0) 0 false 0 0 ka ka none 0 0 0 0 0 λcC=>aJ.LD cC (AA cE 0) λoQ ia oT pH yR KT aj0 aj1 aj2 aqv aqw aqx=>R (.tuple #[.agg #[.I oQ,.bool ia,.U oT,.U pH,.string yR,.string KT,.slice aj0 aj1 aj2,.U aqv,.I aqw,.U aqx],.I 6]) cC else aK (λ(t19:Bool) (cK:aj)=>if t19 then aJ.ST cK (AA cE 0) 0 false 0 0 ka ka none 0 0 0 0 0 λcR=>aJ.LD cR (AA cE 0) λnG nH uC xt xu AP adg adh adi aj3 aj4 aj5=>R (.tuple #[.agg #[.I nG,.bool nH,.U uC,.U xt,.string xu,.string AP,.slice adg adh adi,.U aj3,.I aj4,.U aj5],.I 1]) cR else az.LD cK (AA b 0) λadj Nx Xq ank anl=>Cl F.jL #[.P t 0,.agg #[.bool adj,.U Nx,.U Xq,.string ank,.string anl]] cK λeK cX=>Vl eK λpd nK pO=> ∃(I:Int->aj->Prop) (mu:Int->aj->Nat),I 0 cX/\∀(t32:Int) (dB:aj),I t32 dB->if(decide (t32<(nK:Int))) then Bd t32 nK/\aP pd λa=>Rf dB (a.add (toNat t32*1)) λt35=> ∃t39,ak dB (AA t 0)=some (.map t39)/\∃t41,mD Tryz.prog T.cZ (.map t39) (.I t35) false dB (.pointer t41)/\aP t41 λkz=> ∃t45,ak dB (kz.add 8)=some (.I t45)/\if(t45==0) then aP t41 λpF=>aH dB (pF.add 8) (.I kM) λff=>aP t41 λrZ=>aH ff (rZ.add 9) (.U deadline) λcQ=>Hp cQ t 6 λt58=>Cl F.kP #[.pointer t58,.I t35,.U deadline] cQ λgS cW=>Vi gS λt61=>aP t41 λvT=>aJ.LD cW vT λXr Ii anm ano anp anq af3 af4 af5 anr ans ant=>aV cW (.cells #[.I 0,.bool false,.U 0,.U 0,.string ka,.string ka,.Z,.U 0,.I 0,.U 0] T.aJ) λeZ dE=>aJ.ST dE (AA eZ 0) Xr Ii anm ano anp anq af3 af4 af5 anr ans ant λdG=>aP t41 λBK=>L4 dG (BK.add 6) λanu anv anw=>Cl F.cv #[.slice anu anv anw] dG λkV fD=> ∃ain aio aip,kV=.slice ain aio aip/\aH fD (AA eZ 6) (.slice ain aio aip) λgE=>aJ.LD gE (AA eZ 0) λadk adl Xs anx anz anA af6 af7 af8 anB anC anD=>aJ.ST gE (AA cE 0) adk adl Xs anx anz anA af6 af7 af8 anB anC anD λgX=>aJ.LD gX (AA cE 0) λAQ AR KV US UU UW adm adn ado aj6 aj7 aj8=>R (.tuple #[.agg #[.I AQ,.bool AR,.U KV,.U US,.string UU,.string UW,.slice adm adn ado,.U aj6,.I aj7,.U aj8],.I 0]) gX else(I (wrap .i64 (t32+1)) dB/\mu (wrap .i64 (t32+1)) dB<mu t32 dB) else aJ.ST dB (AA cE 0) 0 false 0 0 ka ka none 0 0 0 0 0 λgR=>aJ.LD gR (AA cE 0) λKW KX KY UX UY UZ adp adq adr aj9 aka akb=>R (.tuple #[.agg #[.I KW,.bool KX,.U KY,.U UX,.string UY,.string UZ,.slice adp adq adr,.U aj9,.I aka,.U akb],.I 4]) gR) (λJ=>Cl F.oh #[.I kM] bK λou fi=> ∃t21,ou=.bool t21/\if(!t21) then J true fi else J (decide (deadline>1099511627776)) fi)):Cl F.iG #[.P t 0,.agg #[.bool dP,.U dQ,.U dR,.string dS,.string dU],.I kM,.U deadline] h R:=aS (lq (sq (bq (lq (cq ll (sq (.join [(19,.one (.bool))] lf) (cq ll lf))))) (sq (lq (bq (.loop [(32,.one (.int .i64))] (lq (sq (cq lf lf) (sq (bq (lq (lq (lq (cq (lq (lq (lq (lq ll)))) lf))))) lf)))))) ll))) Tryz.func156 hv
theorem kH.walk {t:Nat} {num:Int} {kM:Int} (hv:Cl F.gw #[.P t 0] h λv aR=> ∃t10,v=.bool t10/\if(!t10) then R (.tuple #[.pointer none,.I 6]) aR else∃t16,ak aR (AA t 0)=some (.map t16)/\∃t18,mD Tryz.prog T.cZ (.map t16) (.I num) false aR (.pointer t18)/\if t18.isNone then R (.tuple #[.pointer none,.I 4]) aR else aK (λ(t20:Bool) (aZ:aj)=>if t20 then R (.tuple #[.pointer none,.I 14]) aZ else∃t47,ak aZ (AA t 0)=some (.map t47)/\∃t49,mD Tryz.prog T.cZ (.map t47) (.I num) false aZ (.pointer t49)/\R (.tuple #[.pointer t49,.I 0]) aZ) (λJ=> ∃t24,ak aR (AA t 0)=some (.map t24)/\∃t26,mD Tryz.prog T.cZ (.map t24) (.I num) false aR (.pointer t26)/\aP t26 λa=> ∃t29,ak aR (a.add 8)=some (.I t29)/\if(t29==0) then J true aR else∃t35,ak aR (AA t 0)=some (.map t35)/\∃t37,mD Tryz.prog T.cZ (.map t35) (.I num) false aR (.pointer t37)/\aP t37 λkz=> ∃t40,ak aR (kz.add 8)=some (.I t40)/\J (t40 !=kM) aR)):Cl F.kH #[.P t 0,.I num,.I kM] h R:=aS (lq (sq (bq (lq (cq ll (lq (cq ll (sq (.join [(20,.one (.bool))] lf) (cq ll lf))))))) ll)) Tryz.func165 hv
theorem kG.walk {t:Nat} {n:Int} (hv:Hp h t 6 λt7=>Cl F.gp #[.pointer t7,.I n] h λv aR=>Vi v λt9=> ∃t13,ak aR (AA t 0)=some (.map t13)/\∃t15,mD Tryz.prog T.cZ (.map t13) (.I n) false aR (.pointer t15)/\∃t19,ak aR (AA t 0)=some (.map t19)/\∃t21,mD Tryz.prog T.cZ (.map t19) (.I n) false aR (.pointer t21)/\aP t15 λa=>aH aR (a.add 8) (.I 0) λaZ=>aP t21 λkz=>aH aZ (kz.add 9) (.U 0) λbK=>R (.tuple #[]) bK):Cl F.kG #[.P t 0,.I n] h R:=aS (lq (pN 18)) Tryz.func120 hv
theorem iV.walk {t:Nat} {n:Int} (hv:Hp h t 6 λt7=>Cl F.gp #[.pointer t7,.I n] h λv aR=>Vi v λt9=>Hp aR t 5 λt13=>Cl F.gp #[.pointer t13,.I n] aR λeK aZ=>Vi eK λt15=> ∃t19,ak aZ (AA t 0)=some (.map t19)/\aX Tryz.prog (Builtin.delete_ #[T.cZ,T.int] T.J0 #[.map t19,.I n]) aZ λgS bK=>gS=.tuple #[]/\R (.tuple #[]) bK):Cl F.iV #[.P t 0,.I n] h R:=aS (lq ll) Tryz.func119 hv
theorem nY.walk {t:Nat} {num:Int} {kM:Int} (hv:Cl F.kH #[.P t 0,.I num,.I kM] h λv aR=> ∃Ih vO,v=.tuple #[.pointer Ih,.I vO]/\aK (λ(aZ:aj)=>R (.I vO) aZ) (λJ=>if(vO==0) then Cl F.iV #[.P t 0,.I num] aR λeK bK=>eK=.tuple #[]/\∃t24,ak bK (AA t 2)=some (.I t24)/\aH bK (AA t 2) (.I (wrap .i64 (t24+1))) λcC=>J cC else J aR)):Cl F.nY #[.P t 0,.I num,.I kM] h R:=aS (lq (lq (sq (lq (.join [] (cq ll lf))) ll))) Tryz.func161 hv
theorem kg.walk {t:Nat} {num:Int} {kM:Int} (hv:Cl F.kH #[.P t 0,.I num,.I kM] h λv aR=> ∃Ih vO,v=.tuple #[.pointer Ih,.I vO]/\aK (λ(aZ:aj)=>R (.I vO) aZ) (λJ=>if(vO==0) then Cl F.kG #[.P t 0,.I num] aR λeK bK=>eK=.tuple #[]/\J bK else J aR)):Cl F.kg #[.P t 0,.I num,.I kM] h R:=aS (lq (lq (sq (lq (.join [] (cq lf lf))) ll))) Tryz.func107 hv
theorem mT.walk {t:Nat} {now:Int} (hv:Cl F.gw #[.P t 0] h λv aR=> ∃t11,v=.bool t11/\if(!t11) then R (.Z) aR else Hp aR t 5 λt16=>Cl F.iP #[.pointer t16,.U now] aR λeK aZ=>Vl eK λqt pf rN=> ∃(I:Int->aj->Prop) (mu:Int->aj->Nat),I 0 aZ/\∀(t21:Int) (bK:aj),I t21 bK->if(decide (t21<(pf:Int))) then Bd t21 pf/\aP qt λa=>Rf bK (a.add (toNat t21*1)) λt24=>Cl F.iV #[.P t 0,.I t24] bK λgS cC=>gS=.tuple #[]/\∃t31,ak cC (AA t 3)=some (.I t31)/\aH cC (AA t 3) (.I (wrap .i64 (t31+1))) λcK=>(I (wrap .i64 (t21+1)) cK/\mu (wrap .i64 (t21+1)) cK<mu t21 bK) else Hp bK t 6 λt39=>Cl F.iP #[.pointer t39,.U now] bK λkV cR=>Vl kV λNf KA RT=> ∃(Kq:Int->aj->Prop) (CD:Int->aj->Nat),Kq 0 cR/\∀(t43:Int) (cX:aj),Kq t43 cX->if(decide (t43<(KA:Int))) then Bd t43 KA/\aP Nf λkz=>Rf cX (kz.add (toNat t43*1)) λt46=>Cl F.kG #[.P t 0,.I t46] cX λou dB=>ou=.tuple #[]/\(Kq (wrap .i64 (t43+1)) dB/\CD (wrap .i64 (t43+1)) dB<CD t43 cX) else R (.slice qt pf rN) cX):Cl F.mT #[.P t 0,.U now] h R:=aS (lq (sq (lq (cq ll lf)) (lq (sq (lq (bq (.loop [(21,.one (.int .i64))] (lq (sq (cq lf lf) (sq (bq (lq ll)) lf)))))) (sq (lq (bq (.loop [(43,.one (.int .i64))] (lq (sq (cq lf lf) (sq (bq ll) lf)))))) ll))))) Tryz.func53 hv
theorem mW.walk {t:Nat} {dP:Bool} {dQ:Int} {dR:Int} {dS:ByteArray} {dU:ByteArray} (hv:aV h (.cells #[.bool dP,.U dQ,.U dR,.string dS,.string dU] T.az) λb aR=>az.LD aR (AA b 0) λIP IS aaM ajY ajZ=>Cl F.jL #[.P t 0,.agg #[.bool IP,.U IS,.U aaM,.string ajY,.string ajZ]] aR λv aZ=>Vl v λyw rQ CS=> ∃(I:Int->aj->Prop) (mu:Int->aj->Nat),I 0 aZ/\∀(t13:Int) (bK:aj),I t13 bK->if(decide (t13<(rQ:Int))) then Bd t13 rQ/\aP yw λa=>Rf bK (a.add (toNat t13*1)) λt16=>Cl F.iV #[.P t 0,.I t16] bK λeK cC=>eK=.tuple #[]/\∃t23,ak cC (AA t 4)=some (.I t23)/\aH cC (AA t 4) (.I (wrap .i64 (t23+1))) λcK=>(I (wrap .i64 (t13+1)) cK/\mu (wrap .i64 (t13+1)) cK<mu t13 bK) else R (.slice yw rQ CS) bK):Cl F.mW #[.P t 0,.agg #[.bool dP,.U dQ,.U dR,.string dS,.string dU]] h R:=aS (lq (lq (sq (lq (bq (.loop [(13,.one (.int .i64))] (lq (sq (cq lf lf) (sq (bq (lq ll)) lf)))))) ll))) Tryz.func99 hv
theorem lV.walk {t:Nat} (hv:Cl F.jr #[.P t 0] h λv aR=>Vl v λyM vR AB=> ∃(I:bV->Nat->Nat->Int->aj->Prop) (mu:bV->Nat->Nat->Int->aj->Nat),I none 0 0 0 aR/\∀(kJ:bV) (kK kL:Nat) (t10:Int) (aZ:aj),I kJ kK kL t10 aZ->if(decide (t10<(vR:Int))) then Bd t10 vR/\aP yM λa=>Rf aZ (a.add (toNat t10*1)) λt13=> ∃t17,ak aZ (AA t 0)=some (.map t17)/\∃t19,mD Tryz.prog T.cZ (.map t17) (.I t13) false aZ (.pointer t19)/\aP t19 λkz=>aJ.LD aZ kz λui uj FL R7 R8 R9 af9 aga agb anE anF anG=>aV aZ (.cells #[.I 0,.bool false,.U 0,.U 0,.string ka,.string ka,.Z,.U 0,.I 0,.U 0] T.aJ) λb bK=>aJ.ST bK (AA b 0) ui uj FL R7 R8 R9 af9 aga agb anE anF anG λcC=>Hl cC b 6 λzC xg DW=>Cl F.cv #[.slice zC xg DW] cC λeK cK=> ∃iQ iy iz,eK=.slice iQ iy iz/\aH cK (AA b 6) (.slice iQ iy iz) λcR=>aJ.LD cR (AA b 0) λBw zQ ads anH anI anJ agc agd age anK anL anM=>aV cR (.cells #[.I Bw,.bool zQ,.U ads,.U anH,.string anI,.string anJ,.slice agc agd age,.U anK,.I anL,.U anM] T.aJ) λcE cX=>aX Tryz.prog (Builtin.append_ #[T.rE,T.rE] T.rE #[.slice kJ kK kL,.slice (some (AA cE 0)) 1 1]) cX λgS dB=> ∃Bm ye CA,gS=.slice Bm ye CA/\(I Bm ye CA (wrap .i64 (t10+1)) dB/\mu Bm ye CA (wrap .i64 (t10+1)) dB<mu kJ kK kL t10 aZ) else R (.slice kJ kK kL) aZ):Cl F.lV #[.P t 0] h R:=aS (lq (lq (sq (lq (bq (.loop [(3,.one (.slice)),(10,.one (.int .i64))] (lq (sq (cq lf lf) (sq (bq (lq (lq ll))) lf)))))) ll))) Tryz.func160 hv
end
section
open Go.rO
namespace hU
open qJ cu
variable {h h':aj} {t:Nat} {X:Ft}
structure Cp where
 num:Nat
 e:Ev
 d:List UInt8
 cG:Nat
 ses:Int
 dl:Nat
structure CV where
 num:Nat
 b:Nat
 e:Ev
 v:BV
 cG:Nat
 ses:Int
 dl:Nat
def CV.abs (x:CV):Cp:=⟨x.num,x.e,x.v.b,x.cG,x.ses,x.dl⟩
abbrev CV.at (h:aj) (b:Nat) (x:CV):Prop:=aJ.at h b (x.num:Int) x.e.vE x.e.node x.e.ma x.e.host x.e.sN x.v.p x.v.b.length x.v.c (x.cG:Int) x.ses (x.dl:Int)
structure CF where
 L:List Cp
 next:Nat
 iR:Nat
 over:Nat
 gone:Nat
 E1:List E
 E2:List E
abbrev jJ (n:Int):Value:=.int .i64 n
theorem aqy:MM Tryz.prog T.int jJ:=⟨λa b h=>by kernel_rfl,λe a h=>by kernel_rfl,by
 have hu:Tryz.prog.underlying T.int=some (.int .i64):=by kernel_rfl
 exact⟨_,hu,λa b=> .inr rfl⟩,λa=>by simp[Instr.sameBits]⟩
theorem zO:y9 Tryz.prog T.cZ jJ (.pointer none):=y9.of T.int T.Mb (by kernel_rfl) aqy (by kernel_rfl)
abbrev CV.pair (x:CV):Int×Value:=((x.num:Int),.pointer (some ⟨x.b,0,none⟩))
structure Cm (h:aj) (t:Nat) (X:Ft) (s:CF) (m:Nat) (xs:List CV) (a1:Nat) (S1:Nat->Prop) (a2:Nat) (S2:Nat->Prop) (fY:Nat->Option Nat):Prop where
 dF:h[t]? =some (.cells #[.map (some m),.int .i64 (s.next:Int),.int .i64 (s.iR:Int),.int .i64 (s.over:Int),.int .i64 (s.gone:Int),.pointer (some ⟨a1,0,none⟩),.pointer (some ⟨a2,0,none⟩)] T.lC (0,0))
 map:pY h m jJ (xs.map CV.pair)
 Si: ∀x∈xs,x.at h x.b
 abs:xs.map CV.abs=s.L
 PB: ∀x∈xs,x.v.ok h X.D
 U6:Al h a1 S1 s.E1
 TP:Al h a2 S2 s.E2
 l0:fY t=some 0
 l1:fY m=some 1
 l2: ∀c,S1 c->fY c=some 2
 l3: ∀c,S2 c->fY c=some 3
 l4: ∀x∈xs,fY x.b=some (4+x.num)
 mm: ∀c,X.M c↔fY c≠none
 dd: ∀c,X.D c->fY c=none/\c<h.size
 QQ: ∀c,fY c≠none->c<h.size
 so:(xs.map CV.num).Pairwise (· < ·)
def Ct (h:aj) (t:Nat) (X:Ft) (s:CF):Prop:= ∃m xs a1 S1 a2 S2 fY,Cm h t X s m xs a1 S1 a2 S2 fY
variable {s s' : CF} {m a1 a2 : Nat} {xs : List CV} {S1 S2 S1' S2' : Nat → Prop} {fY : Nat → Option Nat}
structure Kept (h':aj) (t:Nat) (X:Ft) (s:CF) (m:Nat) (xs:List CV) (a1:Nat) (S1:Nat->Prop) (a2:Nat) (S2:Nat->Prop) (k:Nat):Prop where
 dF:k≠0->h'[t]? =some (.cells #[.map (some m),.int .i64 (s.next:Int),.int .i64 (s.iR:Int),.int .i64 (s.over:Int),.int .i64 (s.gone:Int),.pointer (some ⟨a1,0,none⟩),.pointer (some ⟨a2,0,none⟩)] T.lC (0,0))
 map:k≠1->pY h' m jJ (xs.map CV.pair)
 U6:k≠2->Al h' a1 S1 s.E1
 TP:k≠3->Al h' a2 S2 s.E2
 Si: ∀x∈xs,k≠4+x.num->x.at h' x.b
 PB: ∀x∈xs,x.v.ok h' X.D
theorem Cm.vW {Q:Nat->Prop} {k:Nat} (H:Cm h t X s m xs a1 S1 a2 S2 fY) (f:Fr Q h h') (hq: ∀c,Q c->c<h.size->fY c=some k):Kept h' t X s m xs a1 S1 a2 S2 k:=by
 have no: ∀ {c j:Nat},c<h.size->fY c=some j->k≠j->¬Q c:=λhc hl hk hQ=>hk (by have:=hq _ hQ hc;rw[hl] at this;exact(bz this).symm)
 refine⟨λhk=>f.get H.dF (no (aI H.dF) H.l0 hk),λhk=>H.map.frame f (no H.map.lt H.l1 hk),λhk=> ?_,λhk=> ?_,λx hx hk=>f.get (H.Si x hx) (no (aI (H.Si x hx)) (H.l4 x hx) hk),λx hx=> ?_⟩
 ·exact H.U6.frame f (λc hc=>no (H.U6.lt hc) (H.l2 c hc) hk)
 ·exact H.TP.frame f (λc hc=>no (H.TP.lt hc) (H.l3 c hc) hk)
 ·refine(H.PB x hx).frame f (λc hc hQ=> ?_);have:=H.dd c hc;have h2:=hq c hQ this.2;rw[this.1] at h2;cases h2
theorem Cm.frame {Q:Nat->Prop} (H:Cm h t X s m xs a1 S1 a2 S2 fY) (f:Fr Q h h') (hq: ∀y,X.M y\/X.D y->¬Q y):Cm h' t X s m xs a1 S1 a2 S2 fY:=by
 have no: ∀ {c j:Nat},fY c=some j->¬Q c:=λhl=>hq _ (.inl ((H.mm _).2 (by rw[hl];simp)))
 exact⟨f.get H.dF (no H.l0),H.map.frame f (no H.l1),λx hx=>f.get (H.Si x hx) (no (H.l4 x hx)),H.abs,λx hx=>(H.PB x hx).frame f (λc hc=>hq c (.inr hc)),
  H.U6.frame f (λc hc=>no (H.l2 c hc)),H.TP.frame f (λc hc=>no (H.l3 c hc)),H.l0,H.l1,H.l2,H.l3,H.l4,H.mm,λc hc=>⟨(H.dd c hc).1,cT (H.dd c hc).2 f.1⟩,λc hc=>cT (H.QQ c hc) f.1,H.so⟩
theorem Cm.on (H:Cm h t X s m xs a1 S1 a2 S2 fY) (f:Fr No h h'):Cm h' t X s m xs a1 S1 a2 S2 fY:=H.frame f (λ_ _=>id)
theorem Ct.frame {Q:Nat->Prop} (H:Ct h t X s) (f:Fr Q h h') (hq: ∀y,X.M y\/X.D y->¬Q y):Ct h' t X s:=by
 obtain⟨m,xs,a1,S1,a2,S2,fY,H⟩:=H;exact⟨m,xs,a1,S1,a2,S2,fY,H.frame f hq⟩
theorem Ct.on (H:Ct h t X s) (f:Fr No h h'):Ct h' t X s:=H.frame f (λ_ _=>id)
theorem Ct.lt (H:Ct h t X s) (y:Nat) (hy:X.M y\/X.D y):y<h.size:=by
 obtain⟨m,xs,a1,S1,a2,S2,fY,H⟩:=H;rcases hy with hy|hy
 ·exact H.QQ y ((H.mm y).1 hy)
 ·exact(H.dd y hy).2
theorem Cm.step {Q:Nat->Prop} {k:Nat} (H:Cm h t X s m xs a1 S1 a2 S2 fY) (f:Fr Q h h') (hq: ∀c,Q c->c<h.size->fY c=some k):bN X h X h':=
 bN.E9 (f.mono λc hc hQ=>(H.mm c).2 (by rw[hq c hQ hc];simp))
theorem Cm.field (H:Cm h t X s m xs a1 S1 a2 S2 fY) (hL:s'.L=s.L) (h1:s'.E1=s.E1) (h2:s'.E2=s.E2)
  (hb:h'[t]? =some (.cells #[.map (some m),.I (s'.next:Int),.I (s'.iR:Int),.I (s'.over:Int),.I (s'.gone:Int),.P a1 0,.P a2 0] T.lC (0,0)))
  (hs:h'.size=h.size) (ho: ∀x,x≠t->h'[x]? =h[x]?):Cm h' t X s' m xs a1 S1 a2 S2 fY/\bN X h X h':=by
 have f:Fr (λc=>c=t) h h':=⟨by omega,λc _ hn=>ho c hn⟩;have hq: ∀c,c=t->c<h.size->fY c=some 0:=λc e _=>by rw[e];exact H.l0
 have K:=H.vW f hq;refine⟨⟨hb,K.map (by omega),λx hx=>K.Si x hx (by omega),H.abs.trans hL.symm,K.PB,by rw[h1];exact K.U6 (by omega),by rw[h2];exact K.TP (by omega),H.l0,H.l1,H.l2,H.l3,H.l4,H.mm,λc hc=>by rw[hs];exact H.dd c hc,λc hc=>by rw[hs];exact H.QQ c hc,H.so⟩,H.step f hq⟩
def adt (fY:Nat->Option Nat) (S:Nat->Prop) [DecidablePred S] (k:Nat):Nat->Option Nat:=λc=>if S c then some k else fY c
theorem Cm.U7 {E':List E} (H:Cm h t X s m xs a1 S1 a2 S2 fY) (A:Al h' a2 S2' E') (hS: ∀c,S2' c->S2 c\/h.size<=c) (f:Fr S2 h h') (hL:s'.L=s.L) (h1:s'.E1=s.E1) (h2:s'.E2=E') (hn:s'.next=s.next/\s'.iR=s.iR/\s'.over=s.over/\s'.gone=s.gone):
  ∃X' ku,Cm h' t X' s' m xs a1 S1 a2 S2' ku/\bN X h X' h'/\∀c,X'.M c->X.M c\/S2' c:=by
 classical
 have hq: ∀c,S2 c->c<h.size->fY c=some 3:=λc hc _=>H.l3 c hc
 have K:=H.vW f hq;have z:=f.1
 let ku:=adt fY S2' 3
 have nL: ∀ {c j:Nat},fY c=some j->j≠3->ku c=some j:=fun {c j} hl hj=>by
  show(if S2' c then some 3 else fY c)=some j;rw[ai]
  ·exact hl
  ·intro hc;rcases hS c hc with h3|h3
   ·rw[H.l3 c h3] at hl;exact hj (bz hl).symm
   ·have:=H.QQ c (by rw[hl];simp);omega
 have xx: ∀c,ku c≠none->fY c≠none\/S2' c:=λc hc=>by
  by_cases hx:S2' c
  ·exact .inr hx
  ·refine .inl ?_;have e:ku c=fY c:=ai hx;rwa[e] at hc
 have anN: ∀c,fY c≠none->ku c≠none:=λc hc=>by
  by_cases hx:S2' c
  ·have e:ku c=some 3:=ag hx;rw[e];simp
  ·have e:ku c=fY c:=ai hx;rwa[e]
 have st:bN X h ⟨λc=>ku c≠none,X.D⟩ h':=by
  refine⟨f.mono (λc hc hx=>(H.mm c).2 (by rw[H.l3 c hx];simp)),λc hc=> ?_,λc hc=> .inl hc,λc hc=>hc⟩;rcases xx c hc with h3|h3
  ·exact .inl ((H.mm c).2 h3)
  ·rcases hS c h3 with h4|h4
   ·exact .inl ((H.mm c).2 (by rw[H.l3 c h4];simp))
   ·exact .inr h4
 refine⟨⟨λc=>ku c≠none,X.D⟩,ku,⟨?_,K.map (by omega),λx hx=>K.Si x hx (by omega),H.abs.trans hL.symm,K.PB,by rw[h1];exact K.U6 (by omega),by rw[h2];exact A,nL H.l0 (by omega),nL H.l1 (by omega),λc hc=>nL (H.l2 c hc) (by omega),λc hc=>ag hc,λx hx=>nL (H.l4 x hx) (by omega),λc=>fZ,λc hc=> ?_,λc hc=> ?_,H.so⟩,st,λc hc=>(xx c hc).imp (λh=>(H.mm c).2 h) id⟩
 ·rw[hn.1,hn.2.1,hn.2.2.1,hn.2.2.2];exact K.dF (by omega)
 ·have:=H.dd c hc;refine⟨?_,by omega⟩;show(if S2' c then some 3 else fY c)=none;rw[ai]
  ·exact this.1
  ·intro hx;rcases hS c hx with h3|h3
   ·rw[H.l3 c h3] at this;cases this.1
   ·omega
 ·rcases xx c hc with h3|h3
  ·have:=H.QQ c h3;omega
  ·exact A.lt h3
theorem Cm.U9 {E':List E} (H:Cm h t X s m xs a1 S1 a2 S2 fY) (A:Al h' a1 S1' E') (hS: ∀c,S1' c->S1 c\/h.size<=c) (f:Fr S1 h h') (hL:s'.L=s.L) (h1:s'.E1=E') (h2:s'.E2=s.E2) (hn:s'.next=s.next/\s'.iR=s.iR/\s'.over=s.over/\s'.gone=s.gone):
  ∃X' ku,Cm h' t X' s' m xs a1 S1' a2 S2 ku/\bN X h X' h'/\∀c,X'.M c->X.M c\/S1' c:=by
 classical
 have hq: ∀c,S1 c->c<h.size->fY c=some 2:=λc hc _=>H.l2 c hc
 have K:=H.vW f hq;have z:=f.1
 let ku:=adt fY S1' 2
 have nL: ∀ {c j:Nat},fY c=some j->j≠2->ku c=some j:=fun {c j} hl hj=>by
  show(if S1' c then some 2 else fY c)=some j;rw[ai]
  ·exact hl
  ·intro hc;rcases hS c hc with h3|h3
   ·rw[H.l2 c h3] at hl;exact hj (bz hl).symm
   ·have:=H.QQ c (by rw[hl];simp);omega
 have xx: ∀c,ku c≠none->fY c≠none\/S1' c:=λc hc=>by
  by_cases hx:S1' c
  ·exact .inr hx
  ·refine .inl ?_;have e:ku c=fY c:=ai hx;rwa[e] at hc
 have st:bN X h ⟨λc=>ku c≠none,X.D⟩ h':=by
  refine⟨f.mono (λc hc hx=>(H.mm c).2 (by rw[H.l2 c hx];simp)),λc hc=> ?_,λc hc=> .inl hc,λc hc=>hc⟩;rcases xx c hc with h3|h3
  ·exact .inl ((H.mm c).2 h3)
  ·rcases hS c h3 with h4|h4
   ·exact .inl ((H.mm c).2 (by rw[H.l2 c h4];simp))
   ·exact .inr h4
 refine⟨⟨λc=>ku c≠none,X.D⟩,ku,⟨?_,K.map (by omega),λx hx=>K.Si x hx (by omega),H.abs.trans hL.symm,K.PB,by rw[h1];exact A,by rw[h2];exact K.TP (by omega),nL H.l0 (by omega),nL H.l1 (by omega),λc hc=>ag hc,λc hc=>nL (H.l3 c hc) (by omega),λx hx=>nL (H.l4 x hx) (by omega),λc=>fZ,λc hc=> ?_,λc hc=> ?_,H.so⟩,st,λc hc=>(xx c hc).imp (λh=>(H.mm c).2 h) id⟩
 ·rw[hn.1,hn.2.1,hn.2.2.1,hn.2.2.2];exact K.dF (by omega)
 ·have:=H.dd c hc;refine⟨?_,by omega⟩;show(if S1' c then some 2 else fY c)=none;rw[ai]
  ·exact this.1
  ·intro hx;rcases hS c hx with h3|h3
   ·rw[H.l2 c h3] at this;cases this.1
   ·omega
 ·rcases xx c hc with h3|h3
  ·have:=H.QQ c h3;omega
  ·exact A.lt h3
theorem Cm.del {n:Int} (H:Cm h t X s m xs a1 S1 a2 S2 fY) (M:pY h' m jJ (GC (xs.map CV.pair) n)) (hs:h'.size=h.size) (ho: ∀c,c≠m->h'[c]? =h[c]?) (hL:s'.L=s.L.filter (λx=> !decide ((x.num:Int)=n))) (h1:s'.E1=s.E1) (h2:s'.E2=s.E2) (hn:s'.next=s.next/\s'.iR=s.iR/\s'.over=s.over/\s'.gone=s.gone):
  Cm h' t X s' m (xs.filter (λx=> !decide ((x.num:Int)=n))) a1 S1 a2 S2 fY/\bN X h X h':=by
 have f:Fr (λc=>c=m) h h':=⟨by omega,λc _ hn=>ho c hn⟩;have hq: ∀c,c=m->c<h.size->fY c=some 1:=λc e _=>by rw[e];exact H.l1
 have K:=H.vW f hq;have sub: ∀x∈xs.filter (λx=> !decide ((x.num:Int)=n)),x∈xs:=λx hx=>(aY.1 hx).1
 refine⟨⟨?_,?_,λx hx=>K.Si x (sub x hx) (by omega),?_,λx hx=>K.PB x (sub x hx),by rw[h1];exact K.U6 (by omega),by rw[h2];exact K.TP (by omega),H.l0,H.l1,H.l2,H.l3,λx hx=>H.l4 x (sub x hx),H.mm,λc hc=>by rw[hs];exact H.dd c hc,λc hc=>by rw[hs];exact H.QQ c hc,H.so.sublist (cV.map _)⟩,H.step f hq⟩
 ·rw[hn.1,hn.2.1,hn.2.2.1,hn.2.2.2];exact K.dF (by omega)
 ·unfold GC at M;rw[eM] at M;exact M
 ·rw[hL,<-H.abs,eM];rfl
theorem Cm.change {x y:CV} (H:Cm h t X s m xs a1 S1 a2 S2 fY) (hx:x∈xs) (hb:y.b=x.b) (IM:y.num=x.num) (hv:y.v=x.v) (hy:y.at h' x.b) (hs:h'.size=h.size) (ho: ∀c,c≠x.b->h'[c]? =h[c]?)
  (hL:s'.L=s.L.map (λz=>if z.num=x.num then y.abs else z)) (h1:s'.E1=s.E1) (h2:s'.E2=s.E2) (hn:s'.next=s.next/\s'.iR=s.iR/\s'.over=s.over/\s'.gone=s.gone):
  Cm h' t X s' m (xs.map (λz=>if z.num=x.num then y else z)) a1 S1 a2 S2 fY/\bN X h X h':=by
 have f:Fr (λc=>c=x.b) h h':=⟨by omega,λc _ hn=>ho c hn⟩;have hq: ∀c,c=x.b->c<h.size->fY c=some (4+x.num):=λc e _=>by rw[e];exact H.l4 x hx
 have K:=H.vW f hq;have mem: ∀z∈xs.map (λz=>if z.num=x.num then y else z),(z=y)\/(z∈xs/\z.num≠x.num):=λz hz=>by
  obtain⟨u,hu,rfl⟩:=bn.1 hz;by_cases e:u.num=x.num
  ·rw[ag e];exact .inl rfl
  ·rw[ai e];exact .inr ⟨hu,e⟩
 have pe:(xs.map (λz=>if z.num=x.num then y else z)).map CV.pair=xs.map CV.pair:=by
  rw[fH];refine fW λz hz=> ?_
  show CV.pair (if z.num=x.num then y else z)=z.pair;by_cases e:z.num=x.num
  ·rw[ag e];have:z=x:=by
    obtain⟨i,hi⟩:=bH hz;obtain⟨j,hj⟩:=bH hx;have Re:(xs.map CV.num).Nodup:=H.so.imp (λh=>Nat.ne_of_lt h);have MK:=(aG.1 hi).1;have:=(fV (l:=xs.map CV.num) (i:=i) (j:=j) (by simpa using MK) Re).1 (by rw[aO,aO,hi,hj];simp[e]);subst this;rw[hi] at hj;exact bz hj
   subst this;unfold CV.pair;rw[IM,hb]
  ·rw[ai e]
 refine⟨⟨?_,?_,λz hz=> ?_,?_,λz hz=> ?_,by rw[h1];exact K.U6 (by omega),by rw[h2];exact K.TP (by omega),H.l0,H.l1,H.l2,H.l3,λz hz=> ?_,H.mm,λc hc=>by rw[hs];exact H.dd c hc,λc hc=>by rw[hs];exact H.QQ c hc,?_⟩,H.step f hq⟩
 ·rw[hn.1,hn.2.1,hn.2.2.1,hn.2.2.2];exact K.dF (by omega)
 ·rw[pe];exact K.map (by omega)
 ·rcases mem z hz with rfl|⟨hz,e⟩
  ·rw[hb];exact hy
  ·exact K.Si z hz (by omega)
 ·rw[hL,<-H.abs,fH,fH];refine fW λz _=> ?_
  show CV.abs (if z.num=x.num then y else z)=if z.num=x.num then y.abs else z.abs
  split<;>rfl
 ·rcases mem z hz with rfl|⟨hz,_⟩
  ·rw[hv];exact K.PB x hx
  ·exact K.PB z hz
 ·rcases mem z hz with rfl|⟨hz,_⟩
  ·rw[hb,IM];exact H.l4 x hx
  ·exact H.l4 z hz
 ·have:(xs.map (λz=>if z.num=x.num then y else z)).map CV.num=xs.map CV.num:=by
   rw[fH];refine fW λz _=> ?_
   show CV.num (if z.num=x.num then y else z)=z.num;split
   ·rename_i e;rw[IM,e]
   ·rfl
  rw[this];exact H.so
theorem Cm.add {y:CV} {h1 h2:aj} (H:Cm h t X s m xs a1 S1 a2 S2 fY) (f1:Fr No h h1) (hy:y.at h1 y.b) (hyb:h.size<=y.b) (aqz:Row h1 y.v.p (bc y.v.b)) (OQ:y.v.b.length<=y.v.c) (hdn: ∀c,aQ y.v.p c->h.size<=c/\c≠y.b/\c<h1.size) (IM: ∀x∈xs,x.num<y.num)
  (M:pY h2 m jJ (Rp (xs.map CV.pair) (y.num:Int) (.P y.b 0))) (hs:h2.size=h1.size) (ho: ∀c,c≠m->h2[c]? =h1[c]?)
  (hL:s'.L=s.L++ [y.abs]) (e1:s'.E1=s.E1) (e2:s'.E2=s.E2) (hn:s'.next=s.next/\s'.iR=s.iR/\s'.over=s.over/\s'.gone=s.gone):
  ∃X' ku,Cm h2 t X' s' m (xs++ [y]) a1 S1 a2 S2 ku/\bN X h X' h2:=by
 classical
 have z1:=f1.1;have H1:=H.on f1;have f2:Fr (λc=>c=m) h1 h2:=⟨by omega,λc _ hn=>ho c hn⟩;have hq: ∀c,c=m->c<h1.size->fY c=some 1:=λc e _=>by rw[e];exact H.l1
 have K:=H1.vW f2 hq;have yb1:=aI hy
 let ku:=adt fY (λc=>c=y.b) (4+y.num)
 have adu: ∀c,c≠y.b->ku c=fY c:=λc hc=>ai hc
 have aqA:ku y.b=some (4+y.num):=ag rfl;have ynl: ∀ {c:Nat},fY c≠none->c≠y.b:=fun {c} hc e=>by have:=H.QQ c hc;omega
 have nL: ∀ {c j:Nat},fY c=some j->ku c=some j:=fun {c j} hl=>by rw[adu c (ynl (by rw[hl];simp))];exact hl
 let D':=λc=>X.D c\/(y.v.b≠ []/\aQ y.v.p c)
 have ymn:y.b≠m:=λe=>by have:=H.map.lt;omega
 have K2: ∀c,D' c->ku c=none/\c<h2.size:=λc hc=>by
  rcases hc with hc|⟨_,hc⟩
  ·have:=H.dd c hc;rw[adu c (by omega)];exact⟨this.1,by omega⟩
  ·have:=hdn c hc;rw[adu c this.2.1];refine⟨?_,by omega⟩;cases e:fY c with
   |none=>rfl
   |some j=>have:=H.QQ c (by rw[e];simp);omega
 refine⟨⟨λc=>ku c≠none,D'⟩,ku,⟨?_,?_,λx hx=> ?_,?_,λx hx=> ?_,by rw[e1];exact K.U6 (by omega),by rw[e2];exact K.TP (by omega),nL H.l0,nL H.l1,λc hc=>nL (H.l2 c hc),λc hc=>nL (H.l3 c hc),λx hx=> ?_,λc=>fZ,K2,λc hc=> ?_,?_⟩,?_⟩
 ·rw[hn.1,hn.2.1,hn.2.2.1,hn.2.2.2];exact K.dF (by omega)
 ·refine M.perm ?_;unfold Rp;rw[Dp (λe he=>by obtain⟨x,hx,rfl⟩:=bn.1 he;have:=IM x hx;show¬((x.num:Int)=(y.num:Int));omega),bm];exact(List.perm_append_comm (arO:= [CV.pair y]) (arP:=xs.map CV.pair))
 ·rcases bU.1 hx with hx|hx
  ·exact K.Si x hx (by omega)
  ·obtain rfl:=bW.1 hx;exact f2.get hy ymn
 ·rw[hL,<-H.abs,bm];rfl
 ·rcases bU.1 hx with hx|hx
  ·exact(K.PB x hx).mono (λc hc=> .inl hc)
  ·obtain rfl:=bW.1 hx;refine⟨aqz.frame f2 (λa e hm=> ?_),λkB c hc=> .inr ⟨kB,hc⟩,OQ⟩;have h1:=(hdn a.block ⟨a,e,rfl⟩).1;have h2:=H.map.lt;have h3:a.block=m:=hm;omega
 ·rcases bU.1 hx with hx|hx
  ·exact nL (H.l4 x hx)
  ·obtain rfl:=bW.1 hx;exact aqA
 ·by_cases e:c=y.b
  ·subst e;omega
  ·rw[adu c e] at hc;have:=H.QQ c hc;omega
 ·rw[bm,List.pairwise_append];refine⟨H.so,by simp,λa ha b hb=> ?_⟩;obtain⟨x,hx,rfl⟩:=bn.1 ha;simp at hb;subst hb;exact IM x hx
 ·refine⟨?_,λc hc=> ?_,λc hc=> ?_,λc hc=> .inl hc⟩
  ·have f12:Fr (λc=>c=m) h h2:=Fr.no f1 f2;exact f12.mono (λc _ e=>(H.mm c).2 (by rw[e,H.l1];simp))
  ·by_cases e:c=y.b
   ·exact .inr (by omega)
   ·have hc:ku c≠none:=hc;rw[adu c e] at hc;exact .inl ((H.mm c).2 hc)
  ·rcases hc with hc|⟨_,hc⟩
   ·exact .inl hc
   ·exact .inr (hdn c hc).1
end hU
end
end Go.Proofs.YtlenamcfacpheaaGreatDoor
namespace Go.Proofs
open Go.Den
open IntKind (wrap)
open Int (toNat)
section
open Go.Shelf
def Tryz.aaN:Go.Shelf.Ren:=⟨fun|5=>134|8=>183|7=>185|19=>222|20=>223|10=>224|11=>225|12=>226|13=>227|14=>228|15=>229|16=>230|17=>231|18=>232|30=>272|31=>268|32=>269|33=>273|34=>274|35=>275|40=>306|n=>n,fun|23=>105|25=>3|3=>3|32=>211|22=>105|0=>0|44=>315|46=>27|4=>4|36=>309|35=>308|41=>253|5=>5|9=>9|53=>366|57=>369|63=>400|64=>401|n=>n,fun|n=>n⟩
theorem Tryz.aiq:Go.Proofs.SlLaysM.n5 Tryz.prog Tryz.aaN:= {
 mixed:=by kernel_rfl
 f5:=⟨Tryz.f134.name,by decide,Tryz.func134.trans (bp some (by kernel_rfl))⟩
 f7:=⟨Tryz.f185.name,by decide,Tryz.func185.trans (bp some (by kernel_rfl))⟩
 f8:=Tryz.func183.trans (bp some (by kernel_rfl))
 f10:=⟨Tryz.f224.name,by decide,Tryz.func224.trans (bp some (by kernel_rfl))⟩
 f11:=⟨Tryz.f225.name,by decide,Tryz.func225.trans (bp some (by kernel_rfl))⟩
 f12:=⟨Tryz.f226.name,by decide,Tryz.func226.trans (bp some (by kernel_rfl))⟩
 f13:=⟨Tryz.f227.name,by decide,Tryz.func227.trans (bp some (by kernel_rfl))⟩
 f14:=⟨Tryz.f228.name,by decide,Tryz.func228.trans (bp some (by kernel_rfl))⟩
 f15:=⟨Tryz.f229.name,by decide,Tryz.func229.trans (bp some (by kernel_rfl))⟩
 f16:=⟨Tryz.f230.name,by decide,Tryz.func230.trans (bp some (by kernel_rfl))⟩
 f17:=⟨Tryz.f231.name,by decide,Tryz.func231.trans (bp some (by kernel_rfl))⟩
 f18:=⟨Tryz.f232.name,by decide,Tryz.func232.trans (bp some (by kernel_rfl))⟩
 f19:=Tryz.func222.trans (bp some (by kernel_rfl))
 f20:=Tryz.func223.trans (bp some (by kernel_rfl))
 f30:=⟨Tryz.f272.name,by decide,Tryz.func272.trans (bp some (by kernel_rfl))⟩
 f31:=Tryz.func268.trans (bp some (by kernel_rfl))
 f32:=Tryz.func269.trans (bp some (by kernel_rfl))
 f33:=⟨Tryz.f273.name,by decide,Tryz.func273.trans (bp some (by kernel_rfl))⟩
 f34:=⟨Tryz.f274.name,by decide,Tryz.func274.trans (bp some (by kernel_rfl))⟩
 f35:=⟨Tryz.f275.name,by decide,Tryz.func275.trans (bp some (by kernel_rfl))⟩
 f40:=⟨Tryz.f306.name,by decide,Tryz.func306.trans (bp some (by kernel_rfl))⟩
 t0:=Tryz.underlying0
 a0:=Tryz.isAgg0
 z0:=Tryz.sizeOf0
 v0:=Tryz.zeroValue0
 t3:=Tryz.underlying3
 a3:=Tryz.isAgg3
 z3:=Tryz.sizeOf3
 v3:=Tryz.zeroValue3
 t4:=Tryz.underlying4
 a4:=Tryz.isAgg4
 z4:=Tryz.sizeOf4
 v4:=Tryz.zeroValue4
 t5:=Tryz.underlying5
 a5:=Tryz.isAgg5
 z5:=Tryz.sizeOf5
 v5:=Tryz.zeroValue5
 t9:=Tryz.underlying9
 a9:=Tryz.isAgg9
 z9:=Tryz.sizeOf9
 v9:=Tryz.zeroValue9
 t22:=Tryz.underlying105
 a22:=Tryz.isAgg105
 z22:=Tryz.sizeOf105
 v22:=Tryz.zeroValue105
 t23:=Tryz.underlying105
 a23:=Tryz.isAgg105
 z23:=Tryz.sizeOf105
 v23:=Tryz.zeroValue105
 t25:=Tryz.underlying3
 a25:=Tryz.isAgg3
 z25:=Tryz.sizeOf3
 v25:=Tryz.zeroValue3
 t32:=Tryz.underlying211
 a32:=Tryz.isAgg211
 z32:=Tryz.sizeOf211
 v32:=Tryz.zeroValue211
 t35:=Tryz.underlying308
 a35:=Tryz.isAgg308
 z35:=Tryz.sizeOf308
 v35:=Tryz.zeroValue308
 t36:=Tryz.underlying309
 a36:=Tryz.isAgg309
 z36:=Tryz.sizeOf309
 v36:=Tryz.zeroValue309
 t41:=Tryz.underlying253
 a41:=Tryz.isAgg253
 z41:=Tryz.sizeOf253
 v41:=Tryz.zeroValue253
 t44:=Tryz.underlying315
 a44:=Tryz.isAgg315
 z44:=Tryz.sizeOf315
 v44:=Tryz.zeroValue315
 t46:=Tryz.underlying27
 a46:=Tryz.isAgg27
 z46:=Tryz.sizeOf27
 v46:=Tryz.zeroValue27
 t53:=Tryz.underlying366
 a53:=Tryz.isAgg366
 z53:=Tryz.sizeOf366
 v53:=Tryz.zeroValue366
 t57:=Tryz.underlying369
 a57:=Tryz.isAgg369
 z57:=Tryz.sizeOf369
 v57:=Tryz.zeroValue369
 t63:=Tryz.underlying400
 a63:=Tryz.isAgg400
 z63:=Tryz.sizeOf400
 v63:=Tryz.zeroValue400
 t64:=Tryz.underlying401
 a64:=Tryz.isAgg401
 z64:=Tryz.sizeOf401
 v64:=Tryz.zeroValue401 }
end
end Go.Proofs
namespace Go.Proofs.YtlenamcfacpheaaGreatDoor
open Go.Den
open IntKind (wrap)
open Int (toNat)
section
open Go.Sort
namespace Srt
variable {h:aj} {R:iI} {p:bV} {n c:Nat} {xs:List Int}
abbrev iv (x:Int):Value:=.int .i64 x
theorem agf (o:iS h p n c 1 (xs.map iv)) (hl:n=xs.length) (nd:xs.Nodup) (hn:n<=60000) (hk: ∀h' (zs:List Int),iS h' p n c 1 (zs.map iv)->zs.Perm xs->zs.Pairwise (· < ·)->Fr (aQ p) h h'->R (.tuple #[]) h'):
  Cl F.tX #[.slice p n c] h R:=by
 subst hl;intro w hw;cases o with
 |nil hp h0 hc BG=>
  obtain rfl:=List.eq_nil_of_length_eq_zero h0;refine(AnyM.slices_Sort_int_none Tryz.aiq p c w).mono ?_;rintro e w' ⟨rfl,rfl⟩;exact⟨_,rfl,hk _ [] (by rw[hw];exact .nil hp rfl hc rfl) (.refl _) .nil (by rw[hw];exact Fr.refl _ _),iC.refl _⟩
 |row b off ca t hp hb h1 hc h2 BG=>
  subst hp;subst hw;have ET: ∀(zs:List Int) (j:Nat),j<zs.length->zs.toArray[j]! =zs.getD j 0:=λzs j hj=>by
   simp[getElem!_pos,hj]
  refine(AnyM.slices_Sort_int Tryz.aiq b off c xs w (λj hj=> ?_) (aI hb) (by omega)).mono ?_
  ·have hj:j<xs.length:=by simpa using hj
   refine⟨?_,by rw[Gn];exact xZ hb⟩;rw[uE,wk hb,ET xs j hj];exact BG j _ (by rw[aO,au hj,ba,au hj];rfl)
  ·rintro e w' ⟨rfl,k,os,rfl⟩;have pm:=List.mergeSort_perm xs λx y=>decide (x<=y)
   have so:(xs.mergeSort λx y=>decide (x<=y)).Pairwise (· < ·):=by
    have s1:=List.pairwise_mergeSort (le:=λ(x y:Int)=>decide (x<=y)) (λa b c h1 h2=>by simp at h1 h2⊢;omega) (λa b=>by simp;omega) xs;have s2:(xs.mergeSort λx y=>decide (x<=y)).Nodup:=pm.nodup_iff.2 nd;exact(s1.and s2).imp fun {a b} h=>by have:=of_decide_eq_true h.1;have:=h.2;omega
   generalize (xs.mergeSort λx y=>decide (x<=y))=zs at pm so⊢;have hz:zs.length=xs.length:=pm.length_eq;have hold: ∀x,x<w.heap.size->x≠b->(w.heap.modify b (onCells (putCells (Value.int .i64) off zs.toArray))++os)[x]? =w.heap[x]? :=λx hx kB=>by
    rw[eY (by simpa using hx),fE,ai (λe=>kB e.symm)]
   have ajH:(w.heap.modify b (onCells (putCells (Value.int .i64) off zs.toArray))++os)[b]? =some (.cells (putCells (Value.int .i64) off zs.toArray ca) t (0,0)):=by
    rw[eY (by simpa using aI hb),fE,ag rfl,hb];rfl
   refine⟨_,rfl,hk _ zs (.row b off _ t rfl ajH h1 (by unfold putCells;rw[Array.size_mapIdx];exact hc) (by simp[hz]) λj v hj=> ?_) pm so ?_,⟨rfl,rfl,rfl⟩⟩
   ·rw[aO] at hj;have Cg:j<zs.length:=by
     rcases Nat.lt_or_ge j zs.length with q|q
     ·exact q
     ·rw[eH q] at hj;cases hj
    rw[au Cg] at hj;obtain rfl:=bz hj;unfold putCells;have hs:off+j<ca.size:=by omega
    rw[Array.getElem?_mapIdx,Array.getElem?_eq_getElem hs,dz,ag ⟨by omega,by simp;omega⟩,show off+j - off=j by omega,ET zs j Cg,ba,au Cg];rfl
   ·refine⟨by show _<=(w.heap.modify b _++os).size;simp,λx hx hn=>hold x hx (λe=>hn ⟨_,rfl,e.symm⟩)⟩
end Srt
end
section
open Go.rO
namespace hU
open qJ cu
variable {h h':aj} {R:iI} {t:Nat} {X:Ft} {s:CF} {m a1 a2:Nat} {xs:List CV} {S1 S2:Nat→Prop} {fY:Nat→Option Nat} {p:bV} {n c:Nat}
theorem uSI:Tryz.prog.underlying T.Fe=some (.slice T.int):=by kernel_rfl
theorem ji (H:Cm h t X s m xs a1 S1 a2 S2 fY) (hk:R (.bool true) h):Cl F.gw #[.P t 0] h R:=gw.walk ⟨_,af H.dF rfl,hk⟩
def tV (xs:List CV):List Int:=xs.map (λx=>(x.num:Int))
theorem Jf (H:Cm h t X s m xs a1 S1 a2 S2 fY):(tV xs).Pairwise (· < ·):=by
 have:=H.so;rw[gj] at this;unfold tV;rw[gj];exact this.imp (λh=>by omega)
theorem K1 (H:Cm h t X s m xs a1 S1 a2 S2 fY) (hl:xs.length<=60000) (hk: ∀h' p' c',iS h' p' xs.length c' 1 ((tV xs).map jJ)->(∀y,aQ p' y->h.size<=y)->Fr No h h'->R (.slice p' xs.length c') h'):
  Cl F.jr #[.P t 0] h R:=by
 refine jr.walk (ji H ⟨_,rfl,aK.of λJ hJ=> ?_⟩);rw[ag rfl];refine⟨_,af H.dF rfl,Ug zO H.map λit h1 e1 I1 f1=>⟨_,rfl,?_⟩⟩;refine⟨λop ol oc g=> ∃ds:List (Int×Value),ol=ds.length/\iS g op ol oc 1 ((ds.map (·.1)).map jJ)/\(∀y,aQ op y->h.size<=y/\y≠it)/\Iter g it m jJ (xs.map CV.pair) ds/\Fr No h g,λ_ ol _ _=>xs.length - ol,
  ⟨[],rfl,.nil rfl rfl rfl rfl,(λy ⟨a,e,_⟩=>by cases e),I1,f1⟩,?_⟩
 rintro op ol oc g ⟨ds,rfl,oy,gy,Iy,fy⟩;have hle:=Iy.le;rw[aN] at hle;refine aak Iy (λhp=> .inl ⟨rfl,?_⟩) (λa v g1 hm hnm I1 s1 o1=> .inr ⟨_,_,rfl,?_⟩)
 ·subst hJ;dsimp only;have air:(ds.map (·.1)).Perm (tV xs):=by
   have:=hp.map (·.1);rw[fH] at this;exact this
  have so:=Jf H;have nd:(ds.map (·.1)).Nodup:=air.nodup_iff.2 (so.imp (λh=>by omega));have hlen:ds.length=xs.length:=by rw[hp.length_eq,aN]
  refine Srt.agf oy (by rw[aN]) nd (by omega) λh3 zs o3 p3 s3 f3=>⟨rfl,?_⟩
  have:zs=tV xs:=List.Perm.eq_of_pairwise (le:=(· < ·)) (λa b _ _ h1 h2=>by omega) s3 so (p3.trans air);subst this;rw[hlen] at o3⊢;exact hk h3 op oc o3 (λy hy=>(gy y hy).1) (fy.fresh f3 (λy hy=>(gy y hy).1))
 ·refine Uh I1 ⟨_,_,rfl,_,rfl,cY ?_⟩;have f3:Fr No g1 (g1.push (.cells #[.I a] T.int)):=Fr.push _ _;have r3:Row (g1.push (.cells #[.I a] T.int)) (some (AA g1.size 0)) [jJ a]:=rW (cs:= [jJ a]);have z3:(g1.push (.cells #[.I a] T.int)).size=g1.size+1:=fP _;generalize g1.push (.cells #[.I a] T.int)=g3 at f3 r3 z3⊢;have fit:Fr (λy=>y=it) g g1:=⟨by omega,λy _ hn=>o1 y hn⟩;have oy1:=(oy.frame fit (λy hy e=>(gy y hy).2 e)).frame f3 (λ_ _=>id);have zf:=f1.1;have F1:Fr No h g1:=fy.fresh fit (λy e=>by omega);have F3:=F1.tt f3;have arQ:it<g1.size:=by
   obtain⟨_,_,_,_,_,_,hr,_⟩:=I1;exact aI hr
  refine fR (cs:=(ds.map (·.1)).map jJ) (ds:= [jJ a]) tI uSI oy1 r3 rfl (λv hv=>by simp at hv;subst hv;rfl) (by omega) (by omega) λp4 c4 g4 o4 _ f4 k4=>⟨_,_,_,rfl,?_⟩
  have hp4: ∀y,aQ p4 y->h.size<=y/\y≠it:=by
   intro y hy;rcases k4 y hy with h5|h5
   ·exact gy y h5
   ·have:=F1.1;exact⟨by omega,by omega⟩
  refine⟨⟨ds++ [(a,v)],by simp,?_,hp4,?_,F3.fresh f4 (λy hy=>(gy y hy).1)⟩,?_⟩
  ·rw[bm,bm];exact o4
  ·have hmb:m<h.size:=H.map.lt;exact(I1.frame f3 id id).frame f4 (λhy=>(gy it hy).2 rfl) (λhy=>by have:=(gy m hy).1;omega)
  ·have:=I1.le;rw[aF,aN,fk] at this;show xs.length - (ds.length+1)<xs.length - ds.length;omega
theorem look (H:Cm h t X s m xs a1 S1 a2 S2 fY) {x:CV} (hx:x∈xs):mD Tryz.prog T.cZ (.map (some m)) (.I (x.num:Int)) false h (.P x.b 0):=by
 have:=V9 zO H.map (x.num:Int);have e:DH (xs.map CV.pair) (x.num:Int)=some (.P x.b 0):=(MP H.map.nodup).2 (bn.2 ⟨x,hx,rfl⟩);rw[e] at this;exact this
theorem agh (H:Cm h t X s m xs a1 S1 a2 S2 fY) {n:Int} (hn: ∀x∈xs,(x.num:Int)≠n):mD Tryz.prog T.cZ (.map (some m)) (.I n) false h (.pointer none):=by
 have:=V9 zO H.map n;have e:DH (xs.map CV.pair) n=none:=MO.2 (λe he=>by obtain⟨x,hx,rfl⟩:=bn.1 he;exact hn x hx);rw[e] at this;exact this
structure Env (h:aj) (t:Nat) (m:Nat) (xs:List CV) (c0 c1:Nat) (x:Ev):Prop where
 b0:h[c0]? =some (.cells #[.pointer (some ⟨t,0,none⟩)] T.my (0,0))
 b1:Ev.at h c1 x
 cm: ∃X s a1 S1 a2 S2 fY,Cm h t X s m xs a1 S1 a2 S2 fY
variable {c0 c1 : Nat} {x : Ev}
theorem adv (V:Env h t m xs c0 c1 x) {y:CV} (hy:y∈xs) (hk:R (.bool (!decide (y.e=x))) h):Cl F.fQ #[.I (y.num:Int),.P c0 0,.P c1 0] h R:=by
 obtain⟨X,s,a1,S1,a2,S2,fY,H⟩:=V.cm;have ca:=H.Si y hy;refine fQ.walk ⟨_,af V.b0 rfl,aB.2 ⟨_,af H.dF rfl,_,look H hy,aB.2 ⟨_,af ca rfl,_,af ca rfl,_,af ca rfl,_,af ca rfl,_,af ca rfl,?_⟩⟩⟩;exact az.ld V.b1 ⟨_,IE (x:=y.e) (y:=x) rfl rfl,hk⟩
def tL (xs:List CV) (x:Ev) (n:Int):Bool:=xs.any (λy=>decide ((y.num:Int)=n) && decide (y.e=x))
theorem GU (so:(tV xs).Pairwise (· < ·)) {y:CV} (hy:y∈xs):tL xs x (y.num:Int)=decide (y.e=x):=by
 unfold tL;by_cases e:y.e=x
 ·rw[ay e,List.any_eq_true];exact⟨y,hy,by simp[e]⟩
 ·rw[decide_eq_false e,List.any_eq_false];intro z hz;simp only[aW,bf,not_and];intro hn;have:z=y:=by
   obtain⟨i,hi⟩:=bH hz;obtain⟨j,hj⟩:=bH hy;have Re:(tV xs).Nodup:=so.imp (λh=>by omega);have MK:=(aG.1 hi).1;have:=(fV (l:=tV xs) (i:=i) (j:=j) (by simpa[tV] using MK) Re).1 (by unfold tV;rw[aO,aO,hi,hj];simp[hn]);subst this;rw[hi] at hj;exact bz hj
  rw[this];exact e
theorem akc {ns:List Int} (V:Env h t m xs c0 c1 x) (o:iS h p n c 1 (ns.map jJ)) (hn:n=ns.length) (hb:n<=60000) (hs: ∀k∈ns,∃y∈xs,k=(y.num:Int))
  (k1: ∀i,i<n->(∀j,j<i->∀k,ns[j]? =some k->tL xs x k=true)->(∀k,ns[i]? =some k->tL xs x k=false)->R (.I (i:Int)) h) (k2:(∀k∈ns,tL xs x k=true)->R (.I (-1)) h):
  Cl F.dO #[.slice p n c,.func (.func F.fQ) #[] #[.P c0 0,.P c1 0]] h R:=by
 subst hn;have so:(tV xs).Pairwise (· < ·):=by obtain⟨X,s,a1,S1,a2,S2,fY,H⟩:=V.cm;exact Jf H
 refine dO.of.walk ?_;refine⟨λu g=>g=h/\∃i:Nat,u=(i:Int)/\i<=ns.length/\∀j,j<i->∀k,ns[j]? =some k->tL xs x k=true,λu _=>ns.length - u.toNat,⟨rfl,0,rfl,cp _,λj hj=>by omega⟩,?_⟩;rintro _ g ⟨rfl,i,rfl,hi,kA⟩;by_cases jc:i<ns.length
 ·rw[jy];have hk:ns[i]? =some ns[i]:=au jc;generalize ns[i]=k at hk;obtain⟨y,hy,rfl⟩:=hs k (bt hk);obtain⟨ab,ao,rfl⟩:=o.addr (by omega);have cc:=o.cell (j:=i) (v:=jJ (y.num:Int)) (by rw[aO,hk];rfl);simp only[aL,cO];refine⟨⟨by omega,by omega⟩,aB.2 ⟨_,cc,adv V hy ⟨_,rfl,?_⟩⟩⟩;have kn:=GU (x:=x) so hy;by_cases e:y.e=x
  ·rw[ay e,dM,bL (by omega) (by omega)];rw[ay e] at kn;refine⟨⟨rfl,i+1,by omega,by omega,λj hj k hk2=> ?_⟩,by show ns.length - Int.toNat ((i:Int)+1)<ns.length - i;omega⟩;by_cases ej:j=i
   ·subst ej;rw[hk] at hk2;cases hk2;exact kn
   ·exact kA j (by omega) k hk2
  ·rw[decide_eq_false e,jy];rw[decide_eq_false e] at kn;exact k1 i jc kA (λk hk2=>by rw[hk] at hk2;cases hk2;exact kn)
 ·rw[ai (by simp;omega)];exact k2 (λk hk=>by
   obtain⟨j,hj⟩:=bH hk;exact kA j (by have:=(aG.1 hj).1;omega) k hj)
theorem UO {ns:List Int} (V:Env h t m xs c0 c1 x) (o:iS h p n c 1 (ns.map jJ)) (hn:n=ns.length) (hb:n<=60000) (hs: ∀k∈ns,∃y∈xs,k=(y.num:Int))
  (hV: ∀g,Fr (aQ p) h g->Env g t m xs c0 c1 x)
  (hk: ∀h' c',iS h' p (ns.filter (tL xs x)).length c' 1 ((ns.filter (tL xs x)).map jJ)->Fr (aQ p) h h'->R (.slice p (ns.filter (tL xs x)).length c') h'):
  Cl F.ir #[.slice p n c,.func (.func F.fQ) #[] #[.P c0 0,.P c1 0]] h R:=by
 subst hn;have so:(tV xs).Pairwise (· < ·):=by obtain⟨X,s,a1,S1,a2,S2,fY,H⟩:=V.cm;exact Jf H
 have one: ∀v∈((.I 0:Value)).cells.toList,jg v=true:=λv hv=>by
  have:v=.I 0:=by simpa[Value.cells] using hv
  subst this;rfl
 refine ir.of.walk (akc V o rfl hb hs (λi hi kA Gw=>⟨_,rfl,?_⟩) (λkA=>⟨_,rfl,?_⟩))
 ·rw[ai (by intro h;have h:=eq_of_beq h;omega),bL (by omega) (by omega)];have Sj:(ns.take i).filter (tL xs x)=ns.take i:=by
   rw[cI];intro k hk2;obtain⟨j,hj⟩:=bH hk2;rw[dt] at hj;split at hj
   ·rename_i BE;exact kA j BE k hj
   ·cases hj
  have ais:(ns.take (i+1)).filter (tL xs x)=ns.take i:=by
   have hk:ns[i]? =some ns[i]:=au hi;rw[bZ,hk,iE,Sj];simp[Gw _ hk]
  refine⟨λu w g=> ∃(i j:Nat) (vs:List Int),u=(i:Int)/\w=(j:Int)/\i<=j/\j<=ns.length/\vs.length=ns.length/\iS g p ns.length c 1 (vs.map jJ)/\vs.take i=(ns.take j).filter (tL xs x)/\(∀q,j<=q->vs[q]? =ns[q]?)/\Fr (aQ p) h g,λ_ w _=>ns.length - w.toNat,
   ⟨i,i+1,ns,rfl,by omega,by omega,by omega,rfl,o,ais.symm,λ_ _=>rfl,Fr.refl _ _⟩,?_⟩
  clear Sj ais kA Gw;rintro _ _ g ⟨i,j,vs,rfl,rfl,hij,hj,hl,ov,hta,hdr,fg⟩;have MK:((ns.take j).filter (tL xs x)).length=i:=by rw[<-hta,bR];omega
  by_cases jc:j<ns.length
  ·rw[jy];refine aK.of λJ hJ=> ?_
   have hnj:ns[j]? =some ns[j]:=au jc;generalize ns[j]=k at hnj;obtain⟨y,hy,rfl⟩:=hs k (bt hnj);obtain⟨ab,ao,rfl⟩:=ov.addr (by omega);have hkv:vs[j]? =some (y.num:Int):=by rw[hdr j (bh _)];exact hnj
   have cc:=ov.cell (j:=j) (v:=jJ (y.num:Int)) (by rw[aO,hkv];rfl);simp only[aL,cO];have kn:=GU (x:=x) so hy;have tk:(ns.take (j+1)).filter (tL xs x)=(ns.take j).filter (tL xs x)++(if y.e=x then [(y.num:Int)] else []):=by
    rw[bZ,hnj,iE];congr 1
    show [(y.num:Int)].filter (tL xs x)=_;rw[cD,kn];by_cases e:y.e=x<;>simp[e]
   refine⟨⟨by omega,by omega⟩,aB.2 ⟨_,cc,adv (hV g fg) hy ⟨_,rfl,aK.of λJ1 pB=> ?_⟩⟩⟩;by_cases e:y.e=x
   ·rw[ay e,jy];rw[ag e] at tk;refine⟨⟨by omega,by omega⟩,aB.2 (ov.store (by rw[aN];omega) λg2 o2 s2 q2=> ?_)⟩;subst pB;subst hJ;have e2:(vs.map jJ).set i (.I (y.num:Int))=(vs.set i (y.num:Int)).map jJ:=by rw[List.map_set]
    rw[e2] at o2;dsimp only;rw[bL (n:=(i:Int)+1) (by omega) (by omega),bL (n:=(j:Int)+1) (by omega) (by omega)];refine⟨⟨i+1,j+1,_,by omega,by omega,by omega,by omega,by rw[eX];exact hl,o2,?_,λq hq=> ?_,fg.tt ⟨by omega,λz _ hn=>q2 z hn⟩⟩,by show ns.length - Int.toNat ((j:Int)+1)<ns.length - j;omega⟩
    ·rw[tk,<-hta,bZ,List.getElem?_set_self (by omega)];congr 1
     apply im
     intro q;rw[dt,dt];split
     ·rw[List.getElem?_set_ne (by omega)]
     ·rfl
    ·rw[List.getElem?_set_ne (by omega)];exact hdr q (by omega)
   ·rw[decide_eq_false e,dM];rw[ai e,List.append_nil] at tk;subst pB;subst hJ;dsimp only;rw[bL (n:=(j:Int)+1) (by omega) (by omega)];exact⟨⟨i,j+1,vs,rfl,by omega,by omega,by omega,hl,ov,by rw[tk,hta],λq hq=>hdr q (by omega),fg⟩,by show ns.length - Int.toNat ((j:Int)+1)<ns.length - j;omega⟩
  ·rw[ai (by simp;omega)];obtain rfl:j=ns.length:=by omega
   rw[iF] at hta MK;simp only[aL,Nat.sub_zero];refine⟨⟨by omega,by omega⟩,MJ tI one ov (by omega) λg2 o2 f2=>⟨rfl,⟨by omega,by have:=ov.le;omega⟩,?_⟩⟩;rw[sy];rw[cO,<-List.map_take,hta] at o2;have:=hk g2 c (by rw[MK];exact o2) (fg.tt f2);rw[MK] at this;exact this
 ·rw[ag (by rfl)];have e:ns.filter (tL xs x)=ns:=by rw[cI];exact kA
  have:=hk h c (by rw[e];exact o) (Fr.refl _ _);rw[e] at this;exact this
theorem aaO (so:(tV xs).Pairwise (· < ·)):(tV xs).filter (tL xs x)=tV (xs.filter (λy=>decide (y.e=x))):=by
 unfold tV;rw[eM];congr 1
 exact fG (λy hy=>GU so hy)
theorem Ns (H:Cm h t X s m xs a1 S1 a2 S2 fY) (x:Ev) (hl:xs.length<=60000) (hk: ∀h' p' c',iS h' p' (xs.filter (λy=>decide (y.e=x))).length c' 1 ((tV (xs.filter (λy=>decide (y.e=x)))).map jJ)->(∀y,aQ p' y->h.size<=y)->Fr No h h'->R (.slice p' (xs.filter (λy=>decide (y.e=x))).length c') h'):
  Cl F.jL #[.P t 0,uH x] h R:=by
 refine jL.walk (cY ?_);have f1:Fr No h (h.push (.cells #[.P t 0] T.my)):=Fr.push _ _;have b1:(h.push (.cells #[.P t 0] T.my))[h.size]? =some (.cells #[.P t 0] T.my (0,0)):=cA;have z1:(h.push (.cells #[.P t 0] T.my)).size=h.size+1:=fP _;generalize h.push (.cells #[.P t 0] T.my)=h1 at f1 b1 z1⊢;refine az.box λc1 h2 e2 fJ f2=>⟨_,af (f2.get b1 id) rfl,?_⟩
 have z2:=aI fJ;refine K1 (H.on (f1.tt f2)) hl λh3 p3 l3 o3 g3 f3=>⟨_,_,_,rfl,?_⟩
 have F3:=f1.tt (f2.tt f3);have H3:=H.on F3;have zf:=f2.1;have V3:Env h3 t m xs h.size c1 x:=⟨(f2.tt f3).get b1 id,f3.get fJ id,X,s,a1,S1,a2,S2,fY,H3⟩;have hV: ∀g,Fr (aQ p3) h3 g->Env g t m xs h.size c1 x:=λg fg=>
  ⟨fg.get V3.b0 (λhy=>by have:=g3 _ hy;omega),fg.get V3.b1 (λhy=>by have:=g3 _ hy;omega),X,s,a1,S1,a2,S2,fY,H3.frame fg (λy hy nR=>by
   have h1:=g3 y nR;have h2:y<h.size:=(Ct.lt (s:=s) ⟨m,xs,a1,S1,a2,S2,fY,H⟩ y hy);omega)⟩
 have nl:(tV xs).length=xs.length:=by unfold tV;rw[aN]
 refine UO V3 o3 nl.symm hl (λk hk2=>by
  obtain⟨y,hy,rfl⟩:=bn.1 hk2;exact⟨y,hy,rfl⟩) hV λh4 c4 o4 f4=>⟨_,_,_,rfl,?_⟩
 have en:=aaO (x:=x) (Jf H);have el:((tV xs).filter (tL xs x)).length=(xs.filter (λy=>decide (y.e=x))).length:=by rw[en];unfold tV;rw[aN]
 rw[el] at o4⊢;rw[en] at o4;exact hk h4 p3 c4 o4 (λy hy=>by have:=g3 y hy;omega) (F3.fresh f4 (λy hy=>by have:=g3 y hy;omega))
end hU
end
section
open Go.rO
namespace hU
open qJ cu vg
variable {h h':aj} {R:iI} {t:Nat} {X:Ft} {s s':CF} {m a1 a2:Nat} {xs:List CV} {S1 S2:Nat→Prop} {fY:Nat→Option Nat} {n c:Nat}
def K3 (L:List Cp) (n:Int):List Cp:=L.filter (λx=> !decide ((x.num:Int)=n))
def zR (L:List Cp) (n:Nat) (ses:Int) (dl:Nat):List Cp:=L.map (λx=>if x.num=n then { x with ses:=ses,dl:=dl } else x)
def PI (s:CF) (n:Int):CF:= { s with L:=K3 s.L n,E1:=iH s.E1 n,E2:=iH s.E2 n }
def CZ (s:CF) (n:Nat):CF:= { s with L:=zR s.L n 0 0,E2:=iH s.E2 (n:Int) }
theorem zK (L:List E) (k:Int):(iH L k).length<=L.length:=cJ _ _
structure Small (s:CF):Prop where
 n:s.next<=50000
 l:s.L.length<=50000
 e1:s.E1.length<=50000
 e2:s.E2.length<=50000
theorem Cm.len (H:Cm h t X s m xs a1 S1 a2 S2 fY):xs.length=s.L.length:=by rw[<-H.abs,aN]
theorem pE (hk: ∀h' t X,Ct h' t X ⟨[],1,0,0,0, [], []⟩->UpF h X h'->R (.P t 0) h'):Cl F.wR #[] h R:=by
 classical
 refine wR.walk (cY ?_);have f1:Fr No h (h.push (.map #[] 0)):=Fr.push _ _;have M1:=pY.push (α:=Int) h jJ;have z1:(h.push (.map #[] 0)).size=h.size+1:=fP _;generalize h.push (.map #[] 0)=h1 at f1 M1 z1⊢;refine cu.pE λa1 S1 h2 A1 g1 f2=>⟨_,rfl,cu.pE λa2 S2 h3 A2 g2 f3=>⟨_,rfl,cY ?_⟩⟩
 have f4:Fr No h3 (h3.push (.cells #[.map (some h.size),.I 1,.I 0,.I 0,.I 0,.P a1 0,.P a2 0] T.lC)):=Fr.push _ _;have z2:=f2.1;have z3:=f3.1;have z4:(h3.push (.cells #[.map (some h.size),.I 1,.I 0,.I 0,.I 0,.P a1 0,.P a2 0] T.lC)).size=h3.size+1:=fP _;have b4:(h3.push (.cells #[.map (some h.size),.I 1,.I 0,.I 0,.I 0,.P a1 0,.P a2 0] T.lC))[h3.size]? =some (.cells #[.map (some h.size),.I 1,.I 0,.I 0,.I 0,.P a1 0,.P a2 0] T.lC (0,0)):=cA;generalize h3.push (.cells #[.map (some h.size),.I 1,.I 0,.I 0,.I 0,.P a1 0,.P a2 0] T.lC)=h4 at f4 z4 b4⊢;have l1: ∀c,S1 c->h1.size<=c/\c<h2.size:=λc hc=>⟨g1 c hc,A1.lt hc⟩
 have l2: ∀c,S2 c->h2.size<=c/\c<h3.size:=λc hc=>⟨g2 c hc,A2.lt hc⟩
 let fY:Nat->Option Nat:=λc=>if c=h3.size then some 0 else if c=h.size then some 1 else if S1 c then some 2 else if S2 c then some 3 else none
 have akd: ∀c,S1 c->fY c=some 2:=λc hc=>by
  have:=l1 c hc;show(if c=h3.size then some 0 else if c=h.size then some 1 else if S1 c then some 2 else if S2 c then some 3 else none)=_;rw[dM,dM,ag hc]
 have anO: ∀c,S2 c->fY c=some 3:=λc hc=>by
  have h5:=l2 c hc;show(if c=h3.size then some 0 else if c=h.size then some 1 else if S1 c then some 2 else if S2 c then some 3 else none)=_;rw[dM,dM,ai (λh6=>by have:=l1 c h6;omega),ag hc]
 have anP: ∀c,fY c≠none->h.size<=c/\c<h4.size:=λc hc=>by
  by_cases c1:c=h3.size
  ·omega
  by_cases c2:c=h.size
  ·omega
  by_cases c3:S1 c
  ·have:=l1 c c3;omega
  by_cases c4:S2 c
  ·have:=l2 c c4;omega
  exact absurd (show(if c=h3.size then some 0 else if c=h.size then some 1 else if S1 c then some 2 else if S2 c then some 3 else none)=none by rw[ai c1,ai c2,ai c3,ai c4]) hc
 refine hk h4 h3.size ⟨λc=>fY c≠none,λ_=>False⟩ ⟨h.size, [],a1,S1,a2,S2,fY,⟨b4,(M1.frame (f2.tt f3) id).frame f4 id,(λx hx=>by cases hx),rfl,(λx hx=>by cases hx),A1.frame (f3.tt f4) (λ_ _=>id),A2.frame f4 (λ_ _=>id),ag rfl,?_,akd,anO,(λx hx=>by cases hx),λc=>fZ,λc hc=>hc.elim,λc hc=>(anP c hc).2,.nil⟩⟩ ⟨f1.tt (f2.tt (f3.tt f4)),λc hc=> ?_⟩
 ·show(if h.size=h3.size then some 0 else if h.size=h.size then some 1 else if S1 h.size then some 2 else if S2 h.size then some 3 else none)=some 1;rw[dM,ag rfl]
 ·rcases hc with hc|hc
  ·exact(anP c hc).1
  ·exact hc.elim
theorem ait (H:Cm h t X s m xs a1 S1 a2 S2 fY) (hn:s.E2.length<1000000) (k:Int) (hk: ∀h' X' ku (e:Int),Cm h' t X' { s with E2:=iH s.E2 k } m xs a1 S1 a2 S2 ku->bN X h X' h'->R (.I e) h'):
  Cl F.gp #[.P a2 0,.I k] h R:=by
 refine cu.AK H.TP hn k (λ_ h1 A1 f1=> ?_) (λGw=> ?_)
 ·obtain⟨X',ku,H',st,_⟩:=H.U7 (s':= { s with E2:=iH s.E2 k }) A1 (λc hc=> .inl hc) f1 rfl rfl rfl ⟨rfl,rfl,rfl,rfl⟩;exact hk h1 X' ku 0 H' st
 ·have e:({ s with E2:=iH s.E2 k } :CF)=s:=by rw[si Gw]
  exact hk h X fY 4 (by rw[e];exact H) (bN.refl _ _)
theorem anQ (H:Cm h t X s m xs a1 S1 a2 S2 fY) (hn:s.E1.length<1000000) (k:Int) (hk: ∀h' X' ku (e:Int),Cm h' t X' { s with E1:=iH s.E1 k } m xs a1 S1 a2 S2 ku->bN X h X' h'->R (.I e) h'):
  Cl F.gp #[.P a1 0,.I k] h R:=by
 refine cu.AK H.U6 hn k (λ_ h1 A1 f1=> ?_) (λGw=> ?_)
 ·obtain⟨X',ku,H',st,_⟩:=H.U9 (s':= { s with E1:=iH s.E1 k }) A1 (λc hc=> .inl hc) f1 rfl rfl rfl ⟨rfl,rfl,rfl,rfl⟩;exact hk h1 X' ku 0 H' st
 ·have e:({ s with E1:=iH s.E1 k } :CF)=s:=by rw[si Gw]
  exact hk h X fY 4 (by rw[e];exact H) (bN.refl _ _)
theorem zP (H:Ct h t X s) (sm:Small s) (k:Int) (hk: ∀h' X',Ct h' t X' (PI s k)->bN X h X' h'->R (.tuple #[]) h'):
  Cl F.iV #[.P t 0,.I k] h R:=by
 obtain⟨m,xs,a1,S1,a2,S2,fY,H⟩:=H;have:=sm.e1;have:=sm.e2;refine iV.walk ⟨_,af H.dF rfl,ait H (by omega) k λh1 X1 akd _ H1 st1=>⟨_,rfl,_,af H1.dF rfl,anQ H1 (by show s.E1.length<_;omega) k λh2 X2 anO _ H2 AG=>⟨_,rfl,_,af H2.dF rfl,Rs zO H2.map (k:=k) λh3 M3 s3 o3=>⟨rfl,?_⟩⟩⟩⟩;obtain⟨H3,Gk⟩:=H2.del (s':=PI s k) M3 s3 o3 rfl rfl rfl ⟨rfl,rfl,rfl,rfl⟩;exact hk h3 X2 ⟨_,_,_,_,_,_,_,H3⟩ (st1.trans (AG.trans Gk))
theorem EH (H:Cm h t X s m xs a1 S1 a2 S2 fY) {z:Cp} (hz:z∈s.L): ∃x∈xs,x.abs=z:=by
 rw[<-H.abs] at hz;obtain⟨x,hx,e⟩:=bn.1 hz;exact⟨x,hx,e⟩
theorem Cm.Ny {x:CV} {ses:Int} {dl:Nat} {K:aj->Prop} (H:Cm h t X s m xs a1 S1 a2 S2 fY) (hx:x∈xs)
  (hk: ∀h',Cm h' t X { s with L:=zR s.L x.num ses dl } m (xs.map (λz=>if z.num=x.num then { x with ses:=ses,dl:=dl } else z)) a1 S1 a2 S2 fY->bN X h X h'->K h'):
  aH h (((AA x.b 0):Addr).add 8) (.I ses) λh1=>aH h1 (((AA x.b 0):Addr).add 9) (.U (dl:Int)) K:=by
 rw[kC,kC];have hb:=H.Si x hx;refine bM hb (by simp) λh1 c1 s1 o1=>bM c1 (by simp) λh2 c2 s2 o2=> ?_
 have hy:({ x with ses:=ses,dl:=dl } :CV).at h2 x.b:=c2;obtain⟨H2,st⟩:=H.change (s':= { s with L:=zR s.L x.num ses dl }) (y:= { x with ses:=ses,dl:=dl }) hx rfl rfl rfl hy (by omega) (λc hc=>by rw[o2 c hc,o1 c hc]) (by
  show zR s.L x.num ses dl=_;unfold zR;refine fW λz hz=> ?_
  by_cases e:z.num=x.num
  ·rw[ag e,ag e];obtain⟨u,hu,rfl⟩:=EH H hz;have e:u.num=x.num:=e;have:u=x:=by
    obtain⟨i,hi⟩:=bH hu;obtain⟨j,hj⟩:=bH hx;have Re:(xs.map CV.num).Nodup:=H.so.imp (λh=>Nat.ne_of_lt h);have MK:=(aG.1 hi).1;have:=(fV (l:=xs.map CV.num) (i:=i) (j:=j) (by simpa using MK) Re).1 (by rw[aO,aO,hi,hj];simp[e]);subst this;rw[hi] at hj;exact bz hj
   rw[this];rfl
  ·rw[ai e,ai e]) rfl rfl ⟨rfl,rfl,rfl,rfl⟩
 exact hk h2 H2 st
theorem Xt (H:Ct h t X s) (sm:Small s) {z:Cp} (hz:z∈s.L) (hk: ∀h' X',Ct h' t X' (CZ s z.num)->bN X h X' h'->R (.tuple #[]) h'):
  Cl F.kG #[.P t 0,.I (z.num:Int)] h R:=by
 obtain⟨m,xs,a1,S1,a2,S2,fY,H⟩:=H;obtain⟨x,hx,rfl⟩:=EH H hz;have:=sm.e2;refine kG.walk ⟨_,af H.dF rfl,ait H (by omega) _ λh1 X1 akd _ H1 st1=>⟨_,rfl,_,af H1.dF rfl,_,look H1 hx,_,af H1.dF rfl,_,look H1 hx,?_⟩⟩;refine aB.2 (H1.Ny (ses:=0) (dl:=0) hx λh2 H2 AG=>hk h2 X1 ⟨_,_,_,_,_,_,_,H2⟩ (st1.trans AG))
def GV (L:List Cp) (n:Int):Option Cp:=L.find? (λx=>decide ((x.num:Int)=n))
theorem GW {L:List Cp} {n:Int} {z:Cp} (h:GV L n=some z):z∈L/\(z.num:Int)=n:=⟨List.mem_of_find?_eq_some h,by simpa using List.find?_some h⟩
theorem aaP {L:List Cp} {n:Int} :GV L n=none↔ ∀z∈L,(z.num:Int)≠n:=by unfold GV;simp
def pV (L:List Cp) (n ses:Int):Int:=match GV L n with|none=>4|some z=>if z.ses=0\/z.ses≠ses then 14 else 0
theorem oR (H:Ct h t X s) (num ses:Int) (hk: ∀q,R (.tuple #[.pointer q,.I (pV s.L num ses)]) h):
  Cl F.kH #[.P t 0,.I num,.I ses] h R:=by
 obtain⟨m,xs,a1,S1,a2,S2,fY,H⟩:=H;refine kH.walk (ji H ⟨_,rfl,?_⟩);rw[dM];unfold pV at hk;cases hg:GV s.L num with
 |none=>
  rw[hg] at hk;have Gw: ∀x∈xs,(x.num:Int)≠num:=λx hx=>aaP.1 hg x.abs (by rw[<-H.abs];exact bB hx)
  refine⟨_,af H.dF rfl,_,agh H Gw,?_⟩;rw[ag (by rfl)];exact hk none
 |some z=>
  rw[hg] at hk;dsimp only at hk;obtain⟨hz,rfl⟩:=GW hg;obtain⟨x,hx,rfl⟩:=EH H hz;have L:=look H hx;have ca:=H.Si x hx;refine⟨_,af H.dF rfl,_,L,?_⟩;rw[ai (by simp)];refine aK.of λJ hJ=>⟨_,af H.dF rfl,_,L,aB.2 ⟨_,af ca rfl,?_⟩⟩
  have bad:(x.ses=0\/x.ses≠ses)->J true h:=λhb=>by
   subst hJ;simp only[bA];have:=hk none;have e:(if x.abs.ses=0\/x.abs.ses≠ses then(14:Int) else 0)=14:=ag hb;rwa[e] at this
  by_cases h0:x.ses=0
  ·rw[ag (by simpa using h0)];exact bad (.inl h0)
  ·rw[ai (by simpa using h0)];refine⟨_,af H.dF rfl,_,L,aB.2 ⟨_,af ca rfl,?_⟩⟩;by_cases h1:x.ses=ses
   ·have e:(x.ses !=ses)=false:=by simp[h1]
    rw[e];subst hJ;simp only[aA,aU];refine⟨_,af H.dF rfl,_,L,?_⟩;have e2:(if x.abs.ses=0\/x.abs.ses≠ses then(14:Int) else 0)=0:=ai (λhb=>by
     rcases hb with hb|hb
     ·exact h0 hb
     ·exact hb h1)
    have:=hk (some (AA x.b 0));rwa[e2] at this
   ·have e:(x.ses !=ses)=true:=by simpa using h1
    rw[e];exact bad (.inr h1)
def vY (s:CF) (n ses:Int):CF:=if pV s.L n ses=0 then { PI s n with iR:=s.iR+1 } else s
theorem Ct.bump (H:Ct h t X s) {K:aj->Prop} (hs:s.iR<=100000) (hk: ∀h',Ct h' t X { s with iR:=s.iR+1 } ->bN X h X h'->K h'):
  ∃(u:Int),ak h (AA t 2)=some (.I u)/\aH h (AA t 2) (.I (IntKind.wrap .i64 (u+1))) K:=by
 obtain⟨m,xs,a1,S1,a2,S2,fY,H⟩:=H;refine⟨_,af H.dF rfl,bM H.dF (by simp) λh1 c1 s1 o1=> ?_⟩;rw[bL (by omega) (by omega)] at c1;obtain⟨H1,st⟩:=H.field (s':= { s with iR:=s.iR+1 }) rfl rfl rfl c1 s1 o1;exact hk h1 ⟨_,_,_,_,_,_,_,H1⟩ st
theorem Ct.anR (H:Ct h t X s) {K:aj->Prop} (hs:s.over<=100000) (hk: ∀h',Ct h' t X { s with over:=s.over+1 } ->bN X h X h'->K h'):
  ∃(u:Int),ak h (AA t 3)=some (.I u)/\aH h (AA t 3) (.I (IntKind.wrap .i64 (u+1))) K:=by
 obtain⟨m,xs,a1,S1,a2,S2,fY,H⟩:=H;refine⟨_,af H.dF rfl,bM H.dF (by simp) λh1 c1 s1 o1=> ?_⟩;rw[bL (by omega) (by omega)] at c1;obtain⟨H1,st⟩:=H.field (s':= { s with over:=s.over+1 }) rfl rfl rfl c1 s1 o1;exact hk h1 ⟨_,_,_,_,_,_,_,H1⟩ st
theorem Ct.anS (H:Ct h t X s) {K:aj->Prop} (hs:s.gone<=100000) (hk: ∀h',Ct h' t X { s with gone:=s.gone+1 } ->bN X h X h'->K h'):
  ∃(u:Int),ak h (AA t 4)=some (.I u)/\aH h (AA t 4) (.I (IntKind.wrap .i64 (u+1))) K:=by
 obtain⟨m,xs,a1,S1,a2,S2,fY,H⟩:=H;refine⟨_,af H.dF rfl,bM H.dF (by simp) λh1 c1 s1 o1=> ?_⟩;rw[bL (by omega) (by omega)] at c1;obtain⟨H1,st⟩:=H.field (s':= { s with gone:=s.gone+1 }) rfl rfl rfl c1 s1 o1;exact hk h1 ⟨_,_,_,_,_,_,_,H1⟩ st
theorem Va (H:Ct h t X s) (sm:Small s) (ha:s.iR<=100000) (num ses:Int) (hk: ∀h' X',Ct h' t X' (vY s num ses)->bN X h X' h'->R (.I (pV s.L num ses)) h'):
  Cl F.nY #[.P t 0,.I num,.I ses] h R:=by
 refine nY.walk (oR H num ses λq=>⟨_,_,rfl,aK.of λJ hJ=> ?_⟩);by_cases e:pV s.L num ses=0
 ·rw[ag (by simpa using e)];refine zP H sm num λh1 X1 H1 st1=>⟨rfl,H1.bump ha λh2 H2 AG=> ?_⟩
  subst hJ;exact hk h2 X1 (by unfold vY;rw[ag e];exact H2) (st1.trans AG)
 ·rw[ai (by simpa using e)];subst hJ;exact hk h X (by unfold vY;rw[ai e];exact H) (bN.refl _ _)
def IT (s:CF) (n ses:Int):CF:=if pV s.L n ses=0 then CZ s n.toNat else s
theorem Vc (H:Ct h t X s) (sm:Small s) (num ses:Int) (hk: ∀h' X',Ct h' t X' (IT s num ses)->bN X h X' h'->R (.I (pV s.L num ses)) h'):
  Cl F.kg #[.P t 0,.I num,.I ses] h R:=by
 refine kg.walk (oR H num ses λq=>⟨_,_,rfl,aK.of λJ hJ=> ?_⟩);by_cases e:pV s.L num ses=0
 ·rw[ag (by simpa using e)];obtain⟨z,hz⟩: ∃z,GV s.L num=some z:=by
   cases hg:GV s.L num with
   |none=>unfold pV at e;rw[hg] at e;cases e
   |some z=>exact⟨z,rfl⟩
  obtain⟨hzm,rfl⟩:=GW hz;refine Xt H sm hzm λh1 X1 H1 st1=>⟨rfl,?_⟩
  subst hJ;exact hk h1 X1 (by unfold IT;rw[ag e,aL];exact H1) st1
 ·rw[ai (by simpa using e)];subst hJ;exact hk h X (by unfold IT;rw[ai e];exact H) (bN.refl _ _)
end hU
end
section
namespace gK
open lJ (It)
open qJ (Ev)
variable {h h':aj} {s j:Nat} {X:Ft}
structure SS where
 A:List gU.gU
 G:List j8.Rg
 C:hU.CF
 B:lJ.BS
 Q:List It
 e:Ev
 tm:Nat
 sq:Nat
 now:Nat
 rf:Nat
structure GX where
 t:Nat
 r:Nat
 c:Nat
 o:Nat
 p:Nat
 k:Nat
abbrev Mk (h:aj) (k:Nat) (e:Ev) (tm sq:Nat):Prop:=h[k]? =some (.cells #[.bool e.vE,.int .u64 e.node,.int .u64 e.ma,.string e.host,.string e.sN,.int .u64 (tm:Int),.int .u64 (sq:Int),.bool true] T.HM (0,0))
abbrev Bk (h:aj) (s:Nat) (I:GX) (now rf:Nat):Prop:=h[s]? =some (.cells #[pt I.t,pt I.r,pt I.c,pt I.o,pt I.p,pt I.k,.int .u64 (now:Int),.int .i64 (rf:Int)] T.sJ (0,0))
def part (σ:SS) (I:GX) (s:Nat) (i:Nat) (h:aj) (X:Ft):Prop:=match i with
 |0=>gU.Has h I.t X σ.A
 |1=>j8.Tb h I.r X σ.G
 |2=>hU.Ct h I.c X σ.C
 |3=>lJ.Nt h I.o X σ.B
 |4=> ∃m,Pu h I.p m σ.Q/\only X λy=>y=I.p\/y=m
 |5=>Mk h I.k σ.e σ.tm σ.sq/\only X λy=>y=I.k
 |6=>Bk h s I σ.now σ.rf/\only X λy=>y=s
 |_=> ∀y,¬In X y
theorem part.lt {σ:SS} {I:GX} {i:Nat} (H:part σ I s i h X) (y:Nat) (hy:In X y):y<h.size:=by
 rcases i with _|_|_|_|_|_|_|i
 ·exact gU.Has.lt H y hy
 ·exact j8.Tb.lt H y hy
 ·exact hU.Ct.lt H y hy
 ·exact lJ.Nt.lt H y hy
 ·obtain⟨m,P,o⟩:=H;rcases hy with hy|hy
  ·rcases(o y).1.1 hy with rfl|rfl
   ·exact P.lt.1
   ·exact P.lt.2
  ·exact absurd hy (o y).2
 ·obtain⟨P,o⟩:=H;rcases hy with hy|hy
  ·rw[(o y).1.1 hy];exact aI P
  ·exact absurd hy (o y).2
 ·obtain⟨P,o⟩:=H;rcases hy with hy|hy
  ·rw[(o y).1.1 hy];exact aI P
  ·exact absurd hy (o y).2
 ·exact absurd hy (H y)
theorem part.frame {σ:SS} {I:GX} {i:Nat} {Q:Nat->Prop} (H:part σ I s i h X) (f:Fr Q h h') (hq: ∀y,In X y->¬Q y):part σ I s i h' X:=by
 rcases i with _|_|_|_|_|_|_|i
 ·exact gU.Has.frame H f hq
 ·exact j8.Tb.frame H f hq
 ·exact hU.Ct.frame H f hq
 ·exact lJ.Nt.frame H f hq
 ·obtain⟨m,P,o⟩:=H;exact⟨m,P.frame f (hq _ (.inl ((o _).1.2 (.inl rfl)))) (hq _ (.inl ((o _).1.2 (.inr rfl)))),o⟩
 ·obtain⟨P,o⟩:=H;exact⟨f.get P (hq _ (.inl ((o _).1.2 rfl))),o⟩
 ·obtain⟨P,o⟩:=H;exact⟨f.get P (hq _ (.inl ((o _).1.2 rfl))),o⟩
 ·exact H
theorem part.GL {σ:SS} {I:GX} {i:Nat} (H:part σ I s i h X) (y:Nat) (hm:X.M y) (hd:X.D y):False:=by
 rcases i with _|_|_|_|_|_|_|i
 ·exact gU.Has.GL H y hm hd
 ·obtain⟨m,H⟩:=H;exact H.d y hd
 ·obtain⟨m,xs,a1,S1,a2,S2,fY,H⟩:=H;exact(H.mm y).1 hm (H.dd y hd).1
 ·obtain⟨L,⟨lp,lc,xs,a,S,H⟩,_⟩:=H;exact H.GL y hm hd
 ·obtain⟨m,P,o⟩:=H;exact(o y).2 hd
 ·exact(H.2 y).2 hd
 ·exact(H.2 y).2 hd
 ·exact H y (.inl hm)
theorem part.st (σ:SS) (I:GX) (s:Nat):KJ (part σ I s):=⟨part.lt,part.frame,part.GL⟩
def Pt (h:aj) (s:Nat) (X:Ft) (I:GX) (σ:SS):Prop:=UL (part σ I s) h X
variable {I : GX} {σ : SS}
theorem Pt.lt (H:Pt h s X I σ) (y:Nat) (hy:X.M y\/X.D y):y<h.size:=UL.lt (part.st _ _ _) H y hy
theorem Pt.GL (H:Pt h s X I σ) (y:Nat) (a:X.M y) (b:X.D y):False:=UL.GL (part.st _ _ _) H y a b
theorem Pt.frame {Q:Nat->Prop} (H:Pt h s X I σ) (f:Fr Q h h') (hq: ∀y,X.M y\/X.D y->¬Q y):Pt h' s X I σ:=UL.frame (part.st _ _ _) H f hq
theorem Pt.on (H:Pt h s X I σ) (f:Fr No h h'):Pt h' s X I σ:=H.frame f (λ_ _=>id)
theorem Pt.use (H:Pt h s X I σ) (j:Nat): ∃Z,part σ I s j h Z/\(∀y,Z.M y->X.M y)/\(∀y,Z.D y->X.D y)/\∀h' Z' cU,part cU I s j h' Z'->bN Z h Z' h'->(∀i,i≠j->part cU I s i=part σ I s i)->
  ∃X',Pt h' s X' I cU/\bN X h X' h'/\(∀y,Z'.D y->X'.D y)/\∀y,h.size<=y->X'.M y\/X'.D y->Z'.M y\/Z'.D y:=by
 obtain⟨Z,h1,h2,h3,go⟩:=UL.use (part.st σ I s) H j;exact⟨Z,h1,h2,h3,λh' Z' cU=>go h' Z' (part cU I s)⟩
theorem Pt.dF (H:Pt h s X I σ):Bk h s I σ.now σ.rf:=by obtain⟨Y,hp,_⟩:=H;exact(hp 6).1
theorem Pt.box (H:Pt h s X I σ): ∃Z,lJ.Nt h I.o Z σ.B:=by obtain⟨Y,hp,_⟩:=H;exact⟨_,hp 3⟩
theorem PJ {i:Nat} (a:List gU.gU) (hi:i≠0):part { σ with A:=a } I s i=part σ I s i:=by rcases i with _|_|_|_|_|_|_|i<;>first|rfl|exact absurd rfl hi
theorem Vd {i:Nat} (a:List j8.Rg) (hi:i≠1):part { σ with G:=a } I s i=part σ I s i:=by rcases i with _|_|_|_|_|_|_|i<;>first|rfl|exact absurd rfl hi
theorem GY {i:Nat} (a:hU.CF) (hi:i≠2):part { σ with C:=a } I s i=part σ I s i:=by rcases i with _|_|_|_|_|_|_|i<;>first|rfl|exact absurd rfl hi
theorem Ve {i:Nat} (a:lJ.BS) (hi:i≠3):part { σ with B:=a } I s i=part σ I s i:=by rcases i with _|_|_|_|_|_|_|i<;>first|rfl|exact absurd rfl hi
theorem Vf {i:Nat} (a:List It) (hi:i≠4):part { σ with Q:=a } I s i=part σ I s i:=by rcases i with _|_|_|_|_|_|_|i<;>first|rfl|exact absurd rfl hi
theorem ake {i:Nat} (a:Ev) (b c:Nat) (hi:i≠5):part { σ with e:=a,tm:=b,sq:=c } I s i=part σ I s i:=by rcases i with _|_|_|_|_|_|_|i<;>first|rfl|exact absurd rfl hi
theorem akf {i:Nat} (a b:Nat) (hi:i≠6):part { σ with now:=a,rf:=b } I s i=part σ I s i:=by rcases i with _|_|_|_|_|_|_|i<;>first|rfl|exact absurd rfl hi
end gK
end
section
open Go.rO
namespace hU
open qJ cu vg
variable {h h':aj} {R:iI} {t:Nat} {X:Ft} {s s':CF} {m a1 a2:Nat} {xs:List CV} {S1 S2:Nat→Prop} {fY:Nat→Option Nat} {p:bV} {n c:Nat}
def FO (x:Ev) (len:Nat) (cG:Int):Bool:=dk x && (!decide (x=Ev.zero) && (decide (1<=len) && (decide (len<=600) && decide (cG<=1099511627776))))
theorem aaQ (x:Ev) {k:Int} (hk: ∀h',Fr No h h'->R (.bool (FO x n k)) h'):Cl F.rj #[uH x,.slice p n c,.U k] h R:=by
 refine rj.walk (az.box λb h1 eb hb f1=>az.ld hb (qJ.ic x λh2 f2=>⟨_,rfl,?_⟩));have K:=hk h2 (f1.tt f2);unfold FO at K;by_cases q0:dk x=true
 ·rw[ag q0];rw[q0,fv] at K;refine az.ld (f2.get hb id) ⟨_,IE (y:=.zero) (x:=x) rfl rfl,?_⟩;by_cases q1:x=.zero
  ·rw[ay q1,dM];rw[ay q1] at K;exact K
  ·rw[decide_eq_false q1,jy];rw[decide_eq_false q1,gM,fv] at K;by_cases q2:1<=n
   ·rw[jy];rw[ay q2,fv] at K;by_cases q3:n<=600
    ·rw[jy];rw[ay q3,fv] at K;exact K
    ·rw[ai (by simp;omega)];rw[decide_eq_false q3] at K;exact K
   ·rw[ai (by simp;omega)];rw[decide_eq_false q2] at K;exact K
 ·rw[ai q0];have q0:dk x=false:=by simpa using q0
  rw[q0] at K;exact K
def vq (L:List Cp) (x:Ev):List Cp:=L.filter (λy=>decide (y.e=x))
theorem Vg (H:Cm h t X s m xs a1 S1 a2 S2 fY) (x:Ev):(xs.filter (λy=>decide (y.e=x))).length=(vq s.L x).length:=by
 unfold vq;rw[<-H.abs,eM,aN];rfl
def oz (s:CF) (x:Ev) (d:List UInt8) (cG:Nat):Int:=if FO x d.length (cG:Int)=true then(if(vq s.L x).length≥16 then 15 else 0) else 1
def Ml (s:CF) (x:Ev) (d:List UInt8) (cG:Nat):Int:=if oz s x d cG=0 then(s.next:Int) else 0
def sk (s:CF) (x:Ev) (d:List UInt8) (cG:Nat):CF:=if oz s x d cG=0 then { s with L:=s.L++ [⟨s.next,x,d,cG,0,0⟩],next:=s.next+1,E1:=Kx s.E1 (s.next:Int) (cG:Int) } else s
theorem KR (H:Ct h t X s) (sm:Small s) (jc: ∀z∈s.L,z.num<s.next) (Ud:1<=s.next) (x:Ev) {d:List UInt8} (cG:Nat) {k:Int} (Mi:k=(cG:Int)) (hr:Row h p (bc d)) (hn:n=d.length) (hpm:d≠ []->∀a,p=some a->¬X.M a.block)
  (hk: ∀h' X',Ct h' t X' (sk s x d cG)->bN X h X' h'->R (.tuple #[.I (Ml s x d cG),.I (oz s x d cG)]) h'):
  Cl F.nT #[.P t 0,uH x,.slice p n c,.U k] h R:=by
 subst Mi hn;obtain⟨m,xs,a1,S1,a2,S2,fY,H⟩:=H;have sn:=sm.n;have sl:=sm.l;have se:=sm.e1;have xl:=H.len;refine nT.walk (az.box λb h1 eb hb f1=> ?_);have H1:=H.on f1;refine ji H1 ⟨_,rfl,?_⟩;rw[dM];refine az.ld hb (aaQ x λh3 f3=>⟨_,rfl,?_⟩);have F3:=f1.tt f3;by_cases q0:FO x d.length (cG:Int)=true
 ·rw[q0,dM];refine az.ld (f3.get hb id) (Ns (H.on F3) x (by omega) λh4 p4 c4 o4 g4 f4=>⟨_,_,_,rfl,?_⟩);have F4:=F3.tt f4;have H4:=H.on F4;have mb:=(f3.tt f4).get hb id;rw[Vg H x];by_cases q1:(vq s.L x).length≥16
  ·rw[jy];have e:oz s x d cG=15:=by unfold oz;rw[ag q0,ag q1]
   have e2:Ml s x d cG=0:=ai (by rw[e];decide);have e3:sk s x d cG=s:=ai (by rw[e];decide);rw[e,e2,e3] at hk;exact hk h4 X ⟨_,_,_,_,_,_,_,H4⟩ (bN.nJ F4)
  ·rw[ai (by simp;omega)];have e:oz s x d cG=0:=by unfold oz;rw[ag q0,ai q1]
   have e2:Ml s x d cG=(s.next:Int):=ag e;have e3:sk s x d cG= { s with L:=s.L++ [⟨s.next,x,d,cG,0,0⟩],next:=s.next+1,E1:=Kx s.E1 (s.next:Int) (cG:Int) } :=ag e;rw[e,e2,e3] at hk;have lb:b<h4.size:=aI mb;have nb: ∀ {c},fY c≠none->c≠b:=fun {c} hc ec=>by have:=H.QQ c hc;omega
   refine⟨_,af H4.dF rfl,_,af H4.dF rfl,bM H4.dF (by simp) λh5 c5 s5 o5=> ?_⟩;rw[bL (by omega) (by omega)] at c5;obtain⟨H5,Wd⟩:=H4.field (s':= { s with next:=s.next+1 }) rfl rfl rfl c5 s5 o5;have DK:Ev.at h5 b x:=by
    unfold Ev.at az.at;rw[o5 b (ie (nb (by rw[H.l0];simp)))];exact mb
   have r5:Row h5 p (bc d):=(hr.frame F4 (λ_ _=>id)).frame Wd.fr (λa ea=>hpm (by rintro rfl;simp[FO] at q0) a ea);refine⟨_,af H5.dF rfl,az.ld DK (mz r5 rfl (by
    unfold FO at q0;simp only[aW,bf] at q0;omega) λp6 c6 h6 o6 f6 g6=>⟨_,_,_,rfl,?_⟩)⟩
   refine⟨az.held (f6.get DK id),af (f6.get H5.dF id) rfl,aJ.box λb7 h7 e7 hb7 f7=> ?_⟩;have F7:=f6.tt f7;have z5:h5.size<=h6.size:=f6.1;refine⟨az.held (F7.get DK id),af (F7.get H5.dF id) rfl,JT zO (H5.on F7).map (k:=(s.next:Int)) λh8 M8 s8 o8=> ?_⟩;obtain⟨X8,arR,H8,st8⟩:=H5.add (s':= { s with L:=s.L++ [⟨s.next,x,d,cG,0,0⟩],next:=s.next+1 }) (y:=⟨s.next,b7,x,⟨p6,c6,d⟩,cG,0,0⟩) F7 hb7 (by show h5.size<=b7;omega) ((o6.qa).frame f7 (λ_ _=>id)) o6.le (λc hc=>⟨g6 c hc,by have:=o6.gn hc;show c≠b7;omega,by have:=o6.gn hc;have:=f7.1;omega⟩)
    (λu hu=>by
     have:u.abs∈s.L:=by rw[<-H.abs];exact bB hu
     exact jc _ this) M8 s8 o8 rfl rfl rfl ⟨rfl,rfl,rfl,rfl⟩
   have acZ:may (s.next:Int) (cG:Int)=true:=by
    unfold FO at q0;simp only[aW,bf] at q0;exact vV.2 ⟨by omega,by omega,by omega⟩
   refine⟨_,af H8.dF rfl,cu.UF H8.U6 (by show s.E1.length<_;omega) (s.next:Int) (cG:Int) (by omega) (λhm h9 S9 A9 g9 f9=>⟨_,rfl,?_⟩) (λhm=>absurd acZ (by rw[hm];simp))⟩;obtain⟨X9,arS,H9,st9,_⟩:=H8.U9 (s':= { s with L:=s.L++ [⟨s.next,x,d,cG,0,0⟩],next:=s.next+1,E1:=Kx s.E1 (s.next:Int) (cG:Int) }) A9 g9 f9 rfl rfl rfl ⟨rfl,rfl,rfl,rfl⟩;exact hk h9 X9 ⟨_,_,_,_,_,_,_,H9⟩ (bN.no F4 (Wd.trans (st8.trans st9)))
 ·have q0:FO x d.length (cG:Int)=false:=by simpa using q0
  rw[q0,jy];have e:oz s x d cG=1:=by unfold oz;rw[q0];rfl
  have e2:Ml s x d cG=0:=ai (by rw[e];decide);have e3:sk s x d cG=s:=ai (by rw[e];decide);rw[e,e2,e3] at hk;exact hk h3 X ⟨_,_,_,_,_,_,_,H.on F3⟩ (bN.nJ F3)
theorem Nz (H:Ct h t X s) (sm:Small s) (hk: ∀h',Fr No h h'->R (.agg #[.I ((s.next:Int) - 1),.I ((s.L.length:Int) - (s.E2.length:Int)),.I (s.E2.length:Int),.I (s.iR:Int),.I (s.over:Int),.I (s.gone:Int)]) h'):
  Cl F.kY #[.P t 0] h R:=by
 obtain⟨m,xs,a1,S1,a2,S2,fY,H⟩:=H;have sn:=sm.n;have sl:=sm.l;have se:=sm.e2;have xl:=H.len;refine kY.walk (gF.box λb h1 eb hb f1=> ?_);have H1:=H.on f1;refine ji H1 ⟨_,rfl,?_⟩;rw[dM];refine⟨_,af H1.dF rfl,cu.acx H1.TP ⟨_,rfl,_,af H1.dF rfl,_,af H1.dF rfl,_,Ue zO H1.map,_,af H1.dF rfl,_,af H1.dF rfl,_,af H1.dF rfl,?_⟩⟩;refine gF.set hb λg6 a6 s6 o6=>gF.ld a6 ?_
 have F6:Fr No h g6:=f1.fresh (S:=λy=>y=b) ⟨by omega,λy _ hn=>o6 y hn⟩ (λy e=>by omega);have K:=hk g6 F6;rw[aN,bL (n:=(s.next:Int) - 1) (by omega) (by omega),bL (by omega) (by omega),xl];exact K
def tM (s:CF) (k:Int):CF:= { PI s k with over:=s.over+1 }
def AS (s:CF) (k:Int):CF:= { PI s k with gone:=s.gone+1 }
theorem Small.rem (sm:Small s) (k:Int):Small (PI s k):=
 ⟨sm.n,dw (cJ _ _) sm.l,dw (zK _ _) sm.e1,dw (zK _ _) sm.e2⟩
theorem Small.free (sm:Small s) (k:Nat):Small (CZ s k):=
 ⟨sm.n,by show(zR s.L k 0 0).length<=_;unfold zR;rw[aN];exact sm.l,sm.e1,dw (zK _ _) sm.e2⟩
def Sk (s:CF):Prop:= ∀k∈keys s.E2,∃z∈s.L,(z.num:Int)=k
theorem Sk.rem (H:Sk s) (k:Int):Sk (PI s k):=λj hj=>by
 unfold keys at hj;obtain⟨e,he,rfl⟩:=bn.1 hj;obtain⟨h1,h2⟩:=aY.1 he;have kB:e.1≠k:=by simpa using h2
 obtain⟨z,hz,e2⟩:=H e.1 (bB h1);exact⟨z,aY.2 ⟨hz,by simp[e2,kB]⟩,e2⟩
theorem aaR (L:List Cp) (n:Nat) (a:Int) (b:Nat) {z:Cp} (hz:z∈L): ∃y∈zR L n a b,y.num=z.num:=by
 unfold zR;refine⟨_,bB hz,?_⟩;split<;>rfl
theorem Ct.anT (H:Ct h t X s) (sm:Small s) (now:Int) (hk: ∀h' X' p' c',Ct h' t X' { s with E1:=cu.rest s.E1 now } ->bN X h X' h'->iS h' p' (cu.due s.E1 now).length c' 1 (kc (cu.due s.E1 now))->(∀y,aQ p' y->h.size<=y/\¬X'.M y)->R (.slice p' (cu.due s.E1 now).length c') h'):
  ∃(u:bV),ak h (AA t 5)=some (.pointer u)/\Cl F.iP #[.pointer u,.U now] h R:=by
 obtain⟨m,xs,a1,S1,a2,S2,fY,H⟩:=H;have:=sm.e1;refine⟨_,af H.dF rfl,cu.Pp H.U6 (by omega) now λh1 p1 c1 A1 o1 g1 f1=> ?_⟩;obtain⟨X',ku,H',st,hM⟩:=H.U9 (s':= { s with E1:=cu.rest s.E1 now }) A1 (λc hc=> .inl hc) f1 rfl rfl rfl ⟨rfl,rfl,rfl,rfl⟩;refine hk h1 X' p1 c1 ⟨_,_,_,_,_,_,_,H'⟩ st o1 (λy hy=>⟨g1 y hy,λhm=> ?_⟩);have hy:=g1 y hy;rcases hM y hm with h2|h2
 ·have:=H.QQ y ((H.mm y).1 h2);omega
 ·have:=H.U6.lt h2;omega
theorem Ct.anU (H:Ct h t X s) (sm:Small s) (now:Int) (hk: ∀h' X' p' c',Ct h' t X' { s with E2:=cu.rest s.E2 now } ->bN X h X' h'->iS h' p' (cu.due s.E2 now).length c' 1 (kc (cu.due s.E2 now))->(∀y,aQ p' y->h.size<=y/\¬X'.M y)->R (.slice p' (cu.due s.E2 now).length c') h'):
  ∃(u:bV),ak h (AA t 6)=some (.pointer u)/\Cl F.iP #[.pointer u,.U now] h R:=by
 obtain⟨m,xs,a1,S1,a2,S2,fY,H⟩:=H;have:=sm.e2;refine⟨_,af H.dF rfl,cu.Pp H.TP (by omega) now λh1 p1 c1 A1 o1 g1 f1=> ?_⟩;obtain⟨X',ku,H',st,hM⟩:=H.U7 (s':= { s with E2:=cu.rest s.E2 now }) A1 (λc hc=> .inl hc) f1 rfl rfl rfl ⟨rfl,rfl,rfl,rfl⟩;refine hk h1 X' p1 c1 ⟨_,_,_,_,_,_,_,H'⟩ st o1 (λy hy=>⟨g1 y hy,λhm=> ?_⟩);have hy:=g1 y hy;rcases hM y hm with h2|h2
 ·have:=H.QQ y ((H.mm y).1 h2);omega
 ·have:=H.TP.lt h2;omega
structure FP (h:aj) (X:Ft) (p:bV) (n c:Nat) (ks:List Int):Prop where
 own:iS h p n c 1 (ks.map jJ)
 len:n=ks.length
 ap: ∀y,aQ p y->¬X.M y
theorem FP.step {X':Ft} {ks:List Int} (N:FP h X p n c ks) (st:bN X h X' h'):FP h' X' p n c ks:=
 ⟨N.own.frame st.fr N.ap,N.len,λy hy hm=>by
  rcases st.rh y hm with h1|h1
  ·exact N.ap y hy h1
  ·have:=N.own.gn hy;omega⟩
theorem FP.at {K:Int->Prop} {ks:List Int} {i:Nat} {k:Int} (N:FP h X p n c ks) (hi:ks[i]? =some k) (hk:K k):
  ((0:Int)<=(i:Int)/\(i:Int)<(n:Int))/\aP p λa=> ∃t:Int,ak h (a.add (Int.toNat (i:Int)*1))=some (.I t)/\K t:=by
 have hl:=(aG.1 hi).1;have hn:=N.len;obtain⟨ab,ao,e⟩:=N.own.addr (by omega);subst e;refine⟨⟨by omega,by omega⟩,aB.2 ⟨k,?_,hk⟩⟩;rw[aL,cO];exact N.own.cell (by rw[aO,hi];rfl)
theorem yz {f:CF->Int->CF} (hf: ∀s k,Small s->Small (f s k)): ∀(ks:List Int) (s:CF),Small s->Small (ks.foldl f s)
 | [],_,h=>h
 |k::ks,s,h=>yz hf ks (f s k) (hf s k h)
theorem NA: ∀(ks:List Int) (s:CF),(ks.foldl tM s).over=s.over+ks.length
 | [],_=>rfl
 |k::ks,s=>by rw[List.foldl_cons,NA ks,bj];show s.over+1+ks.length=_;omega
theorem NB: ∀(ks:List Int) (s:CF),(ks.foldl AS s).gone=s.gone+ks.length
 | [],_=>rfl
 |k::ks,s=>by rw[List.foldl_cons,NB ks,bj];show s.gone+1+ks.length=_;omega
theorem NC: ∀(ks:List Int) (s:CF),Sk s->Sk (ks.foldl tM s)
 | [],_,h=>h
 |k::ks,s,h=>NC ks (tM s k) (h.rem k)
theorem EI {f:CF->Int->CF} {ks:List Int} {i:Nat} {k:Int} (hi:ks[i]? =some k) (s:CF):(ks.take (i+1)).foldl f s=f ((ks.take i).foldl f s) k:=by
 rw[bZ,hi,List.foldl_append];rfl
def oI (s:CF) (now:Int):CF:=
 let s1:=(keys (cu.due s.E1 now)).foldl tM { s with E1:=cu.rest s.E1 now }
 (keys (cu.due s1.E2 now)).foldl (λs k=>CZ s k.toNat) { s1 with E2:=cu.rest s1.E2 now }
theorem ND: ∀(ks:List Int) (s:CF) (z:Cp),z∈s.L->∃y∈(ks.foldl (λs k=>CZ s k.toNat) s).L,y.num=z.num
 | [],s,z,hz=>⟨z,hz,rfl⟩
 |k::ks,s,z,hz=>by
  obtain⟨y,hy,e⟩:=aaR s.L k.toNat 0 0 hz;obtain⟨u,hu,e2⟩:=ND ks (CZ s k.toNat) y hy;exact⟨u,hu,e2.trans e⟩
theorem K4 (L:List E) (now:Int):(cu.rest L now).length<=L.length:=(List.dropWhile_sublist _).length_le
theorem AO (H:Ct h t X s) (sm:Small s) (ho:s.over<=40000) (hE:Sk s) (now:Int)
  (hk: ∀h' X' p' c',Ct h' t X' (oI s now)->bN X h X' h'->FP h' X' p' (cu.due s.E1 now).length c' (keys (cu.due s.E1 now))->(∀y,aQ p' y->h.size<=y)->R (.slice p' (cu.due s.E1 now).length c') h'):
  Cl F.mT #[.P t 0,.U now] h R:=by
 have hdl:(cu.due s.E1 now).length<=s.E1.length:=(List.takeWhile_sublist _).length_le;have e1b:=sm.e1;have hm: ∀ {R:iI},R (.bool true) h->Cl F.gw #[.P t 0] h R:=λhk=>by
  obtain⟨m,xs,a1,S1,a2,S2,fY,H⟩:=H;exact ji H hk
 refine mT.walk (hm ⟨_,rfl,?_⟩);rw[dM];refine H.anT sm now λh2 X2 p2 c2 H2 AG o2 g2=>⟨_,_,_,rfl,?_⟩
 have sm2:Small { s with E1:=cu.rest s.E1 now } :=⟨sm.n,sm.l,dw (K4 _ _) sm.e1,sm.e2⟩;have kl:(keys (cu.due s.E1 now)).length=(cu.due s.E1 now).length:=by unfold keys;rw[aN]
 have N2:FP h2 X2 p2 (cu.due s.E1 now).length c2 (keys (cu.due s.E1 now)):=⟨o2,kl.symm,λy hy=>(g2 y hy).2⟩;have smR: ∀(s:CF) k,Small s->Small (tM s k):=λs k h=>⟨(h.rem k).n,(h.rem k).l,(h.rem k).e1,(h.rem k).e2⟩
 refine⟨λu g=> ∃(i:Nat) (Xg:Ft),u=(i:Int)/\i<=(cu.due s.E1 now).length/\Ct g t Xg (((keys (cu.due s.E1 now)).take i).foldl tM { s with E1:=cu.rest s.E1 now })/\bN X h Xg g/\FP g Xg p2 (cu.due s.E1 now).length c2 (keys (cu.due s.E1 now)),λu _=>(cu.due s.E1 now).length - u.toNat,⟨0,X2,rfl,cp _,H2,AG,N2⟩,?_⟩;rintro _ g ⟨i,Xg,rfl,hi,Hg,stg,Ng⟩;have smg:=yz smR ((keys (cu.due s.E1 now)).take i) _ sm2;by_cases jc:i<(cu.due s.E1 now).length
 ·rw[jy];have Q5:(keys (cu.due s.E1 now))[i]? =some ((keys (cu.due s.E1 now))[i]'(by omega)):=au _;generalize (keys (cu.due s.E1 now))[i]'(by omega)=k at Q5;refine Ng.at Q5 (zP Hg smg k λg3 X3 H3 Gk=>⟨rfl,H3.anR ?_ λg4 H4 Vh=> ?_⟩)
  ·show(((keys (cu.due s.E1 now)).take i).foldl tM { s with E1:=cu.rest s.E1 now }).over<=100000;rw[NA,bR];show s.over+_<=100000;omega
  ·rw[bL (by omega) (by omega)];refine⟨⟨i+1,X3,by omega,by omega,?_,stg.trans (Gk.trans Vh),(Ng.step Gk).step Vh⟩,by show(cu.due s.E1 now).length - Int.toNat ((i:Int)+1)<(cu.due s.E1 now).length - i;omega⟩;rw[EI Q5];exact H4
 ·rw[ai (by simp;omega)];obtain rfl:i=(cu.due s.E1 now).length:=by omega
  have ta:(keys (cu.due s.E1 now)).take (cu.due s.E1 now).length=keys (cu.due s.E1 now):=bT (by omega);rw[ta] at Hg smg;have hE1:Sk ((keys (cu.due s.E1 now)).foldl tM { s with E1:=cu.rest s.E1 now }):=NC _ _ hE;generalize EZ:(keys (cu.due s.E1 now)).foldl tM { s with E1:=cu.rest s.E1 now } =s1 at Hg smg hE1;refine Hg.anU smg now λh6 X6 p6 c6 H6 TO o6 g6=>⟨_,_,_,rfl,?_⟩
  have kl6:(keys (cu.due s1.E2 now)).length=(cu.due s1.E2 now).length:=by unfold keys;rw[aN]
  have sm6:Small { s1 with E2:=cu.rest s1.E2 now } :=⟨smg.n,smg.l,smg.e1,dw (K4 _ _) smg.e2⟩;have N6:FP h6 X6 p6 (cu.due s1.E2 now).length c6 (keys (cu.due s1.E2 now)):=⟨o6,kl6.symm,λy hy=>(g6 y hy).2⟩;have hd6:=smg.e2;have arT:(cu.due s1.E2 now).length<=s1.E2.length:=(List.takeWhile_sublist _).length_le;refine⟨λu g=> ∃(i:Nat) (Xg:Ft),u=(i:Int)/\i<=(cu.due s1.E2 now).length/\Ct g t Xg (((keys (cu.due s1.E2 now)).take i).foldl (λs k=>CZ s k.toNat) { s1 with E2:=cu.rest s1.E2 now })/\bN X h Xg g/\FP g Xg p6 (cu.due s1.E2 now).length c6 (keys (cu.due s1.E2 now))/\FP g Xg p2 (cu.due s.E1 now).length c2 (keys (cu.due s.E1 now)),λu _=>(cu.due s1.E2 now).length - u.toNat,⟨0,X6,rfl,cp _,H6,stg.trans TO,N6,Ng.step TO⟩,?_⟩;rintro _ g7 ⟨j,X7,rfl,hj,H7,st7,N7,M7⟩;have sm7:=yz (f:=λs k=>CZ s k.toNat) (λs k h=>h.free k.toNat) ((keys (cu.due s1.E2 now)).take j) _ sm6;by_cases jc:j<(cu.due s1.E2 now).length
  ·rw[jy];have Q5:(keys (cu.due s1.E2 now))[j]? =some ((keys (cu.due s1.E2 now))[j]'(by omega)):=au _;generalize (keys (cu.due s1.E2 now))[j]'(by omega)=k at Q5;have hkm:k∈keys s1.E2:=by
    have h1:=bt Q5;unfold keys at h1⊢;obtain⟨e,he,rfl⟩:=bn.1 h1;exact bB ((List.takeWhile_sublist _).subset he)
   obtain⟨z,hz,ez⟩:=hE1 k hkm;obtain⟨y,hy,ey⟩:=ND ((keys (cu.due s1.E2 now)).take j) { s1 with E2:=cu.rest s1.E2 now } z hz;have eyk:k=(y.num:Int):=by rw[ey];exact ez.symm
   refine N7.at Q5 ?_;rw[eyk];refine Xt H7 sm7 hy λg8 X8 H8 st8=>⟨rfl,?_⟩
   rw[bL (by omega) (by omega)];refine⟨⟨j+1,X8,by omega,by omega,?_,st7.trans st8,N7.step st8,M7.step st8⟩,by show(cu.due s1.E2 now).length - Int.toNat ((j:Int)+1)<(cu.due s1.E2 now).length - j;omega⟩;rw[EI Q5,eyk,aL];exact H8
  ·rw[ai (by simp;omega)];obtain rfl:j=(cu.due s1.E2 now).length:=by omega
   rw[bT (by omega)] at H7;refine hk g7 X7 p2 c2 ?_ st7 M7 (λy hy=>(g2 y hy).1);unfold oI;rw[EZ];exact H7
def Ij (s:CF) (x:Ev):CF:=((vq s.L x).map (λz=>(z.num:Int))).foldl AS s
theorem agi (H:Cm h t X s m xs a1 S1 a2 S2 fY) (x:Ev):tV (xs.filter (λy=>decide (y.e=x)))=(vq s.L x).map (λz=>(z.num:Int)):=by
 unfold vq tV;rw[<-H.abs,eM,fH];rfl
theorem AK (H:Ct h t X s) (sm:Small s) (ho:s.gone<=40000) (x:Ev)
  (hk: ∀h' X' p' c',Ct h' t X' (Ij s x)->bN X h X' h'->FP h' X' p' (vq s.L x).length c' ((vq s.L x).map (λz=>(z.num:Int)))->(∀y,aQ p' y->h.size<=y)->R (.slice p' (vq s.L x).length c') h'):
  Cl F.mW #[.P t 0,uH x] h R:=by
 have H0:=H;obtain⟨m,xs,a1,S1,a2,S2,fY,H⟩:=H;have sl:=sm.l;have xl:=H.len;refine mW.walk (az.box λb h1 eb hb f1=>az.ld hb (Ns (H.on f1) x (by omega) λh2 p2 c2 o2 g2 f2=>⟨_,_,_,rfl,?_⟩));have F2:=f1.tt f2;have z1:=f1.1;rw[Vg H x,agi H x] at o2;rw[Vg H x];have ol:(vq s.L x).length<=s.L.length:=cJ _ _;have kl:((vq s.L x).map (λz=>(z.num:Int))).length=(vq s.L x).length:=aN _;have N2:FP h2 X p2 (vq s.L x).length c2 ((vq s.L x).map (λz=>(z.num:Int))):=⟨o2,kl.symm,λy hy hm=>by
  have h1:=g2 y hy;have:=H.QQ y ((H.mm y).1 hm);omega⟩
 have smR: ∀(s:CF) k,Small s->Small (AS s k):=λs k h=>⟨(h.rem k).n,(h.rem k).l,(h.rem k).e1,(h.rem k).e2⟩
 refine⟨λu g=> ∃(i:Nat) (Xg:Ft),u=(i:Int)/\i<=(vq s.L x).length/\Ct g t Xg ((((vq s.L x).map (λz=>(z.num:Int))).take i).foldl AS s)/\bN X h Xg g/\FP g Xg p2 (vq s.L x).length c2 ((vq s.L x).map (λz=>(z.num:Int))),λu _=>(vq s.L x).length - u.toNat,⟨0,X,rfl,cp _,H0.on F2,bN.nJ F2,N2⟩,?_⟩;rintro _ g ⟨i,Xg,rfl,hi,Hg,stg,Ng⟩;have smg:=yz smR (((vq s.L x).map (λz=>(z.num:Int))).take i) _ sm;by_cases jc:i<(vq s.L x).length
 ·rw[jy];have Q5:((vq s.L x).map (λz=>(z.num:Int)))[i]? =some (((vq s.L x).map (λz=>(z.num:Int)))[i]'(by omega)):=au _;generalize ((vq s.L x).map (λz=>(z.num:Int)))[i]'(by omega)=k at Q5;refine Ng.at Q5 (zP Hg smg k λg3 X3 H3 Gk=>⟨rfl,H3.anS ?_ λg4 H4 Vh=> ?_⟩)
  ·show((((vq s.L x).map (λz=>(z.num:Int))).take i).foldl AS s).gone<=100000;rw[NB,bR];omega
  ·rw[bL (by omega) (by omega)];refine⟨⟨i+1,X3,by omega,by omega,?_,stg.trans (Gk.trans Vh),(Ng.step Gk).step Vh⟩,by show(vq s.L x).length - Int.toNat ((i:Int)+1)<(vq s.L x).length - i;omega⟩;rw[EI Q5];exact H4
 ·rw[ai (by simp;omega)];obtain rfl:i=(vq s.L x).length:=by omega
  rw[bT (by omega)] at Hg;exact hk g Xg p2 c2 Hg stg Ng (λy hy=>by have:=g2 y hy;omega)
abbrev adw:Value:=.agg #[.int .i64 0,.bool false,.int .u64 0,.int .u64 0,.string ⟨#[]⟩,.string ⟨#[]⟩,.slice none 0 0,.int .u64 0,.int .i64 0,.int .u64 0]
abbrev Cp.val (z:Cp) (p:bV) (c:Nat):Value:=.agg #[.int .i64 (z.num:Int),.bool z.e.vE,.int .u64 z.e.node,.int .u64 z.e.ma,.string z.e.host,.string z.e.sN,.slice p z.d.length c,.int .u64 (z.cG:Int),.int .i64 z.ses,.int .u64 (z.dl:Int)]
def DM (ses:Int) (dl:Nat):Prop:=1<=ses/\ses<=1099511627776/\dl<=1099511627776
def tO (L:List Cp) (x:Ev):Option Cp:=(vq L x).find? (λz=>decide (z.ses=0))
def xy (s:CF) (z:Cp) (ses:Int) (dl:Nat):CF:= { s with L:=zR s.L z.num ses dl,E2:=Kx s.E2 (z.num:Int) (dl:Int) }
theorem Vj {k:Int} (hk:R (.bool (decide (1<=k/\k<=1099511627776))) h):Cl F.oh #[.I k] h R:=by
 refine oh.walk ?_;by_cases q:1<=k
 ·have q':k≥1:=q;simp only[q',decide_true,bA];simp only[q,true_and] at hk;exact hk
 ·have q': ¬k≥1:=q;simp only[q',decide_false,aA,aU];simp only[q,false_and,decide_false] at hk;exact hk
theorem aaS (H:Ct h t X s) (sm:Small s) (hb: ∀z∈s.L,1<=z.num/\z.num<s.next/\z.d.length<=600) (x:Ev) (ses:Int) (dl:Nat) {k:Int} (Mi:k=(dl:Int))
  (k1: ¬DM ses dl->∀h',Fr No h h'->R (.tuple #[adw,.I 1]) h')
  (k2:DM ses dl->tO s.L x=none->∀h',Fr No h h'->R (.tuple #[adw,.I 4]) h')
  (k3:DM ses dl->∀z,tO s.L x=some z->∀h' X' p' c',Ct h' t X' (xy s z ses dl)->bN X h X' h'->Row h' p' (bc z.d)->z.d.length<=c'->(∀y,aQ p' y->h.size<=y/\¬(X'.M y\/X'.D y))->R (.tuple #[({ z with ses:=ses,dl:=dl } :Cp).val p' c',.I 0]) h'):
  Cl F.iG #[.P t 0,uH x,.I ses,.U k] h R:=by
 subst Mi;obtain⟨m,xs,a1,S1,a2,S2,fY,H⟩:=H;have sn:=sm.n;have sl:=sm.l;have se:=sm.e2;have xl:=H.len;refine iG.walk (az.box λb h1 e1 dx f1=>aJ.box λb2 h2 e2 fJ f2=> ?_);have z1:=aI dx;have z2:=aI fJ;have f12:=f1.tt f2;have dx:=f2.get dx id;refine ji (H.on f12) ⟨_,rfl,?_⟩;rw[dM];have EZ:=f1.1;have fin: ∀g (e:Int),Fr No h2 g->(∀h',Fr No h h'->R (.tuple #[adw,.I e]) h')->aJ.ST g (AA b2 0) 0 false 0 0 ka ka none 0 0 0 0 0 λg2=>aJ.LD g2 (AA b2 0) λr_0 r_1 r_2 r_3 r_4 r_5 anV anW anX r_7 r_8 r_9=>
   R (.tuple #[.agg #[.I r_0,.bool r_1,.U r_2,.U r_3,.string r_4,.string r_5,.slice anV anW anX,.U r_7,.I r_8,.U r_9],.I e]) g2:=λg e fg hk=>
  aJ.set (fg.get fJ id) λg2 a2 s2 o2=>aJ.ld a2 (hk g2 ((f12.tt fg).fresh (S:=λy=>y=b2) ⟨by omega,λy _ hn=>o2 y hn⟩ (λy e=>by omega)))
 refine aK.of λJ hJ=>Vj ⟨_,rfl,?_⟩
 have bad: ¬DM ses dl->J true h2:=λhn=>by
  subst hJ;simp only[bA];exact fin h2 1 (Fr.refl _ _) (k1 hn)
 by_cases q1:1<=ses/\ses<=1099511627776
 ·rw[ay q1,dM];by_cases q2:(dl:Int)>1099511627776
  ·rw[ay q2];exact bad (λhm=>by have:=hm.2.2;omega)
  ·rw[decide_eq_false q2];clear bad;subst hJ;simp only[aA,aU];have hm:DM ses dl:=⟨q1.1,q1.2,by omega⟩;refine az.ld dx (Ns (H.on f12) x (by omega) λh7 p7 c7 o7 g7 f7=>⟨_,_,_,rfl,?_⟩);have F7:=f12.tt f7;have H7:=H.on F7;have anY:=f7.get fJ id;have hF:(xs.filter (λy=>decide (y.e=x))).map CV.abs=vq s.L x:=by unfold vq;rw[<-H.abs,eM];rfl
   generalize hxf:xs.filter (λy=>decide (y.e=x))=xf at o7 hF;have nl:(tV xf).length=xf.length:=by unfold tV;rw[aN]
   have fl:xf.length<=xs.length:=by rw[<-hxf];exact cJ _ _
   refine⟨λu g=>g=h7/\∃i:Nat,u=(i:Int)/\i<=xf.length/\∀j y,j<i->xf[j]? =some y->y.ses≠0,λu _=>xf.length - u.toNat,⟨rfl,0,rfl,cp _,λj y hj=>by omega⟩,?_⟩;rintro _ h7 ⟨rfl,i,rfl,hi,kA⟩;by_cases jc:i<xf.length
   ·rw[jy];have hy:xf[i]? =some xf[i]:=au jc;generalize xf[i]=y at hy;have hym:y∈xs:=by
     have:=bt hy;rw[<-hxf] at this;exact(aY.1 this).1
    obtain⟨ab,ao,rfl⟩:=o7.addr (by omega);have cc:=o7.cell (j:=i) (v:=jJ (y.num:Int)) (by rw[aO];unfold tV;rw[aO,hy];rfl);have L7:=look H7 hym;have ca:=H7.Si y hym;simp only[aL,cO];refine⟨⟨by omega,by omega⟩,aB.2 ⟨_,cc,_,af H7.dF rfl,_,L7,aB.2 ⟨_,af ca rfl,?_⟩⟩⟩;by_cases hs0:y.ses=0
    ·rw[ag (by simpa using hs0)];have anZ:tO s.L x=some y.abs:=by
      unfold tO;rw[<-hF,List.find?_map];have:xf.find? ((λz:Cp=>decide (z.ses=0)) ∘ CV.abs)=some y:=by
       rw[List.find?_eq_some_iff_getElem];refine⟨by simp[CV.abs,hs0],i,jc,(aG.1 hy).2,λj hj=> ?_⟩;have hz:=kA j (xf[j]'(by omega)) hj (au (by omega));have hz':decide ((xf[j]'(by omega)).abs.ses=0)=false:=decide_eq_false hz;show(!decide ((xf[j]'(by omega)).abs.ses=0))=true;rw[hz'];rfl
      rw[this];rfl
     have akg:=hb y.abs (by rw[<-H.abs];exact bB hym);have hn1:1<=y.num:=akg.1;have hn2:y.num<s.next:=akg.2.1;have hn3:y.v.b.length<=600:=akg.2.2;refine aB.2 (H7.Ny (ses:=ses) (dl:=dl) hym λvk H10 aqB=>⟨_,af H10.dF rfl,?_⟩);have acZ:may (y.num:Int) (dl:Int)=true:=vV.2 ⟨by omega,by omega,by omega⟩;refine cu.UF H10.TP (by show s.E2.length<_;omega) (y.num:Int) (dl:Int) (by omega) (λ_ yj S11 A11 g11 f11=>⟨_,rfl,?_⟩) (λhx=>absurd acZ (by rw[hx];simp));obtain⟨X11,arK,H11,agj,_⟩:=H10.U7 (s':=xy s y.abs ses dl) A11 g11 f11 rfl rfl rfl ⟨rfl,rfl,rfl,rfl⟩;have hy':({ y with ses:=ses,dl:=dl } :CV)∈xs.map (λz=>if z.num=y.num then({ y with ses:=ses,dl:=dl } :CV) else z):=bn.2 ⟨y,hym,ag rfl⟩;have an0:=H11.Si _ hy';have aqC:=H11.PB _ hy';refine aB.2 (aJ.ld an0 (aJ.new λb3 GQ e13 qx f13=>aB.2 ⟨_,_,_,af (f13.get an0 id) rfl,mz ((aqC.row).frame f13 (λ_ _=>id)) rfl (by show y.v.b.length<=_;omega) λp14 c14 Dw o14 f14 g14=>⟨_,_,_,rfl,?_⟩⟩));have DI:=aqB.trans agj;have z11:h7.size<=yj.size:=DI.fr.1;have z13:=f13.1;refine bM (f14.get qx id) (by simp) λGZ c15 s15 Mq=> ?_
     have FN:aJ.at GZ b3 (y.num:Int) y.e.vE y.e.node y.e.ma y.e.host y.e.sN p14 y.v.b.length c14 (y.cG:Int) ses (dl:Int):=c15;refine aJ.ld FN ?_;have nM: ∀y,y<h7.size->h.size<=y->¬X11.M y:=λy y1 y2 hm=>by
      rcases DI.rh y hm with h3|h3
      ·have:=H.QQ y ((H.mm y).1 h3);omega
      ·omega
     have zb2:b2<h7.size:=aI anY;have b2x: ¬X.M b2:=λhm=>by have:=H.QQ b2 ((H.mm b2).1 hm);omega
     have an1:aJ.at GZ b2 0 false 0 0 ⟨#[]⟩ ⟨#[]⟩ none 0 0 0 0 0:=by
      have h3:=DI.fr.get anY b2x;have h4:=(f13.tt f14).get h3 id;have:b2≠b3:=by omega
      unfold aJ.at;rw[Mq b2 this];exact h4
     refine aJ.set an1 λvZ c16 s16 o16=>aJ.ld c16 ?_
     have arU: ∀y,aQ p14 y->GQ.size<=y:=g14;have fA:Fr (λy=>y=b3) Dw GZ:=⟨by omega,λy _ hn=>Mq y hn⟩;have fB:Fr (λy=>y=b2) GZ vZ:=⟨by omega,λy _ hn=>o16 y hn⟩;have arV:b3<GQ.size:=aI qx;have an2:Row vZ p14 (bc y.v.b):=((o14.qa).frame fA (λa ea hm=>by have:=g14 a.block ⟨a,ea,rfl⟩;have hm:a.block=b3:=hm;omega)).frame fB (λa ea hm=>by have:=g14 a.block ⟨a,ea,rfl⟩;have hm:a.block=b2:=hm;omega);have T11:Ct yj t X11 (xy s y.abs ses dl):=⟨_,_,_,_,_,_,_,H11⟩;have an3:=λy (hy:X11.M y\/X11.D y)=>T11.lt y hy
     have T14:=T11.on (f13.tt f14);have T15:=T14.frame fA (λy hy e=>by have:=an3 y hy;omega);have d2: ¬(X11.M b2\/X11.D b2):=λhm=>by
      rcases hm with hm|hm
      ·exact nM b2 zb2 (by omega) hm
      ·rcases DI.wL b2 hm with h3|h3
       ·have:=(H.dd b2 h3).2;omega
       ·omega
     have T16:=T15.frame fB (λy hy e=>d2 (e▸hy));have stC:=bN.no F7 DI;have stB:bN X h X11 vZ:=by
      refine⟨⟨by have:=f14.1;have:=stC.fr.1;omega,λy hy hn=> ?_⟩,stC.rh,stC.wL,stC.Ix⟩;have:=stC.fr.1;rw[o16 y (by omega),Mq y (by omega),(f13.tt f14).2 y (by omega) id];exact stC.fr.2 y hy hn
     exact k3 hm y.abs anZ vZ X11 p14 c14 T16 stB an2 o14.le (λy hy=>⟨by have:=g14 y hy;have:=F7.1;omega,λhx=>by have:=an3 y hx;have:=g14 y hy;omega⟩)
    ·rw[ai (by simpa using hs0),bL (by omega) (by omega)];refine⟨⟨by first|trivial|rfl,i+1,by omega,by omega,λj z hj hz=> ?_⟩,by show xf.length - Int.toNat ((i:Int)+1)<xf.length - i;omega⟩;by_cases ej:j=i
     ·subst ej;rw[hy] at hz;cases hz;exact hs0
     ·exact kA j z (by omega) hz
   ·rw[ai (by simp;omega)];refine fin h7 4 f7 (k2 hm ?_);unfold tO;rw[<-hF,List.find?_map];have:xf.find? ((λz:Cp=>decide (z.ses=0)) ∘ CV.abs)=none:=by
     rw[List.find?_eq_none];intro y hy;obtain⟨j,hj⟩:=bH hy;have:=kA j y (by have:=(aG.1 hj).1;omega) hj;have h2:decide (y.abs.ses=0)=false:=decide_eq_false this;show¬(decide (y.abs.ses=0)=true);rw[h2];decide
    rw[this];rfl
 ·rw[decide_eq_false q1,jy];exact bad (λhm=>q1 ⟨hm.1,hm.2.1⟩)
end hU
end
section
open Go.rO
namespace hU
open qJ cu vg
variable {h:aj} {t:Nat} {X:Ft} {s s':CF} {n:Nat} {now:Int}
structure Ord (s:CF):Prop where
 nd:(s.L.map Cp.num).Nodup
 o1:pG s.E1
 o2:pG s.E2
 n1:(keys s.E1).Nodup
 n2:(keys s.E2).Nodup
theorem Ct.ord (H:Ct h t X s):Ord s:=by
 obtain⟨m,xs,a1,S1,a2,S2,fY,H⟩:=H;refine⟨?_,H.U6.sorted,H.TP.sorted,H.U6.nodup,H.TP.nodup⟩;rw[<-H.abs,fH];exact H.so.imp (λh=>Nat.ne_of_lt h)
structure BQ (s:CF):Prop where
 bd: ∀z∈s.L,1<=z.num/\z.num<s.next/\z.d.length<=600
 sp: ∀z∈s.L,0<=z.ses
 e1: ∀e,e∈s.E1↔ ∃z∈s.L,e=((z.num:Int),(z.cG:Int))
 e2: ∀e,e∈s.E2↔ ∃z∈s.L,z.ses≠0/\e=((z.num:Int),(z.dl:Int))
 KE:s.next=1+s.L.length+s.iR+s.over+s.gone
theorem Ord.inj (O:Ord s) {z y:Cp} (hz:z∈s.L) (hy:y∈s.L) (e:z.num=y.num):z=y:=by
 obtain⟨i,hi⟩:=bH hz;obtain⟨j,hj⟩:=bH hy;have li:=(aG.1 hi).1;by_cases hij:i=j
 ·subst hij;rw[hi] at hj;exact bz hj
 ·exfalso;have h1:(s.L.map Cp.num)[i]? =some z.num:=by rw[aO,hi];rfl
  have h2:(s.L.map Cp.num)[j]? =some y.num:=by rw[aO,hj];rfl
  have:i=j:=(fV (by rw[aN];exact li) O.nd).1 (h1.trans ((bp some e).trans h2.symm));exact hij this
theorem DA {L:List E} {k:Int} {e:E} :e∈iH L k↔e∈L/\e.1≠k:=by unfold iH;simp[aY]
theorem Sm {L:List E} {k v:Int} {e:E} :e∈Kx L k v↔e=(k,v)\/(e∈L/\e.1≠k):=by
 unfold Kx;rw[(vU _ _).mem_iff,bQ,DA]
theorem xz {L:List Cp} {k:Int} {z:Cp} :z∈K3 L k↔z∈L/\(z.num:Int)≠k:=by unfold K3;simp[aY]
theorem xA {L:List Cp} {n:Nat} {a:Int} {b:Nat} {z:Cp} :z∈zR L n a b↔ ∃y∈L,z=if y.num=n then { y with ses:=a,dl:=b } else y:=by
 unfold zR;rw[bn];exact⟨λ⟨y,h1,h2⟩=>⟨y,h1,h2.symm⟩,λ⟨y,h1,h2⟩=>⟨y,h1,h2.symm⟩⟩
theorem adx (L:List Cp) (n:Nat) (a:Int) (b:Nat):(zR L n a b).length=L.length:=by unfold zR;rw[aN]
theorem FK: ∀ {L:List Cp},(L.map Cp.num).Nodup->∀ {z:Cp},z∈L->(K3 L (z.num:Int)).length+1=L.length
 | [],_,z,hz=>by cases hz
 |y::l,nd,z,hz=>by
  rw[cB,gv] at nd;unfold K3;rw[cD];rcases bQ.1 hz with rfl|hz
  ·rw[ai (by simp),cI.2 (λx hx=> ?_),bj];have:x.num≠z.num:=λe=>nd.1 (by rw[<-e];exact bB hx)
   simp;omega
  ·have kB:y.num≠z.num:=λe=>nd.1 (by rw[e];exact bB hz)
   rw[ag (by simp;omega),bj,bj];have:=FK nd.2 hz;unfold K3 at this;omega
theorem BQ.add (ok:BQ s) (x:Ev) (d:List UInt8) (cG:Nat):BQ (sk s x d cG):=by
 unfold sk;by_cases he:oz s x d cG=0
 ·rw[ag he];have hd:d.length<=600:=by
   unfold oz at he;split at he
   ·rename_i hm;unfold FO at hm;simp only[aW,bf] at hm;exact hm.2.2.2.1
   ·cases he
  refine⟨λz hz=> ?_,λz hz=> ?_,λe=> ?_,λe=> ?_,?_⟩
  ·rcases bU.1 hz with hz|hz
   ·have:=ok.bd z hz;exact⟨this.1,Nat.lt_succ_of_lt this.2.1,this.2.2⟩
   ·obtain rfl:=bW.1 hz;exact⟨by have:=ok.KE;show 1<=s.next;omega,Nat.lt_succ_self _,hd⟩
  ·rcases bU.1 hz with hz|hz
   ·exact ok.sp z hz
   ·obtain rfl:=bW.1 hz;exact gh _
  ·show e∈Kx s.E1 _ _↔ ∃z∈s.L++ [_],_;rw[Sm,ok.e1];constructor
   ·rintro(rfl|⟨⟨z,hz,rfl⟩,_⟩)
    ·exact⟨_,bU.2 (.inr (bW.2 rfl)),rfl⟩
    ·exact⟨z,bU.2 (.inl hz),rfl⟩
   ·rintro⟨z,hz,rfl⟩;rcases bU.1 hz with hz|hz
    ·exact .inr ⟨⟨z,hz,rfl⟩,by have:=(ok.bd z hz).2.1;show(z.num:Int)≠_;omega⟩
    ·obtain rfl:=bW.1 hz;exact .inl rfl
  ·show e∈s.E2↔ ∃z∈s.L++ [_],_;rw[ok.e2];constructor
   ·rintro⟨z,hz,h2⟩;exact⟨z,bU.2 (.inl hz),h2⟩
   ·rintro⟨z,hz,h2⟩;rcases bU.1 hz with hz|hz
    ·exact⟨z,hz,h2⟩
    ·obtain rfl:=bW.1 hz;exact absurd rfl h2.1
  ·have:=ok.KE;show s.next+1=1+(s.L++ [_]).length+s.iR+s.over+s.gone;rw[aF,fk];omega
 ·rw[ai he];exact ok
theorem BQ.rem (ok:BQ s) (O:Ord s) {z:Cp} (hz:z∈s.L) (hL:s'.L=K3 s.L (z.num:Int)) (h1:s'.E1=iH s.E1 (z.num:Int)) (h2:s'.E2=iH s.E2 (z.num:Int)) (hn:s'.next=s.next) (hc:s'.iR+s'.over+s'.gone=s.iR+s.over+s.gone+1):BQ s':=by
 refine⟨λy hy=> ?_,λy hy=> ?_,λe=> ?_,λe=> ?_,?_⟩
 ·rw[hL,xz] at hy;rw[hn];exact ok.bd y hy.1
 ·rw[hL,xz] at hy;exact ok.sp y hy.1
 ·rw[h1,DA,ok.e1,hL];constructor
  ·rintro⟨⟨y,hy,rfl⟩,kB⟩;exact⟨y,xz.2 ⟨hy,kB⟩,rfl⟩
  ·rintro⟨y,hy,rfl⟩;have:=xz.1 hy;exact⟨⟨y,this.1,rfl⟩,this.2⟩
 ·rw[h2,DA,ok.e2,hL];constructor
  ·rintro⟨⟨y,hy,hs,rfl⟩,kB⟩;exact⟨y,xz.2 ⟨hy,kB⟩,hs,rfl⟩
  ·rintro⟨y,hy,hs,rfl⟩;have:=xz.1 hy;exact⟨⟨y,this.1,hs,rfl⟩,this.2⟩
 ·have:=FK O.nd hz;have:=ok.KE;rw[hn,hL];omega
theorem Sn {L:List Cp} {k ses:Int} (h:pV L k ses=0): ∃z∈L,(z.num:Int)=k/\z.ses=ses/\ses≠0:=by
 unfold pV at h;cases hg:GV L k with
 |none=>rw[hg] at h;cases h
 |some z=>
  rw[hg] at h;dsimp only at h;split at h
  ·cases h
  ·rename_i hn;obtain⟨h1,h2⟩:=GW hg;refine⟨z,h1,h2,?_,?_⟩<;>(simp only[not_or,Decidable.not_not] at hn)
   ·exact hn.2
   ·rw[<-hn.2];exact hn.1
theorem BQ.ack (ok:BQ s) (O:Ord s) (k ses:Int):BQ (vY s k ses):=by
 unfold vY;by_cases he:pV s.L k ses=0
 ·rw[ag he];obtain⟨z,hz,rfl,_,_⟩:=Sn he;exact ok.rem O hz rfl rfl rfl rfl (by show s.iR+1+s.over+s.gone=_;omega)
 ·rw[ai he];exact ok
theorem BQ.set (ok:BQ s) (O:Ord s) {z:Cp} (hz:z∈s.L) {a:Int} {b:Nat} (ha:0<=a) (hL:s'.L=zR s.L z.num a b) (h1:s'.E1=s.E1) (h2: ∀e,e∈s'.E2↔(a≠0/\e=((z.num:Int),(b:Int)))\/(e∈s.E2/\e.1≠(z.num:Int))) (hn:s'.next=s.next) (hc:s'.iR+s'.over+s'.gone=s.iR+s.over+s.gone):BQ s':=by
 refine⟨λy hy=> ?_,λy hy=> ?_,λe=> ?_,λe=> ?_,?_⟩
 ·rw[hL,xA] at hy;obtain⟨u,hu,rfl⟩:=hy;rw[hn];have:=ok.bd u hu;split<;>exact this
 ·rw[hL,xA] at hy;obtain⟨u,hu,rfl⟩:=hy;split
  ·exact ha
  ·exact ok.sp u hu
 ·rw[h1,ok.e1,hL];constructor
  ·rintro⟨y,hy,rfl⟩;refine⟨_,xA.2 ⟨y,hy,rfl⟩,?_⟩;split<;>rfl
  ·rintro⟨y,hy,rfl⟩;obtain⟨u,hu,rfl⟩:=xA.1 hy;refine⟨u,hu,?_⟩;split<;>rfl
 ·rw[h2,ok.e2,hL];constructor
  ·rintro(⟨h3,rfl⟩|⟨⟨y,hy,h4,rfl⟩,h5⟩)
   ·refine⟨_,xA.2 ⟨z,hz,rfl⟩,?_⟩;rw[ag rfl];exact⟨h3,rfl⟩
   ·refine⟨_,xA.2 ⟨y,hy,rfl⟩,?_⟩;rw[ai (λe=>h5 (by rw[e]))];exact⟨h4,rfl⟩
  ·rintro⟨y,hy,h4,rfl⟩;obtain⟨u,hu,rfl⟩:=xA.1 hy;by_cases e:u.num=z.num
   ·rw[ag e] at h4⊢;exact .inl ⟨h4,by rw[<-e]⟩
   ·rw[ai e] at h4⊢;exact .inr ⟨⟨u,hu,h4,rfl⟩,by show(u.num:Int)≠_;omega⟩
 ·have:=ok.KE;rw[hn,hL,adx];omega
theorem BQ.rel (ok:BQ s) (O:Ord s) (k ses:Int):BQ (IT s k ses):=by
 unfold IT;by_cases he:pV s.L k ses=0
 ·rw[ag he];obtain⟨z,hz,rfl,_,_⟩:=Sn he;rw[aL];refine ok.set O hz (gh 0) rfl rfl (λe=> ?_) rfl rfl;show e∈iH _ _↔_;rw[DA];simp
 ·rw[ai he];exact ok
theorem Vk {L:List Cp} {x:Ev} {z:Cp} (h:tO L x=some z):z∈L/\z.e=x/\z.ses=0:=by
 unfold tO vq at h;have h1:=List.mem_of_find?_eq_some h;have h2:=List.find?_some h;rw[aY] at h1;exact⟨h1.1,by simpa using h1.2,by simpa using h2⟩
theorem BQ.Ny (ok:BQ s) (O:Ord s) {z:Cp} (hz:z∈s.L) {ses:Int} {dl:Nat} (hm:DM ses dl):BQ (xy s z ses dl):=by
 have h1:=hm.1;refine ok.set O hz (by omega) rfl rfl (λe=> ?_) rfl rfl;show e∈Kx _ _ _↔_;rw[Sm];have:ses≠0:=by omega
 simp[this]
theorem jj: ∀ {L:List E},pG L->cu.due L now=L.filter (pS now)/\cu.rest L now=L.filter (λe=> !pS now e)
 | [],_=>⟨rfl,rfl⟩
 |e::r,hs=>by
  have DD:=fj.1 hs;obtain⟨i1,i2⟩:=jj (L:=r) DD.2;unfold cu.due at i1⊢;unfold cu.rest at i2⊢;by_cases he:pS now e=true
  ·rw[List.takeWhile_cons,List.dropWhile_cons,cD,cD,he];simp only[bA,dX,aA,aU];rw[i1,i2];exact⟨rfl,rfl⟩
  ·have I7:pS now e=false:=by simpa using he
   have all: ∀x∈r,pS now x=false:=by
    intro x hx;have h1:=DD.1 x hx;unfold pS at I7⊢;have h2:=of_decide_eq_false I7;apply decide_eq_false
    rcases h1 with h1|h1<;>omega
   rw[List.takeWhile_cons,List.dropWhile_cons,cD,cD,I7];simp only[aA,aU,gM,bA];refine⟨?_,?_⟩
   ·symm;rw[List.filter_eq_nil_iff];intro x hx;rw[all x hx];simp
   ·congr 1;symm;rw[cI];intro x hx;rw[all x hx];rfl
def EJ (L:List Cp) (ks:List Int):List Cp:=L.filter (λz=> !decide ((z.num:Int)∈ks))
def zS (L:List E) (ks:List Int):List E:=L.filter (λe=> !decide (e.1∈ks))
theorem K5 (L:List Cp):EJ L []=L:=by unfold EJ;exact cI.2 (λ_ _=>by simp)
theorem C2 (L:List E):zS L []=L:=by unfold zS;exact cI.2 (λ_ _=>by simp)
theorem G0 (L:List Cp) (k:Int) (ks:List Int):EJ (K3 L k) ks=EJ L (k::ks):=by
 unfold EJ K3;rw[List.filter_filter];apply fG
 intro x _;by_cases h1:(x.num:Int)=k
 ·simp[h1]
 ·by_cases h2:(x.num:Int)∈ks<;>simp[h1,h2]
theorem zT (L:List E) (k:Int) (ks:List Int):zS (iH L k) ks=zS L (k::ks):=by
 unfold zS iH;rw[List.filter_filter];apply fG
 intro x _;by_cases h1:x.1=k
 ·simp[h1]
 ·by_cases h2:x.1∈ks<;>simp[h1,h2]
theorem NF: ∀(ks:List Int) (s:CF),ks.foldl tM s= { s with L:=EJ s.L ks,E1:=zS s.E1 ks,E2:=zS s.E2 ks,over:=s.over+ks.length }
 | [],s=>by rw[K5,C2,C2];rfl
 |k::ks,s=>by
  rw[List.foldl_cons,NF ks];unfold tM PI;dsimp only;rw[G0,zT,zT,bj];congr 1;omega
theorem G5: ∀(ks:List Int) (s:CF),ks.foldl AS s= { s with L:=EJ s.L ks,E1:=zS s.E1 ks,E2:=zS s.E2 ks,gone:=s.gone+ks.length }
 | [],s=>by rw[K5,C2,C2];rfl
 |k::ks,s=>by
  rw[List.foldl_cons,G5 ks];unfold AS PI;dsimp only;rw[G0,zT,zT,bj];congr 1;omega
def xB (L:List Cp) (ks:List Int):List Cp:=L.map (λz=>if(z.num:Int)∈ks then { z with ses:=0,dl:=0 } else z)
theorem NG: ∀(ks:List Int) (s:CF),(∀k∈ks,0<=k)->ks.foldl (λs k=>CZ s k.toNat) s= { s with L:=xB s.L ks,E2:=zS s.E2 ks }
 | [],s,_=>by
  rw[C2];have:xB s.L []=s.L:=by unfold xB;simp
  rw[this];rfl
 |k::ks,s,hp=>by
  rw[List.foldl_cons,NG ks _ (λj hj=>hp j (cN _ hj))];have hk:=hp k (by simp);unfold CZ;dsimp only;have e:(k.toNat:Int)=k:=by omega
  rw[e,zT];have:xB (zR s.L k.toNat 0 0) ks=xB s.L (k::ks):=by
   unfold xB zR;rw[fH];apply fW
   intro x _;show(λz:Cp=>if(z.num:Int)∈ks then({ z with ses:=0,dl:=0 } :Cp) else z) (if x.num=k.toNat then({ x with ses:=0,dl:=0 } :Cp) else x)=_;by_cases h1:x.num=k.toNat
   ·have h1':(x.num:Int)=k:=by omega
    rw[ag h1,ag (show(x.num:Int)∈k::ks by rw[h1'];simp)];dsimp only;split<;>rfl
   ·have h1':(x.num:Int)≠k:=by omega
    rw[ai h1];dsimp only;by_cases h2:(x.num:Int)∈ks
    ·rw[ag h2,ag (cN _ h2)]
    ·rw[ai h2,ai (by simp[h1',h2])]
  rw[this]
theorem Xu: ∀(ks:List Int) (L:List Cp),(L.map Cp.num).Nodup->ks.Nodup->(∀k∈ks,∃z∈L,(z.num:Int)=k)->(EJ L ks).length+ks.length=L.length
 | [],L,_,_,_=>by rw[K5];rfl
 |k::ks,L,nd,nk,hk=>by
  obtain⟨z,hz,rfl⟩:=hk k (by simp);rw[<-G0,bj];have h1:=FK nd hz;have nk':=gv.1 nk;have h2:=Xu ks (K3 L (z.num:Int)) (gO (iD _ cV) nd) nk'.2 (λj hj=>by
   obtain⟨y,hy,e⟩:=hk j (cN _ hj);exact⟨y,xz.2 ⟨hy,λe2=>nk'.1 (by rw[<-e2,e];exact hj)⟩,e⟩)
  omega
theorem xC {L:List Cp} {ks:List Int} {z:Cp} :z∈EJ L ks↔z∈L/\(z.num:Int)∉ks:=by unfold EJ;simp[aY]
theorem K6 {L:List E} {ks:List Int} {e:E} :e∈zS L ks↔e∈L/\e.1∉ks:=by unfold zS;simp[aY]
theorem aaT {L:List Cp} {ks:List Int} {z:Cp} :z∈xB L ks↔ ∃y∈L,z=if(y.num:Int)∈ks then { y with ses:=0,dl:=0 } else y:=by
 unfold xB;rw[bn];exact⟨λ⟨y,h1,h2⟩=>⟨y,h1,h2.symm⟩,λ⟨y,h1,h2⟩=>⟨y,h1,h2.symm⟩⟩
theorem ady (O:Ord s) (x:Ev):((vq s.L x).map (λz=>(z.num:Int))).Nodup:=by
 have:((vq s.L x).map Cp.num).Nodup:=gO (iD _ cV) O.nd;have e:(vq s.L x).map (λz=>(z.num:Int))=((vq s.L x).map Cp.num).map (λn:Nat=>(n:Int)):=by rw[fH];rfl
 rw[e];exact List.Pairwise.map _ (λa b h=>by omega) this
theorem BQ.outs (ok:BQ s) (O:Ord s) {ks:List Int} (nk:ks.Nodup) (hk: ∀k∈ks,∃z∈s.L,(z.num:Int)=k) (hL:s'.L=EJ s.L ks) (h1:s'.E1=zS s.E1 ks) (h2:s'.E2=zS s.E2 ks) (hn:s'.next=s.next) (hc:s'.iR+s'.over+s'.gone=s.iR+s.over+s.gone+ks.length):BQ s':=by
 refine⟨λy hy=> ?_,λy hy=> ?_,λe=> ?_,λe=> ?_,?_⟩
 ·rw[hL,xC] at hy;rw[hn];exact ok.bd y hy.1
 ·rw[hL,xC] at hy;exact ok.sp y hy.1
 ·rw[h1,K6,ok.e1,hL];constructor
  ·rintro⟨⟨y,hy,rfl⟩,kB⟩;exact⟨y,xC.2 ⟨hy,kB⟩,rfl⟩
  ·rintro⟨y,hy,rfl⟩;have:=xC.1 hy;exact⟨⟨y,this.1,rfl⟩,this.2⟩
 ·rw[h2,K6,ok.e2,hL];constructor
  ·rintro⟨⟨y,hy,hs,rfl⟩,kB⟩;exact⟨y,xC.2 ⟨hy,kB⟩,hs,rfl⟩
  ·rintro⟨y,hy,hs,rfl⟩;have:=xC.1 hy;exact⟨⟨y,this.1,hs,rfl⟩,this.2⟩
 ·have:=Xu ks s.L O.nd nk hk;have:=ok.KE;rw[hn,hL];omega
theorem BQ.drop (ok:BQ s) (O:Ord s) (x:Ev):BQ (Ij s x):=by
 unfold Ij;rw[G5];refine ok.outs O (ady O x) (λk hk=> ?_) rfl rfl rfl rfl (by show s.iR+s.over+(s.gone+_)=_;omega);obtain⟨z,hz,e⟩:=bn.1 hk;exact⟨z,(aY.1 hz).1,e⟩
theorem Jg (O:Ord s) {e:E} :e∈cu.due s.E1 now↔e∈s.E1/\e.2<=now:=by
 rw[(jj O.o1).1,aY];unfold pS;simp
theorem aaU (O:Ord s) (now:Int):(keys (cu.due s.E1 now)).Nodup:=by
 unfold keys;exact gO (iD _ (List.takeWhile_sublist _)) O.n1
theorem PK (ok:BQ s) (O:Ord s) {z:Cp} (hz:z∈s.L):(z.num:Int)∈keys (cu.due s.E1 now)↔(z.cG:Int)<=now:=by
 unfold keys;rw[bn];constructor
 ·rintro⟨e,he,e1⟩;obtain⟨h1,h2⟩:=(Jg O).1 he;obtain⟨y,hy,rfl⟩:=(ok.e1 e).1 h1;obtain rfl:=O.inj hy hz (Int.ofNat.inj e1);exact h2
 ·intro h;exact⟨(z.num,z.cG),(Jg O).2 ⟨(ok.e1 _).2 ⟨z,hz,rfl⟩,h⟩,rfl⟩
theorem akh (ok:BQ s) (O:Ord s) {k:Int} (hk:k∈keys (cu.due s.E1 now)): ∃z∈s.L,(z.num:Int)=k:=by
 unfold keys at hk;obtain⟨e,he,rfl⟩:=bn.1 hk;obtain⟨z,hz,rfl⟩:=(ok.e1 e).1 ((Jg O).1 he).1;exact⟨z,hz,rfl⟩
theorem aaV (O:Ord s):zS (cu.rest s.E1 now) (keys (cu.due s.E1 now))=zS s.E1 (keys (cu.due s.E1 now)):=by
 rw[(jj O.o1).1,(jj O.o1).2];unfold zS keys;rw[List.filter_filter];apply fG
 intro e he;by_cases hd:pS now e=true
 ·have:e.1∈(s.E1.filter (pS now)).map (·.1):=bB (aY.2 ⟨he,hd⟩);simp only[this,decide_true,dX,gL]
 ·simp[hd]
def um (now:Int) (z:Cp):Cp:=if z.ses≠0/\(z.dl:Int)<=now then { z with ses:=0,dl:=0 } else z
def adz (s:CF) (now:Int):CF:= { L:=EJ s.L (keys (cu.due s.E1 now)),next:=s.next,iR:=s.iR,over:=s.over+(keys (cu.due s.E1 now)).length,gone:=s.gone,E1:=zS s.E1 (keys (cu.due s.E1 now)),E2:=zS s.E2 (keys (cu.due s.E1 now)) }
def adA (s1:CF) (now:Int):CF:=(keys (cu.due s1.E2 now)).foldl (λs k=>CZ s k.toNat) { s1 with E2:=cu.rest s1.E2 now }
theorem adB (O:Ord s):oI s now=adA (adz s now) now:=by
 unfold oI adA adz;dsimp only;rw[NF];dsimp only;rw[aaV O]
theorem NH (ok:BQ s) (O:Ord s) (now:Int):BQ (oI s now)/\(∀z,z∈(oI s now).L↔ ∃y∈s.L,now<(y.cG:Int)/\z=um now y)/\(oI s now).next=s.next/\(oI s now).E1.length<=s.E1.length/\(oI s now).E2.length<=s.E2.length/\(oI s now).L=(s.L.filter (λy=>decide (now<(y.cG:Int)))).map (um now)/\(oI s now).iR=s.iR/\(oI s now).over=s.over+(cu.due s.E1 now).length/\(oI s now).gone=s.gone:=by
 rw[adB O];generalize EZ:adz s now=s1;have ok1:BQ s1:=by
  subst EZ;exact ok.outs O (aaU O now) (λk hk=>akh ok O hk) rfl rfl rfl rfl (by show s.iR+(s.over+_)+s.gone=_;omega)
 have O1:Ord s1:=by
  subst EZ;exact⟨gO (iD _ cV) O.nd,iL _ O.o1,iL _ O.o2,gO (iD _ cV) O.n1,gO (iD _ cV) O.n2⟩
 have m1: ∀z,z∈s1.L↔z∈s.L/\now<(z.cG:Int):=λz=>by
  subst EZ;show z∈EJ _ _↔_;rw[xC];constructor
  ·rintro⟨h1,h2⟩;exact⟨h1,Int.not_le.1 (λe=>h2 ((PK ok O h1).2 e))⟩
  ·rintro⟨h1,h2⟩;exact⟨h1,λe=>absurd ((PK ok O h1).1 e) (Int.not_le.2 h2)⟩
 have n1:s1.next=s.next:=by subst EZ;rfl
 have l1:s1.E1.length<=s.E1.length:=by subst EZ;exact cJ _ _
 have l2:s1.E2.length<=s.E2.length:=by subst EZ;exact cJ _ _
 have c1:s1.iR=s.iR/\s1.over=s.over+(cu.due s.E1 now).length/\s1.gone=s.gone:=by subst EZ;exact⟨rfl,by show s.over+(keys _).length=_;unfold keys;rw[aN],rfl⟩
 have L1:s1.L=s.L.filter (λy=>decide (now<(y.cG:Int))):=by
  subst EZ;show EJ _ _=_;unfold EJ;refine fG λz hz=> ?_
  have:=PK (now:=now) ok O hz;by_cases hd:(z.cG:Int)<=now
  ·rw[ay (this.2 hd),decide_eq_false (Int.not_lt.2 hd)];rfl
  ·rw[decide_eq_false (λe=>hd (this.1 e)),ay (Int.not_le.1 hd)];rfl
 clear EZ;have dm: ∀e,e∈cu.due s1.E2 now↔e∈s1.E2/\e.2<=now:=λe=>by
  rw[(jj O1.o2).1,aY];unfold pS;simp
 have dn: ∀z∈s1.L,((z.num:Int)∈keys (cu.due s1.E2 now)↔z.ses≠0/\(z.dl:Int)<=now):=λz hz=>by
  unfold keys;rw[bn];constructor
  ·rintro⟨e,he,e1⟩;obtain⟨h1,h2⟩:=(dm e).1 he;obtain⟨y,hy,hs,rfl⟩:=(ok1.e2 e).1 h1;obtain rfl:=O1.inj hy hz (Int.ofNat.inj e1);exact⟨hs,h2⟩
  ·rintro⟨h1,h2⟩;exact⟨(z.num,z.dl),(dm _).2 ⟨(ok1.e2 _).2 ⟨z,hz,h1,rfl⟩,h2⟩,rfl⟩
 have dp: ∀k∈keys (cu.due s1.E2 now),0<=k:=λk hk=>by
  unfold keys at hk;obtain⟨e,he,rfl⟩:=bn.1 hk;obtain⟨z,hz,_,rfl⟩:=(ok1.e2 e).1 ((dm e).1 he).1;show(0:Int)<=(z.num:Int);omega
 unfold adA;rw[NG _ _ dp];have fz: ∀z∈s1.L,(if(z.num:Int)∈keys (cu.due s1.E2 now) then({ z with ses:=0,dl:=0 } :Cp) else z)=um now z:=λz hz=>by
  unfold um;by_cases hd:z.ses≠0/\(z.dl:Int)<=now
  ·rw[ag hd,ag ((dn z hz).2 hd)]
  ·rw[ai hd,ai (λe=>hd ((dn z hz).1 e))]
 have fm: ∀z,z∈xB s1.L (keys (cu.due s1.E2 now))↔ ∃y∈s1.L,z=um now y:=λz=>by
  rw[aaT];constructor
  ·rintro⟨y,hy,rfl⟩;exact⟨y,hy,fz y hy⟩
  ·rintro⟨y,hy,rfl⟩;exact⟨y,hy,(fz y hy).symm⟩
 have aki: ∀y,(um now y).num=y.num:=λy=>by unfold um;split<;>rfl
 have aiu: ∀y,(um now y).cG=y.cG:=λy=>by unfold um;split<;>rfl
 have fd: ∀y,(um now y).d=y.d:=λy=>by unfold um;split<;>rfl
 refine⟨⟨λz hz=> ?_,λz hz=> ?_,λe=> ?_,λe=> ?_,?_⟩,λz=> ?_,n1,l1,?_,?_,c1⟩
 ·obtain⟨y,hy,rfl⟩:=(fm z).1 hz;rw[aki,fd];exact ok1.bd y hy
 ·obtain⟨y,hy,rfl⟩:=(fm z).1 hz;unfold um;split
  ·exact gh _
  ·exact ok1.sp y hy
 ·show e∈s1.E1↔ ∃z∈xB _ _,_;rw[ok1.e1];constructor
  ·rintro⟨y,hy,rfl⟩;exact⟨_,(fm _).2 ⟨y,hy,rfl⟩,by rw[aki,aiu]⟩
  ·rintro⟨z,hz,rfl⟩;obtain⟨y,hy,rfl⟩:=(fm z).1 hz;exact⟨y,hy,by rw[aki,aiu]⟩
 ·show e∈zS (cu.rest s1.E2 now) _↔ ∃z∈xB _ _,_;rw[K6,(jj O1.o2).2,aY];constructor
  ·rintro⟨⟨h1,h2⟩,h3⟩;obtain⟨y,hy,hs,rfl⟩:=(ok1.e2 e).1 h1;have hd: ¬(y.ses≠0/\(y.dl:Int)<=now):=λhd=>h3 ((dn y hy).2 hd)
   refine⟨_,(fm _).2 ⟨y,hy,rfl⟩,?_⟩;unfold um;rw[ai hd];exact⟨hs,rfl⟩
  ·rintro⟨z,hz,hs,rfl⟩;obtain⟨y,hy,rfl⟩:=(fm z).1 hz;unfold um at hs⊢;by_cases hd:y.ses≠0/\(y.dl:Int)<=now
   ·rw[ag hd] at hs;exact absurd rfl hs
   ·rw[ai hd] at hs⊢;refine⟨⟨(ok1.e2 _).2 ⟨y,hy,hs,rfl⟩,?_⟩,λhk=>hd ((dn y hy).1 hk)⟩;have: ¬(y.dl:Int)<=now:=λe=>hd ⟨hs,e⟩
    unfold pS;simpa using this
 ·have:=ok1.KE;show s1.next=1+(xB _ _).length+_+_+_;unfold xB;rw[aN];exact this
 ·show z∈xB _ _↔_;rw[fm];constructor
  ·rintro⟨y,hy,rfl⟩;have:=(m1 y).1 hy;exact⟨y,this.1,this.2,rfl⟩
  ·rintro⟨y,hy,hn,rfl⟩;exact⟨y,(m1 y).2 ⟨hy,hn⟩,rfl⟩
 ·refine dw (cJ _ _) (dw (K4 _ _) l2)
 ·show xB _ _=_;rw[<-L1];exact fW fz
end hU
end
section
variable {h:aj} {R:iI}
theorem Cq.walk {xa:Bool} {xc:Int} {x_2:Int} {Kb:ByteArray} {x_4:ByteArray} (hv:aV h (.cells #[.bool xa,.U xc,.U x_2,.string Kb,.string x_4] T.az) λb aR=>Hs aR b 3 λt4=>(((⟨#[47,47]⟩:ByteArray).size+t4.size:Nat):Int)<=IntKind.max .i64/\((((⟨#[47,47]⟩:ByteArray)++t4).size+(⟨#[47]⟩:ByteArray).size:Nat):Int)<=IntKind.max .i64/\Hs aR b 4 λt8=>(((((⟨#[47,47]⟩:ByteArray)++t4)++(⟨#[47]⟩:ByteArray)).size+t8.size:Nat):Int)<=IntKind.max .i64/\R (.string ((((⟨#[47,47]⟩:ByteArray)++t4)++(⟨#[47]⟩:ByteArray))++t8)) aR):Cl F.Cq #[.agg #[.bool xa,.U xc,.U x_2,.string Kb,.string x_4]] h R:=aS (lq ll) Tryz.func136 hv
end
section
namespace qJ
variable {h h':aj} {R:iI}
theorem DB (a b:List UInt8):str a++str b=str (a++b):=by
 unfold str;apply ByteArray.ext
 rw[ByteArray.data_append];simp
theorem C4 (a:List UInt8):(str a).size=a.length:=by unfold str;rfl
theorem FQ (s:ByteArray):s=str s.data.toList:=(abP s).symm
theorem zU (s:ByteArray):s.data.toList.length=s.size:=by rw[fU];rfl
theorem aqD:IntKind.max .i64=9223372036854775807:=rfl
theorem agk (x:Ev) (h1:x.host.size<=1000) (h2:x.sN.size<=1000) (hk: ∀h',Fr No h h'->R (.string (str ([47,47]++x.host.data.toList++ [47]++x.sN.data.toList))) h'):Cl F.Cq #[uH x] h R:=by
 refine Cq.walk (az.box λb h3 eb hb f3=>⟨_,af hb rfl,?_⟩);have e1:(⟨#[47,47]⟩:ByteArray)=str [47,47]:=rfl;have e2:(⟨#[47]⟩:ByteArray)=str [47]:=rfl;have l1:=zU x.host;have l2:=zU x.sN;have K:=hk h3 f3;rw[e1,e2,aqD];refine⟨?_,?_,_,af hb rfl,?_,?_⟩
 ·rw[C4];simp;omega
 ·rw[FQ x.host,DB,C4,C4];simp;omega
 ·rw[FQ x.host,DB,DB,C4];simp;omega
 ·rw[FQ x.host,FQ x.sN,DB,DB,DB];exact K
def an4 (x:Ev):List UInt8:=
 if x=.zero then [100,116,110,58,110,111,110,101]
 else if x.vE=true then [105,112,110,58]++Lib.decDigits x.node.toNat++ [46]++Lib.decDigits x.ma.toNat
 else [100,116,110,58]++([47,47]++x.host.data.toList++ [47]++x.sN.data.toList)
end qJ
end
section
open Go.jH Go.rO
namespace hU
open qJ cu vg
variable {h h':aj} {R:iI} {t:Nat} {X:Ft} {s:CF} {m a1 a2:Nat} {xs:List CV} {S1 S2:Nat→Prop} {fY:Nat→Option Nat} {p:bV} {n:Nat}
structure okZ (z:Cp):Prop where
 r:dk z.e=true
 v:0<=z.e.ma
 d:z.d.length<=600
 n:z.num<=1000000
 t:z.cG<=1099511627776
 s0:0<=z.ses
 s1:z.ses<=1099511627776
 l:z.dl<=1099511627776
abbrev PL (y:CV):List Value:= [.int .i64 (y.num:Int),.bool y.e.vE,.int .u64 y.e.node,.int .u64 y.e.ma,.string y.e.host,.string y.e.sN,y.v.val,.int .u64 (y.cG:Int),.int .i64 y.ses,.int .u64 (y.dl:Int)]
theorem lj (y:CV):(PL y).length=10:=rfl
theorem akj (y:CV): ∀v∈PL y,jg v=true:=by
 intro v hv;simp only[PL,bQ,List.not_mem_nil,or_false] at hv;rcases hv with rfl|rfl|rfl|rfl|rfl|rfl|rfl|rfl|rfl|rfl<;>rfl
theorem tA:Ap Tryz.prog T.rE T.aJ 10 112 (.agg #[.I 0,.bool false,.U 0,.U 0,.string ⟨#[]⟩,.string ⟨#[]⟩,.Z,.U 0,.I 0,.U 0]):=⟨by kernel_rfl,by kernel_rfl,rfl⟩
theorem uA:Tryz.prog.underlying T.rE=some (.slice T.aJ):=by kernel_rfl
theorem Xv (H:Ct h t X s) (sm:Small s) (hd: ∀z∈s.L,z.d.length<=600) (hk: ∀h' p' c' (ys:List CV),iS h' p' ys.length c' 10 (ys.flatMap PL)->ys.map CV.abs=s.L->(∀y∈ys,BV.ok h' (λz=>h.size<=z) y.v)->(∀y,aQ p' y->h.size<=y)->Fr No h h'->R (.slice p' ys.length c') h'):Cl F.lV #[.P t 0] h R:=by
 obtain⟨m,xs,a1,S1,a2,S2,fY,H⟩:=H;have sl:=sm.l;have xl:=H.len;refine lV.walk (K1 H (by omega) λh1 p1 c1 o1 n1 f1=>⟨_,_,_,rfl,?_⟩);refine⟨λop ol oc q g=> ∃(k:Nat) (ys:List CV),q=(k:Int)/\k<=xs.length/\ol=ys.length/\ys.length=k/\iS g op ol oc 10 (ys.flatMap PL)/\(∀y,aQ op y->h1.size<=y)/\ys.map CV.abs=s.L.take k/\(∀y∈ys,BV.ok g (λz=>h1.size<=z) y.v)/\(∀y∈ys,∀z,aQ y.v.p z->y.v.b≠ []->¬aQ op z)/\Fr No h1 g,λ_ _ _ q _=>xs.length - q.toNat,
  ⟨0, [],rfl,by omega,rfl,rfl,.nil rfl rfl rfl rfl,(λy ⟨a,e,_⟩=>by cases e),by simp,(λy hy=>by cases hy),(λy hy=>by cases hy),Fr.refl _ _⟩,?_⟩
 rintro op ol oc _ g ⟨k,ys,rfl,hkn,rfl,hyl,o,QK,hab,K7,an5,fg⟩;have Gg:=H.on (f1.tt fg);by_cases jc:k<xs.length
 ·have q1:(k:Int)<(xs.length:Int):=by omega
  simp only[q1,decide_true,bA,aL];have hx:xs[k]? =some xs[k]:=au jc;generalize xs[k]=v at hx;have hLk:s.L[k]? =some v.abs:=by rw[<-H.abs,aO,hx];rfl
  have hv:=bt hx;have hvd:v.v.b.length<=600:=hd v.abs (bt hLk);have og:=o1.frame fg (λ_ _=>id);obtain⟨ab,AH,rfl⟩:=og.addr (by omega);have cn:=og.cell (j:=k) (v:=jJ (v.num:Int)) (by unfold tV;rw[fH,aO,hx];rfl);have aqE:=Gg.Si v hv;refine⟨⟨by first|trivial|omega,by first|trivial|omega⟩,aB.2 ⟨_,by rw[cO];exact cn,_,af Gg.dF rfl,_,look Gg hv,aB.2 (aJ.ld aqE (aJ.new λb2 h2 e2 fJ f2=>⟨_,_,_,af fJ rfl,mz ((Gg.PB v hv).row.frame f2 (λ_ _=>id)) rfl (by omega) λp3 c3 h3 o3 f3 n3=>⟨_,_,_,rfl,?_⟩⟩))⟩⟩;have kT:=f3.get fJ id;refine bM kT (by simp) λh4 a4 s4 o4=> ?_
  have f4:Fr (λy=>y=b2) h3 h4:=⟨by omega,λy _ hn=>o4 y hn⟩;have lb2:=aI fJ;have a4':aJ.at h4 b2 (v.num:Int) v.e.vE v.e.node v.e.ma v.e.host v.e.sN p3 v.v.b.length c3 (v.cG:Int) v.ses (v.dl:Int):=a4;refine aJ.ld a4' ?_;have zg:=fg.1;have z2:=f2.1;have z3:=f3.1;have F4:Fr No g h4:=(f2.tt f3).fresh f4 (λy e=>by omega);have oo:=o.frame F4 (λ_ _=>id);refine qb tA uA oo rfl (λw hw=>akj ({ v with v:=⟨p3,c3,v.v.b⟩ } :CV) w (by simpa using hw)) (by omega) (by omega) λp5 c5 h5 o5 f5 g5=>⟨_,_,_,rfl,?_⟩
  have z4:=F4.1;have z5:=f5.1;rw[bL (by omega) (by omega)];have o3':iS h4 p3 v.v.b.length c3 1 (bc v.v.b):=o3.frame f4 (λy hy e=>by have:=n3 y hy;omega);have n3': ∀y,aQ p3 y->g.size<=y/\y<h4.size:=λy hy=>⟨by have:=n3 y hy;omega,o3'.gn hy⟩
  have opl: ∀y,aQ op y->y<g.size:=λy hy=>o.gn hy
  refine⟨⟨k+1,ys++ [{ v with v:=⟨p3,c3,v.v.b⟩ }],by omega,by omega,by rw[aF];rfl,by rw[aF];show ys.length+1=_;omega,?_,λy hy=>(g5 y hy).elim (QK y) (λh1=>by omega),?_,?_,?_,(fg.tt F4).fresh f5 QK⟩,by show xs.length - Int.toNat ((k:Int)+1)<xs.length - k;omega⟩
  ·rw[dJ];simpa using o5
  ·rw[bm,hab,bZ,hLk];rfl
  ·intro y hy;rcases bU.1 hy with hy|hy
   ·have r1:=(K7 y hy).row.frame F4 (λ_ _=>id);refine⟨?_,(K7 y hy).own,(K7 y hy).cap⟩;by_cases kB:y.v.b= []
    ·rw[kB];exact Row.nil
    ·exact r1.frame f5 (λa ea hq=>an5 y hy a.block ⟨a,ea,rfl⟩ kB hq)
   ·obtain rfl:=bW.1 hy;exact BV.wM (o3'.frame f5 (λy hy hq=>by have:=n3' y hy;have:=opl y hq;omega)) (λy hy=>by have:=n3' y hy;omega)
  ·intro y hy z hz kB hq;rcases bU.1 hy with hy|hy
   ·rcases g5 z hq with h1|h1
    ·exact an5 y hy z hz kB h1
    ·have:=qO (K7 y hy).row (by intro e;apply kB;have:=bp List.length e;rw[sV] at this;exact List.length_eq_zero_iff.1 this) hz;omega
   ·obtain rfl:=bW.1 hy;rcases g5 z hq with h1|h1
    ·have:=(n3' z hz).1;have:=opl z h1;omega
    ·have:=(n3' z hz).2;omega
 ·have q1: ¬(k:Int)<(xs.length:Int):=by omega
  simp only[q1,decide_false,aA,aU];rw[bT (by omega)] at hab;have z1:=f1.1;exact hk g op oc ys o hab (λy hy=>⟨(K7 y hy).row,λe z hz=>by have:=(K7 y hy).own e z hz;omega,(K7 y hy).cap⟩) (λy hy=>by have:=QK y hy;omega) (f1.tt fg)
theorem PM (H:Ct h t X s) (sm:Small s) (hd: ∀z∈s.L,z.d.length<=600) (hk: ∀h' p' c' (ys:List CV),iS h' p' ys.length c' 10 (ys.flatMap PL)->ys.map CV.abs=s.L->(∀y∈ys,Row h' y.v.p (bc y.v.b))->Fr No h h'->R (.slice p' ys.length c') h'):Cl F.lV #[.P t 0] h R:=
 Xv H sm hd λh' p' c' ys o e r _ f=>hk h' p' c' ys o e (λy hy=>(r y hy).row) f
def Vm (L:List Cp) (x:Ev):Nat:=((vq L x).filter (λz=>decide (z.ses=0))).length
theorem adC (H:Ct h t X s) (sm:Small s) (x:Ev) (hk: ∀h',Fr No h h'->R (.I (Vm s.L x:Int)) h'):Cl F.ml #[.P t 0,uH x] h R:=by
 obtain⟨m,xs,a1,S1,a2,S2,fY,H⟩:=H;have sl:=sm.l;have xl:=H.len;refine ml.walk (az.box λb h1 eb hb f1=>az.ld hb (Ns (H.on f1) x (by omega) λh2 p2 c2 o2 n2 f2=>⟨_,_,_,rfl,?_⟩));have F2:=f1.tt f2;generalize hys:xs.filter (λy=>decide (y.e=x))=ys at o2⊢;have qZ: ∀y∈ys,y∈xs:=λy hy=>by rw[<-hys] at hy;exact(aY.1 hy).1
 have hab:ys.map CV.abs=vq s.L x:=by unfold vq;rw[<-H.abs,eM,<-hys];rfl
 have yl:ys.length<=50000:=by rw[<-hys];exact dw (cJ _ _) (by omega)
 refine⟨λn q g=> ∃k:Nat,q=(k:Int)/\k<=ys.length/\n=((((ys.take k).map CV.abs).filter (λz=>decide (z.ses=0))).length:Int)/\g=h2,λ_ q _=>ys.length - q.toNat,⟨0,rfl,by omega,by simp,rfl⟩,?_⟩;rintro _ _ _ ⟨k,rfl,hkn,rfl,rfl⟩;have hle:(((ys.take k).map CV.abs).filter (λz=>decide (z.ses=0))).length<=k:=dw (cJ _ _) (by rw[aN,bR];omega);have Gg:=H.on F2;by_cases jc:k<ys.length
 ·have q1:(k:Int)<(ys.length:Int):=by omega
  simp only[q1,decide_true,bA,aL];have hx:ys[k]? =some ys[k]:=au jc;generalize ys[k]=v at hx;have hv:=qZ v (bt hx);obtain⟨ab,AH,rfl⟩:=o2.addr (by omega);have cn:=o2.cell (j:=k) (v:=jJ (v.num:Int)) (by unfold tV;rw[fH,aO,hx];rfl);have e1:(((ys.take (k+1)).map CV.abs).filter (λz=>decide (z.ses=0))).length=(((ys.take k).map CV.abs).filter (λz=>decide (z.ses=0))).length+if v.ses=0 then 1 else 0:=by
   rw[bZ,hx,bm,iE,aF];congr 1
   by_cases hs:v.ses=0
   ·have:v.abs.ses=0:=hs;simp[hs,this]
   ·have: ¬v.abs.ses=0:=hs;simp[hs,this]
  refine aK.of λJ hJ=>⟨⟨by first|trivial|omega,by first|trivial|omega⟩,aB.2 ⟨_,by rw[cO];exact cn,_,af Gg.dF rfl,_,look Gg hv,aB.2 ⟨_,af (Gg.Si v hv) rfl,aK.of λJ1 pB=> ?_⟩⟩⟩
  subst pB;subst hJ;dsimp only;rw[bL (n:=(k:Int)+1) (by omega) (by omega)];by_cases hs:v.ses=0
  ·rw[ag (by simpa using hs),bL (by omega) (by omega)];rw[ag hs] at e1;exact⟨⟨k+1,by omega,by omega,by omega,rfl⟩,by show ys.length - Int.toNat ((k:Int)+1)<ys.length - k;omega⟩
  ·rw[ai (by simpa using hs)];rw[ai hs] at e1;exact⟨⟨k+1,by omega,by omega,by omega,rfl⟩,by show ys.length - Int.toNat ((k:Int)+1)<ys.length - k;omega⟩
 ·have q1: ¬(k:Int)<(ys.length:Int):=by omega
  simp only[q1,decide_false,aA,aU];rw[bT (by omega),hab];exact hk _ F2
end hU
end
section
open Go.rO
namespace hU
open qJ
structure OP where
 kind:Int
 num:Int
 ses:Int
 e:Ev
 p:bV
 c:Nat
 b:List UInt8
 cG:Nat
end hU
end
section
open Go.jH Go.rO
namespace hU
open qJ cu vg
variable {s s':CF} {k:Nat} {f:OP}
theorem Xw {α:Type} [DecidableEq α]: ∀ {l1 l2:List α},l1.Nodup->(∀a∈l1,a∈l2)->l1.length<=l2.length
 | [],_,_,_=>cp _
 |a::l,l2,h,hs=>by
  obtain⟨h1,h2⟩:=gv.1 h;have:=Xw (l1:=l) (l2:=l2.erase a) h2 (λb hb=>(List.mem_erase_of_ne (λe=>h1 (by rw[<-e];exact hb))).2 (hs b (cN _ hb)));have h3:=List.length_erase_of_mem (hs a (by simp));have h4:0<l2.length:=List.length_pos_of_mem (hs a (by simp));rw[bj];omega
theorem akk {α:Type} [DecidableEq α] {l1 l2:List α} (h1:l1.Nodup) (h2:l2.Nodup) (hs: ∀a,a∈l1↔a∈l2):l1.length=l2.length:=
 Nat.le_antisymm (Xw h1 (λa ha=>(hs a).1 ha)) (Xw h2 (λa ha=>(hs a).2 ha))
theorem K8 (ok:BQ s) (O:Ord s):s.E2.length=(s.L.filter (λz=>decide (z.ses≠0))).length:=by
 have e:((s.L.filter (λz=>decide (z.ses≠0))).map (λz=>(((z.num:Int),(z.dl:Int)):E))).length=(s.L.filter (λz=>decide (z.ses≠0))).length:=aN ..;rw[<-e];refine akk ?_ ?_ λa=> ?_
 ·have:=O.n2;unfold keys at this;exact(gj.1 this).imp (λh e=>h (bp _ e))
 ·have h1:((s.L.filter (λz=>decide (z.ses≠0))).map Cp.num).Nodup:=gO (iD _ cV) O.nd;exact gj.2 ((gj.1 h1).imp (λh e=>h (Int.ofNat.inj (bp Prod.fst e))))
 ·rw[ok.e2,bn];constructor
  ·rintro⟨z,hz,hs,rfl⟩;exact⟨z,aY.2 ⟨hz,ay hs⟩,rfl⟩
  ·rintro⟨z,hz,rfl⟩;obtain⟨h1,h2⟩:=aY.1 hz;exact⟨z,h1,of_decide_eq_true h2,rfl⟩
theorem okZ.free {z:Cp} (k:okZ z):okZ { z with ses:=0,dl:=0 } :=⟨k.r,k.v,k.d,k.n,k.t,by show(0:Int)<=0;omega,by show(0:Int)<=1099511627776;omega,by show 0<=1099511627776;omega⟩
theorem okZ.Ny {z:Cp} (k:okZ z) {ses:Int} {dl:Nat} (hm:DM ses dl):okZ { z with ses:=ses,dl:=dl } :=⟨k.r,k.v,k.d,k.n,k.t,by have:=hm.1;show 0<=ses;omega,hm.2.1,hm.2.2⟩
structure Good (s:CF) (k:Nat):Prop where
 ok:BQ s
 all: ∀z∈s.L,okZ z
 may: ∀z∈s.L,FO z.e z.d.length (z.cG:Int)=true
 fr: ∀z∈s.L,z.ses=0->z.dl=0
 full: ∀e,(vq s.L e).length<=16
 len:s.next<=k+1
theorem Good.nil:Good ⟨[],1,0,0,0, [], []⟩ 0:=⟨⟨(λz hz=>by cases hz),(λz hz=>by cases hz),(λe=>by simp),(λe=>by simp),rfl⟩,(λz hz=>by cases hz),(λz hz=>by cases hz),(λz hz=>by cases hz),λ_=>cp _,bh _⟩
theorem Good.L (G:Good s k):s.L.length<=k/\s.iR<=k/\s.over<=k/\s.gone<=k:=by
 have:=G.ok.KE;have:=G.len;omega
theorem Good.small (G:Good s k) (O:Ord s) (hk:k<=40000):Small s:=by
 have h1:=G.L;have h2:=G.len;have nd: ∀ {l:List E},(keys l).Nodup->l.Nodup:=fun {l} hn=>(gj.1 hn).imp (λh e=>h (bp _ e))
 have e1:s.E1.length<=s.L.length:=by
  have:=Xw (l2:=s.L.map (λz=>(((z.num:Int),(z.cG:Int)):E))) (nd O.n1) (λe he=>by
   obtain⟨z,hz,rfl⟩:=(G.ok.e1 e).1 he;exact bn.2 ⟨z,hz,rfl⟩)
  rwa[aN] at this
 have e2:s.E2.length<=s.L.length:=by
  rw[K8 G.ok O];exact cJ _ _
 exact⟨by omega,by omega,by omega,by omega⟩
theorem Good.held (G:Good s k):Sk s:=λj hj=>by
 unfold keys at hj;obtain⟨e,he,rfl⟩:=bn.1 hj;obtain⟨z,hz,_,rfl⟩:=(G.ok.e2 e).1 he;exact⟨z,hz,rfl⟩
theorem Good.more (G:Good s k):Good s (k+1):=⟨G.ok,G.all,G.may,G.fr,G.full,by have:=G.len;omega⟩
theorem Good.sub (G:Good s k) (TQ:BQ s') (P:Cp->Bool) (g:Cp->Cp) (hg: ∀z,(g z).e=z.e/\(g z).d=z.d/\(g z).cG=z.cG) (hz: ∀z∈s.L,okZ (g z)/\((g z).ses=0->(g z).dl=0)) (hL:s'.L=(s.L.filter P).map g) (hn:s'.next=s.next):Good s' (k+1):=by
 have mem: ∀z∈s'.L,∃y∈s.L,z=g y:=λz hz=>by
  rw[hL] at hz;obtain⟨y,hy,rfl⟩:=bn.1 hz;exact⟨y,(aY.1 hy).1,rfl⟩
 refine⟨TQ,λz h=> ?_,λz h=> ?_,λz h=> ?_,λe=> ?_,by have:=G.len;omega⟩
 ·obtain⟨y,hy,rfl⟩:=mem z h;exact(hz y hy).1
 ·obtain⟨y,hy,rfl⟩:=mem z h;rw[(hg y).1,(hg y).2.1,(hg y).2.2];exact G.may y hy
 ·obtain⟨y,hy,rfl⟩:=mem z h;exact(hz y hy).2
 ·have h1:vq s'.L e=(vq (s.L.filter P) e).map g:=by
   rw[hL];unfold vq;rw[eM];congr 1
   refine fG λz _=> ?_
   show decide ((g z).e=e)=decide (z.e=e);rw[(hg z).1]
  rw[h1,aN];exact dw ((List.Sublist.filter _ cV).length_le) (G.full e)
theorem aaW (L:List Cp):L.filter (λ_=>true)=L:=cI.2 λ_ _=>rfl
theorem Good.set (G:Good s k) (TQ:BQ s') {n:Nat} {ses:Int} {dl:Nat} (h0:DM ses dl\/(ses=0/\dl=0)) (hL:s'.L=zR s.L n ses dl) (hn:s'.next=s.next):Good s' (k+1):=by
 refine G.sub TQ (λ_=>true) (λx=>if x.num=n then { x with ses:=ses,dl:=dl } else x) (λz=>by split<;>exact⟨rfl,rfl,rfl⟩) (λz hz=> ?_) (by rw[aaW];exact hL) hn;split
 ·rcases h0 with h0|⟨rfl,rfl⟩
  ·exact⟨(G.all z hz).Ny h0,λe=>by have:=h0.1;dsimp only at e;omega⟩
  ·exact⟨(G.all z hz).free,λ_=>rfl⟩
 ·exact⟨G.all z hz,G.fr z hz⟩
theorem Good.out (G:Good s k) (TQ:BQ s') {P:Cp->Bool} (hL:s'.L=s.L.filter P) (hn:s'.next=s.next):Good s' (k+1):=
 G.sub TQ P id (λ_=>⟨rfl,rfl,rfl⟩) (λz hz=>⟨G.all z hz,G.fr z hz⟩) (by rw[List.map_id];exact hL) hn
instance (ses : Int) (dl : Nat) : Decidable (DM ses dl) := by unfold DM; infer_instance
def doS (f:OP) (s:CF):CF:=
 if f.kind=0 then sk s f.e f.b f.cG
 else if f.kind=1 then(if DM f.ses f.cG then(match tO s.L f.e with|none=>s|some z=>xy s z f.ses f.cG) else s)
 else if f.kind=2 then vY s f.num f.ses
 else if f.kind=3 then IT s f.num f.ses
 else if f.kind=4 then oI s (f.cG:Int)
 else if f.kind=5 then Ij s f.e
 else s
theorem Good.do (G:Good s k) (O:Ord s) (hsv:0<=f.e.ma) (hk:k<=30000):Good (doS f s) (k+1):=by
 unfold doS;split
 ·
  have TQ:=G.ok.add f.e f.b f.cG;by_cases h0:oz s f.e f.b f.cG=0
  ·have eF:sk s f.e f.b f.cG= { s with L:=s.L++ [⟨s.next,f.e,f.b,f.cG,0,0⟩],next:=s.next+1,E1:=Kx s.E1 (s.next:Int) (f.cG:Int) } :=ag h0;have hm:FO f.e f.b.length (f.cG:Int)=true/\(vq s.L f.e).length<16:=by
    unfold oz at h0;split at h0
    ·rename_i hm;refine⟨hm,?_⟩;split at h0
     ·cases h0
     ·omega
    ·cases h0
   have hp:dk f.e=true/\f.b.length<=600/\f.cG<=1099511627776:=by
    have:=hm.1;unfold FO at this;simp only[aW,Bool.not_eq_true',bf,decide_eq_false_iff_not] at this;exact⟨this.1,by omega,by omega⟩
   have ln:=G.len;rw[eF] at TQ⊢;have mem: ∀ {Q:Cp->Prop},(∀z∈s.L,Q z)->Q ⟨s.next,f.e,f.b,f.cG,0,0⟩->∀z∈s.L++ [⟨s.next,f.e,f.b,f.cG,0,0⟩],Q z:=λh1 h2 z hz=>by
    rcases bU.1 hz with hz|hz
    ·exact h1 z hz
    ·obtain rfl:=bW.1 hz;exact h2
   refine⟨TQ,mem G.all ⟨hp.1,hsv,hp.2.1,by show s.next<=1000000;omega,hp.2.2,by show(0:Int)<=0;omega,by show(0:Int)<=1099511627776;omega,by show 0<=1099511627776;omega⟩,mem G.may hm.1,mem G.fr (λ_=>rfl),λe=> ?_,by show s.next+1<=_;omega⟩;show(vq (s.L++ [⟨s.next,f.e,f.b,f.cG,0,0⟩]) e).length<=16;unfold vq;rw[iE,aF];have g1:=G.full e;have g2:=hm.2;unfold vq at g1 g2;by_cases he:f.e=e
   ·subst he;simp;omega
   ·simp[he];exact g1
  ·have eF:sk s f.e f.b f.cG=s:=ai h0;rw[eF];exact G.more
 split
 ·
  split
  ·rename_i hm;cases hl:tO s.L f.e with
   |none=>exact G.more
   |some z=>exact G.set (G.ok.Ny O (Vk hl).1 hm) (.inl hm) rfl rfl
  ·exact G.more
 split
 ·
  have TQ:=G.ok.ack O f.num f.ses;unfold vY at TQ⊢;split
  ·rename_i h0;rw[ag h0] at TQ;exact G.out TQ (P:=λx=> !decide ((x.num:Int)=f.num)) rfl rfl
  ·exact G.more
 split
 ·
  have TQ:=G.ok.rel O f.num f.ses;unfold IT at TQ⊢;split
  ·rename_i h0;rw[ag h0] at TQ;exact G.set TQ (.inr ⟨rfl,rfl⟩) rfl rfl
  ·exact G.more
 split
 ·
  obtain⟨h1,_,h3,_,_,h6,_⟩:=NH G.ok O (f.cG:Int);refine G.sub h1 _ (um (f.cG:Int)) (λz=>by unfold um;split<;>exact⟨rfl,rfl,rfl⟩) (λz hz=> ?_) h6 h3;unfold um;split
  ·exact⟨(G.all z hz).free,λ_=>rfl⟩
  ·exact⟨G.all z hz,G.fr z hz⟩
 split
 ·
  have e:=G5 ((vq s.L f.e).map (λz=>(z.num:Int))) s;refine G.out (G.ok.drop O f.e) (P:=λz=> !decide ((z.num:Int)∈(vq s.L f.e).map (λz=>(z.num:Int)))) ?_ ?_
  ·unfold Ij;rw[e];rfl
  ·unfold Ij;rw[e]
 ·exact G.more
end hU
end
end Go.Proofs.YtlenamcfacpheaaGreatDoor
namespace Go.Den
def PN:List Value->Nat->List Value->List Value
 |cs,_, []=>cs
 |cs,p,v::vs=>PN (cs.set p v) (p+1) vs
theorem iS.gY {a:Addr} {len cap sz p:Nat} {K:aj->Prop} : ∀(vs:List Value) (k:Nat) (h:aj) (cs:List Value),iS h (.some a) len cap sz cs->(∀v∈vs,jg v=true)->p+k+vs.length<=cs.length->
  (∀h',iS h' (.some a) len cap sz (PN cs (p+k) vs)->h'.size=h.size->(∀x,¬aQ (.some a) x->h'[x]? =h[x]?)->K h')->Den.gY (a.add p) vs k h K
 | [],k,h,cs,o,_,_,hk=>hk h o rfl (λ_ _=>rfl)
 |v::vs,k,h,cs,o,hv,hl,hk=>by
  rw[bj] at hl;unfold Den.gY;rw[hv v dY];dsimp only;rw[add_add];refine o.store (by omega) λh1 o1 s1 q1=> ?_
  refine iS.gY vs (k+1) h1 _ o1 (λu hu=>hv u (cN _ hu)) (by rw[eX];omega) λh2 o2 s2 q2=>hk h2 ?_ (by omega) (λx hx=>by rw[q2 x hx,q1 x hx])
  unfold PN;rw[show p+k+1=p+(k+1) by omega];exact o2
end Go.Den
namespace Go.Proofs.YtlenamcfacpheaaGreatDoor
open Go.Den
open IntKind (wrap)
open Int (toNat)
section
open Go.jH
namespace j8
open qJ vg
variable {r:Rg}
structure okR (r:Rg):Prop where
 rt:nB r=true
 sv:0<=r.e.ma
theorem okR.e (k:okR r):dk r.e=true/\0<=r.uF/\r.uF<=2/\1<=r.own/\r.own<=1099511627776:=by
 have:=k.rt;unfold nB at this;simp only[aW,Bool.not_eq_true',bf,decide_eq_false_iff_not] at this;exact⟨this.1,this.2.2.1.1,this.2.2.1.2,this.2.2.2.1,this.2.2.2.2⟩
end j8
end
section
open Go.jH
namespace j8
open qJ vg
variable {L:List Rg}
structure TN (L:List Rg):Prop where
 len:L.length<=8
 all: ∀r∈L,okR r
theorem TN.add (k:TN L) (r:Rg) (hs:0<=r.e.ma):TN (IN L r):=by
 unfold IN;rcases K0 L r with⟨_,e⟩|⟨_,_,e⟩|⟨_,_,_,e⟩|⟨h1,_,h3,e⟩<;>rw[e]
 ·exact k
 ·exact k
 ·exact k
 ·rw[ag rfl];exact⟨by rw[ac7];omega,λz hz=>(Sb.1 hz).elim (λe=>e▸⟨h1,hs⟩) (k.all z)⟩
theorem TN.rem (k:TN L) (x:Ev) (o:Int):TN (KZ L x o):=by
 unfold KZ;split
 ·exact⟨dw (cJ _ _) k.len,λz hz=>k.all z (aY.1 hz).1⟩
 ·exact k
theorem TN.uF (k:TN L) (x:Ev) (o q:Int):TN (Sc L x o q):=by
 unfold Sc;split
 ·rename_i he;have hq:0<=q/\q<=2:=by
   unfold aaK at he;split at he
   ·assumption
   ·cases he
  refine⟨by unfold U3;rw[aN];exact k.len,λz hz=> ?_⟩;obtain⟨y,hy,rfl⟩:=bn.1 hz;have ky:=k.all y hy;split
  ·refine⟨?_,ky.sv⟩;have h1:=ky.rt;unfold nB at h1⊢;simp only[aW,Bool.not_eq_true',bf,decide_eq_false_iff_not] at h1⊢;exact⟨h1.1,h1.2.1,⟨hq.1,hq.2⟩,h1.2.2.2⟩
  ·exact ky
 ·exact k
end j8
end
section
namespace gK
open lJ (It)
open qJ (Ev dk)
variable {σ:SS} {k:Nat}
structure Good (σ:SS) (k:Nat):Prop where
 a:gU.Dx σ.A
 g:j8.TN σ.G
 c:hU.Good σ.C k
 b:σ.B.next<=k+1
 v:σ.B.over<=k
 q:σ.Q=σ.B.items
 ok:D0 σ.Q
 n:σ.now<=1099511627776
 e:dk σ.e=true/\σ.e≠Ev.zero/\0<=σ.e.ma
 t:σ.tm<=1099511627776/\σ.sq<=1099511627776
 r:σ.rf<=k
def G8 (e:Ev):SS:=⟨[], [],⟨[],1,0,0,0, [], []⟩,⟨[],1,0,0,0⟩, [],e,0,0,0,0⟩
theorem Good.new {e:Ev} (h1:dk e=true) (h2:e≠Ev.zero) (h3:0<=e.ma):Good (G8 e) 0:=
 ⟨gU.Dx.nil,⟨cp _,λ_ h=>(by cases h)⟩,hU.Good.nil,bh _,bh _,rfl,D0.nil,cp _,⟨h1,h2,h3⟩,⟨cp _,cp _⟩,bh _⟩
def Eb (s:lJ.BS) (now:Nat):lJ.BS:= { s with items:=s.items.filter (λx=>decide ((now:Int)<(x.cG:Int))),over:=s.over+(s.items.filter (λx=>decide ((x.cG:Int)<=(now:Int)))).length }
def C6 (σ:SS) (now:Nat):Int:=if now>1099511627776 then 1 else if now<σ.now then 18 else 0
def NI (σ:SS) (now:Nat):SS:= { σ with C:=hU.oI σ.C (now:Int),B:=Eb σ.B now,Q:=(Eb σ.B now).items,now:=now }
def Sp (σ:SS) (now:Nat):SS:=if C6 σ now=0 then NI σ now else σ
theorem D0.filter {l:List It} (ok:D0 l) (P:It->Bool):D0 (l.filter P):=by
 induction l with
 |nil=>exact ok
 |cons x l ih=>
  rw[cD];split
  ·obtain⟨a,b,c,d,e,f⟩:=ok;have t1:Ho (l.filter P)<=Ho l:=by
    clear ih f e d;induction l with
    |nil=>exact gh _
    |cons y l ih=>rw[cD,qu];split<;>(try rw[qu])<;>omega
   have t2: ∀o,own (l.filter P) o<=own l o:=λo=>by
    clear ih f e d t1;induction l with
    |nil=>exact gh _
    |cons y l ih=>rw[cD,xo];split<;>(try rw[xo])<;>(try split)<;>omega
   rw[qu] at d e;have n1:=UJ (l:=l.filter P);refine⟨a,b,c,by rw[qu];omega,by rw[qu];omega,λk=>⟨UK,?_⟩⟩;have:=(f k).2;have:=t2 k;rw[xo] at*;omega
  ·exact ih ok.sub
theorem adD {s:hU.CF} (G:hU.Good s k) (O:hU.Ord s) (hk:k<=30000) (now:Nat):hU.Good (hU.oI s (now:Int)) (k+1):=by
 have h:=G.do (f:=⟨4,0,0,Ev.zero,none,0, [],now⟩) O (gh 0) hk;unfold hU.doS at h;exact h
theorem agl {s:hU.CF} (G:hU.Good s k) (O:hU.Ord s) (hk:k<=30000) (e:Ev) (he:0<=e.ma) (d:List UInt8) (cG:Nat):hU.Good (hU.sk s e d cG) (k+1):=by
 have h:=G.do (f:=⟨0,0,0,e,none,0,d,cG⟩) O he hk;unfold hU.doS at h;exact h
theorem Good.more (G:Good σ k):Good σ (k+1):=⟨G.a,G.g,G.c.more,by have:=G.b;omega,by have:=G.v;omega,G.q,G.ok,G.n,G.e,G.t,by have:=G.r;omega⟩
theorem Good.pass (G:Good σ k) (O:hU.Ord σ.C) (L:List Go.rO.E) (ok:lJ.okB σ.B L) (hk:k<=30000) (now:Nat):Good (Sp σ now) (k+1):=by
 unfold Sp;split
 ·rename_i h;have hn:now<=1099511627776:=by
   unfold C6 at h;split at h
   ·cases h
   ·omega
  have hc:=ok.KE;have hb:=G.b;have hl:(σ.B.items.filter (λx=>decide ((x.cG:Int)<=(now:Int)))).length<=σ.B.items.length:=cJ _ _;refine⟨G.a,G.g,adD G.c O hk now,by show σ.B.next<=_;omega,by show σ.B.over+_<=_;omega,rfl,?_,hn,G.e,G.t,by have:=G.r;show σ.rf<=_;omega⟩;show D0 (σ.B.items.filter _);rw[<-G.q];exact G.ok.filter _
 ·exact G.more
abbrev yA (l:List It) (owner:Int) (n:Nat):Bool:=vN.fits 4800 1600 (Ho l) (own l) owner (n:Int)
def IU (σ:SS) (owner:Int) (d:List UInt8) (cG:Nat):Int:=if σ.B.items.length≥16\/yA σ.Q owner d.length=false then 15 else lJ.oz σ.B owner d cG
def Vn (σ:SS) (owner:Int) (d:List UInt8) (cG:Nat):Int:=if σ.B.items.length≥16\/yA σ.Q owner d.length=false then 0 else lJ.Ml σ.B owner d cG
def zV (σ:SS) (owner:Int) (d:List UInt8) (cG:Nat):SS:=if IU σ owner d cG=0 then { σ with B:=lJ.R5 σ.B owner d cG,Q:=(lJ.R5 σ.B owner d cG).items } else σ
def NJ (σ:SS) (num owner:Int):SS:= { σ with B:=lJ.xq σ.B num owner,Q:=(lJ.xq σ.B num owner).items }
theorem D0.add {l:List It} {x:It} (ok:D0 l) (hf:yA l x.owner x.d.length=true):D0 (l++ [x]):=by
 have h:=vN.Ok.take ok hf;rw[WC,show Ho l+(x.d.length:Int)=Ho (x::l) by rw[qu];omega] at h;exact D0.perm h (fC _ _).symm
theorem NK {owner:Int} {d:List UInt8} {cG:Nat} (h:IU σ owner d cG=0):yA σ.Q owner d.length=true/\lJ.oz σ.B owner d cG=0:=by
 unfold IU at h;split at h
 ·cases h
 ·rename_i h1;cases hf:yA σ.Q owner d.length with
  |false=>exact absurd (.inr hf) h1
  |true=>exact⟨rfl,h⟩
theorem Good.put (G:Good σ k) (owner:Int) (d:List UInt8) (cG:Nat):Good (zV σ owner d cG) (k+1):=by
 unfold zV;split
 ·rename_i h;obtain⟨h1,h2⟩:=NK h;have e:lJ.R5 σ.B owner d cG= { σ.B with items:=σ.B.items++ [⟨σ.B.next,owner,d,cG⟩],next:=σ.B.next+1 } :=ag h2;rw[e];refine⟨G.a,G.g,G.c.more,by show σ.B.next+1<=_;have:=G.b;omega,by show σ.B.over<=_;have:=G.v;omega,rfl,?_,G.n,G.e,G.t,by show σ.rf<=_;have:=G.r;omega⟩;show D0 (σ.B.items++ [_]);rw[<-G.q];exact D0.add G.ok h1
 ·exact G.more
theorem Vo {s:lJ.BS} {num owner:Int} : ∃P:It->Bool,(lJ.xq s num owner).items=s.items.filter P/\(lJ.xq s num owner).next=s.next/\(lJ.xq s num owner).over=s.over:=by
 unfold lJ.xq;split
 ·exact⟨_,rfl,rfl,rfl⟩
 ·exact⟨λ_=>true,(cI.2 λ_ _=>rfl).symm,rfl,rfl⟩
theorem Good.EF (G:Good σ k) (num owner:Int):Good (NJ σ num owner) (k+1):=by
 obtain⟨P,h1,h2,h3⟩:=Vo (s:=σ.B) (num:=num) (owner:=owner);refine⟨G.a,G.g,G.c.more,by show(lJ.xq σ.B num owner).next<=_;rw[h2];have:=G.b;omega,by show(lJ.xq σ.B num owner).over<=_;rw[h3];have:=G.v;omega,rfl,?_,G.n,G.e,G.t,by show σ.rf<=_;have:=G.r;omega⟩;show D0 (lJ.xq σ.B num owner).items;rw[h1,<-G.q];exact G.ok.filter _
theorem Good.vp (G:Good σ k) (token:Nat):Good { σ with A:=gU.vp σ.A token } (k+1):=
 ⟨G.a.open token,G.g,G.c.more,by show σ.B.next<=_;have:=G.b;omega,by show σ.B.over<=_;have:=G.v;omega,G.q,G.ok,G.n,G.e,G.t,by show σ.rf<=_;have:=G.r;omega⟩
theorem Good.akl (G:Good σ k) (O:hU.Ord σ.C) (hk:k<=30000) (e:Ev) (he:0<=e.ma) (d:List UInt8) (cG:Nat):Good { σ with C:=hU.sk σ.C e d cG } (k+1):=
 ⟨G.a,G.g,agl G.c O hk e he d cG,by show σ.B.next<=_;have:=G.b;omega,by show σ.B.over<=_;have:=G.v;omega,G.q,G.ok,G.n,G.e,G.t,by show σ.rf<=_;have:=G.r;omega⟩
end gK
end
end Go.Proofs.YtlenamcfacpheaaGreatDoor
namespace Go.jH
structure RD where
 id:Nat
 err:Int
 num:Int
 count:Int
 token:Nat
 b:List UInt8
def RD.zero:RD:=⟨0,0,0,0,0, []⟩
def RD.xD (x:RD):Prop:=x.id<=1099511627776/\(0<=x.err/\x.err<=99)/\(0<=x.num/\x.num<=1099511627776)/\(0<=x.count/\x.count<=1099511627776)/\x.token<=2147483648/\x.b.length<=600/\(x.err≠0->x.num=0/\x.count=0/\x.token=0/\x.b= [])
instance (x : RD) : Decidable x.xD := by unfold RD.xD; infer_instance
def RD.same (x y:RD):Prop:=x.id=y.id/\x.err=y.err/\x.num=y.num/\x.count=y.count/\x.token=y.token/\x.b=y.b
instance (x y : RD) : Decidable (x.same y) := by unfold RD.same; infer_instance
def RD.enc (x:RD):List UInt8:=lE x.id++lE (pQ x.err)++lE (pQ x.num)++lE (pQ x.count)++lE x.token++AD x.b
structure RdS where
 x:RD
 e:Int
 rest:List UInt8
def rdR (top:Nat) (mo:Nat->Int->List UInt8->Nat×Int×List UInt8) (bs:List UInt8):RdS:=
 let a:=gA 0 bs
 let b:=mo top a.2.1 a.2.2
 let c:=mo 1099511627776 b.2.1 b.2.2
 let d:=mo 1099511627776 c.2.1 c.2.2
 let f:=gA d.2.1 d.2.2
 let g:=rJ f.2.1 f.2.2
 ⟨⟨a.1,(b.1:Int),(c.1:Int),(d.1:Int),f.1,g.1⟩,g.2.1,g.2.2⟩
def Ik (s:RdS):Option RD:=if Fm s.e s.rest=0/\s.x.xD then some s.x else none
def PO (bs:List UInt8):Option RD:=Ik (rdR 1099511627776 na bs)
theorem adE {x:RD} (hr:x.xD):PO x.enc=some x:=by
 obtain⟨h1,⟨h2,h2'⟩,⟨h3,h3'⟩,⟨h4,h4'⟩,h5,h6,_⟩:=id hr;have key:rdR 1099511627776 na x.enc=⟨x,0, []⟩:=by
  unfold rdR RD.enc;have e2:pQ x.err<=1099511627776:=by unfold pQ;omega
  have e3:pQ x.num<=1099511627776:=by unfold pQ;omega
  have e4:pQ x.count<=1099511627776:=by unfold pQ;omega
  simp only[dV];rw[yf (by omega)];dsimp only;rw[AE e2 (by omega)];dsimp only;rw[AE e3 (by omega)];dsimp only;rw[AE e4 (by omega)];dsimp only;rw[yf (by omega)];dsimp only;have:=Pe (t:=x.b) (by omega) [];rw[List.append_nil] at this;rw[this];cases x;unfold pQ at*;simp only[RdS.mk.injEq,RD.mk.injEq,and_true,true_and] at*;omega
 unfold PO Ik;rw[key];simp[hr,Fm]
theorem rX {x:RD} (hb:x.b.length<=600):x.enc.length<=700:=by
 have a1:=(j4 x.id).2;have a2:=(j4 (pQ x.err)).2;have a3:=(j4 (pQ x.num)).2;have a4:=(j4 (pQ x.count)).2;have a5:=(j4 x.token).2;have a6:=(j4 x.b.length).2;unfold RD.enc AD;simp only[aF];omega
end Go.jH
namespace Go.Proofs.YtlenamcfacpheaaGreatDoor
open Go.Den
open IntKind (wrap)
open Int (toNat)
section
namespace Ask
open qJ (Ev dk)
open gK (SS Good)
open Bn (oZ BP Prim xV LP vd Fi IF vA)
open Go.jH (RD)
variable {V:List UInt8→Bool} {σ:SS} {k:Nat} {ses:Int} {q:Rq}
def uD (now gJ:Nat):Nat:=min (now+gJ) 1099511627776
def zW (σ:SS):Option (Nat×Nat):=if σ.tm<σ.now then some (σ.now,0) else if 1099511627776<=σ.sq then none else some (σ.tm,σ.sq+1)
structure Ot where
 σ:SS
 e:Int
 num:Int
 KE:Int
 d:List UInt8
def bad (σ:SS) (e:Int):Ot:=⟨σ,e,0,0, []⟩
def BL (σ:SS) (ses:Int) (d:List UInt8) (cG:Nat) (n:Nat×Nat):Ot:=
 if gK.IU σ ses d cG=0 then⟨{ gK.zV σ ses d cG with tm:=n.1,sq:=n.2 },0,gK.Vn σ ses d cG,d.length, []⟩ else⟨σ,gK.IU σ ses d cG,gK.Vn σ ses d cG,d.length, []⟩
def vB (V:List UInt8->Bool) (σ:SS) (ses:Int) (b:BP) (n:Nat×Nat):Ot:=match vd V b with
 |none=>bad σ 3
 |some d=>BL σ ses d (uD σ.now b.p.gJ) n
def vr (q:Rq) (n:Nat×Nat):BP:=⟨⟨if q.on=true then 131072 else 0,0,q.dest,if q.on=true then q.ep else .zero,⟨q.ep,n.1,n.2⟩,q.gJ⟩, [⟨1,1,0,0,q.Bf⟩]⟩
def FR (V:List UInt8->Bool) (σ:SS) (ses:Int) (q:Rq):Ot:=
 if j8.oS σ.G q.ep ses=0 then(match zW σ with
  |none=>bad σ 5
  |some n=>vB V σ ses (vr q n) n)
 else bad σ (j8.oS σ.G q.ep ses)
def Vq (V:List UInt8->Bool) (d:List UInt8):Nat:=match Fi V d with| .ok b=>(IF b).length| .error _=>0
def dlN (σ:SS) (q:Rq):Nat:=uD σ.now q.kr.toNat
def Ec (V:List UInt8->Bool) (σ:SS) (ses:Int) (q:Rq):Ot:=
 if j8.oS σ.G q.ep ses=0 then
  if hU.DM ses (dlN σ q) then(match hU.tO σ.C.L q.ep with
   |none=>bad σ 4
   |some z=>⟨{ σ with C:=hU.xy σ.C z ses (dlN σ q) },0,(z.num:Int),(Vq V z.d:Int),z.d⟩)
  else bad σ 1
 else bad σ (j8.oS σ.G q.ep ses)
def adF (n m:Int):Bool:=IntKind.wrap .u64 ((BitVec.ofInt (IntKind.bits .u64) n &&& BitVec.ofInt (IntKind.bits .u64) m).toNat:Int)==0
def Il (p:Prim):Bool:= !adF (p.fl:Int) 131072 && adF (p.fl:Int) 2
def qN (V:List UInt8->Bool) (σ:SS) (ses:Int) (d:List UInt8):SS×Int:=match Fi V d with
 | .error _=>(σ,0)
 | .ok b=>if Il b.p=true then(match zW σ with
  |none=>(σ,0)
  |some n=>(match vA V ⟨false,true,false,0,σ.now,b.p.id⟩ b.p.rep ⟨σ.e,n.1,n.2⟩ b.p.gJ with
   |none=>(σ,0)
   |some r=>((vB V σ ses r n).σ,if(vB V σ ses r n).e=0 then 1 else 0)))
  else(σ,0)
def Mr (V:List UInt8->Bool) (σ:SS) (ses:Int) (num:Int):Ot:=
 if hU.pV σ.C.L num ses=0 then(match hU.GV σ.C.L num with
  |none=>bad { σ with C:=hU.vY σ.C num ses } 0
  |some z=>⟨(qN V { σ with C:=hU.vY σ.C num ses } ses z.d).1,0,0,(qN V { σ with C:=hU.vY σ.C num ses } ses z.d).2, []⟩)
 else bad σ (hU.pV σ.C.L num ses)
def Ha (σ:SS) (ses:Int) (on:Bool):Ot:=
 if gU.GP σ.A ses=0 then⟨{ σ with A:=gU.Nr (gU.qT σ.A ses on) ses },gU.acX (gU.qT σ.A ses on) ses,0,gU.WJ (gU.qT σ.A ses on) ses,gU.Nq (gU.qT σ.A ses on) ses⟩
 else bad σ (gU.GP σ.A ses)
def C7 (V:List UInt8->Bool) (σ:SS) (ses:Int) (q:Rq):Ot:=
 if q.kind=1 then bad { σ with G:=j8.IN σ.G ⟨q.ep,q.uF,ses⟩ } (j8.oz σ.G ⟨q.ep,q.uF,ses⟩)
 else if q.kind=2 then(if j8.oS σ.G q.ep ses=0 then⟨{ σ with G:=j8.KZ σ.G q.ep ses,C:=hU.Ij σ.C q.ep },0,0,((hU.vq σ.C.L q.ep).length:Int), []⟩ else bad σ (j8.oS σ.G q.ep ses))
 else if q.kind=3 then bad { σ with G:=j8.Sc σ.G q.ep ses q.uF } (j8.aaK σ.G q.ep ses q.uF)
 else if q.kind=4 then FR V σ ses q
 else if q.kind=5 then bad (gK.NJ σ q.num ses) (lJ.yx σ.B q.num ses)
 else if q.kind=6 then⟨σ,j8.oS σ.G q.ep ses,(hU.Vm σ.C.L q.ep:Int),0, []⟩
 else if q.kind=7 then Ec V σ ses q
 else if q.kind=8 then Mr V σ ses q.num
 else if q.kind=9 then bad { σ with C:=hU.IT σ.C q.num ses } (hU.pV σ.C.L q.num ses)
 else if q.kind=10 then Ha σ ses q.on
 else bad σ 3
def vC (id:Nat) (o:Ot):RD:=if o.e=0 then⟨id,0,o.num,o.KE,0,o.d⟩ else⟨id,o.e,0,0,0, []⟩
def wrR (x:RD):List UInt8:=if x.xD then x.enc else []
def C9 (id:Nat) (e:Int):RD:=⟨id,e,0,0,0, []⟩
def AT (V:List UInt8->Bool) (σ:SS) (ses:Int) (q:Rq):SS×RD:=
 if pD q=true/\q.kind<11 then
  if gU.UP σ.A ses=true then(match gU.xp σ.A ses q.id with
   |some b=>(σ,(Go.jH.PO b).getD RD.zero)
   |none=>({ (C7 V σ ses q).σ with A:=gU.tJ (C7 V σ ses q).σ.A ses q.id (wrR (vC q.id (C7 V σ ses q))) },vC q.id (C7 V σ ses q)))
  else(σ,C9 q.id 16)
 else(σ,C9 q.id 3)
theorem Good.zR {C:hU.CF} (G:gK.Good σ k) (c:hU.Good C (k+1)):gK.Good { σ with C:=C } (k+1):=
 ⟨G.a,G.g,c,by show σ.B.next<=_;have:=G.b;omega,by show σ.B.over<=_;have:=G.v;omega,G.q,G.ok,G.n,G.e,G.t,by show σ.rf<=_;have:=G.r;omega⟩
theorem Good.yP {A:List gU.gU} (G:gK.Good σ k) (a:gU.Dx A):gK.Good { σ with A:=A } k:=⟨a,G.g,G.c,G.b,G.v,G.q,G.ok,G.n,G.e,G.t,G.r⟩
theorem Good.akm {L:List j8.Rg} (G:gK.Good σ k) (a:j8.TN L):gK.Good { σ with G:=L } k:=⟨G.a,a,G.c,G.b,G.v,G.q,G.ok,G.n,G.e,G.t,G.r⟩
theorem Good.mk {t s:Nat} (G:gK.Good σ k) (ht:t<=1099511627776) (hs:s<=1099511627776):gK.Good { σ with tm:=t,sq:=s } k:=⟨G.a,G.g,G.c,G.b,G.v,G.q,G.ok,G.n,G.e,⟨ht,hs⟩,G.r⟩
theorem K9 (G:gK.Good σ k) {n:Nat×Nat} (h:zW σ=some n):n.1<=1099511627776/\n.2<=1099511627776:=by
 unfold zW at h;have:=G.n;have:=G.t;split at h
 ·cases h;exact⟨by assumption,by show 0<=_;omega⟩
 split at h
 ·cases h
 ·cases h;exact⟨G.t.1,by show σ.sq+1<=_;omega⟩
theorem Good.BL (G:gK.Good σ k) (ses:Int) (d:List UInt8) (cG:Nat) {n:Nat×Nat} (h:n.1<=1099511627776/\n.2<=1099511627776):gK.Good (BL σ ses d cG n).σ (k+1):=by
 unfold Ask.BL;split
 ·exact Good.mk (gK.Good.put G ses d cG) h.1 h.2
 ·exact gK.Good.more G
theorem Good.vB (G:gK.Good σ k) (ses:Int) (b:BP) {n:Nat×Nat} (h:n.1<=1099511627776/\n.2<=1099511627776):gK.Good (vB V σ ses b n).σ (k+1):=by
 unfold Ask.vB;split
 ·exact gK.Good.more G
 ·exact Good.BL G _ _ _ h
theorem Good.tell (G:gK.Good σ k) (ses:Int) (d:List UInt8):gK.Good (qN V σ ses d).1 (k+1):=by
 unfold qN;split
 ·exact gK.Good.more G
 split
 ·split
  ·exact gK.Good.more G
  ·rename_i n hn;split
   ·exact gK.Good.more G
   ·exact Good.vB G _ _ (K9 G hn)
 ·exact gK.Good.more G
theorem Good.doC (G:gK.Good σ k) (O:hU.Ord σ.C) (hk:k<=30000) (f:hU.OP) (hs:0<=f.e.ma):gK.Good { σ with C:=hU.doS f σ.C } (k+1):=Good.zR G (G.c.do O hs hk)
theorem Good.C7 (G:gK.Good σ k) (O:hU.Ord σ.C) (hk:k<=30000) (hs:0<=q.ep.ma):gK.Good (C7 V σ ses q).σ (k+2):=by
 unfold Ask.C7;split
 ·exact gK.Good.more (gK.Good.more (Good.akm G (G.g.add _ hs)))
 split
 ·split
  ·have h:=Good.doC G O hk ⟨5,0,0,q.ep,none,0, [],0⟩ hs;exact gK.Good.more (Good.akm h (G.g.rem _ _))
  ·exact gK.Good.more (gK.Good.more G)
 split
 ·exact gK.Good.more (gK.Good.more (Good.akm G (G.g.uF _ _ _)))
 split
 ·unfold FR;split
  ·split
   ·exact gK.Good.more (gK.Good.more G)
   ·rename_i n hn;exact gK.Good.more (Good.vB G _ _ (K9 G hn))
  ·exact gK.Good.more (gK.Good.more G)
 split
 ·exact gK.Good.more (gK.Good.EF G _ _)
 split
 ·exact gK.Good.more (gK.Good.more G)
 split
 ·unfold Ec;split
  ·split
   ·rename_i hm;have h:=Good.doC G O hk ⟨1,0,ses,q.ep,none,0, [],dlN σ q⟩ hs;unfold hU.doS at h;rw[ai (show¬(1:Int)=0 by decide),ag (show(1:Int)=1 from rfl),ag hm] at h;dsimp only at h;split
    ·exact gK.Good.more (gK.Good.more G)
    ·rename_i z hz;rw[hz] at h;exact gK.Good.more h
   ·exact gK.Good.more (gK.Good.more G)
  ·exact gK.Good.more (gK.Good.more G)
 split
 ·unfold Mr;have h:=Good.doC G O hk ⟨2,q.num,ses,.zero,none,0, [],0⟩ (gh 0);split
  ·split
   ·exact gK.Good.more h
   ·exact Good.tell h _ _
  ·exact gK.Good.more (gK.Good.more G)
 split
 ·have h:=Good.doC G O hk ⟨3,q.num,ses,.zero,none,0, [],0⟩ (gh 0);exact gK.Good.more h
 split
 ·unfold Ha;split
  ·exact gK.Good.more (gK.Good.more (Good.yP G ((G.a.watch _ _).read _)))
  ·exact gK.Good.more (gK.Good.more G)
 ·exact gK.Good.more (gK.Good.more G)
theorem Good.AT (G:gK.Good σ k) (O:hU.Ord σ.C) (hk:k<=30000) (hs:0<=q.ep.ma):gK.Good (AT V σ ses q).1 (k+2):=by
 have h:=Good.C7 (V:=V) (ses:=ses) G O hk hs;have m:=gK.Good.more (gK.Good.more G);unfold Ask.AT;split
 ·split
  ·split
   ·exact m
   ·exact Good.yP h (h.a.vW _ _ _)
  ·exact m
 ·exact m
section
open gU
variable {A : List gU.gU} {m n : Int}
theorem La {s s':gU.gU} (hs:vo A n=some s):vo (yP A n s') m=if m=n then some s' else vo A m:=by
 obtain⟨i,rfl,hi⟩:=GO hs;have hl:=(aG.1 hi).1;unfold vo gU.yP;rw[show((i:Int)+1 - 1).toNat=i by omega];by_cases e:m=(i:Int)+1
 ·subst e;rw[jy,ag rfl,show((i:Int)+1 - 1).toNat=i by omega,List.getElem?_set_self hl]
 ·rw[ai e];split
  ·rw[List.getElem?_set_ne (by omega)]
  ·rfl
theorem PQ {id:Nat} {d:List UInt8} :UP (tJ A n id d) m=UP A m:=by
 unfold tJ;split
 ·rfl
 ·rename_i s hs;split
  ·rfl
  ·unfold UP;rw[La hs];by_cases e:m=n
   ·subst e;rw[ag rfl,hs]
   ·rw[ai e]
theorem Vr {l:List (Nat×List UInt8)} {id j:Nat} {d:List UInt8} (hj:j≠id) (h:Ie l j=none):Ie (nL l id d) j=none:=by
 unfold Ie at h⊢;rw[Option.map_eq_none_iff,List.find?_eq_none] at h⊢;have h2: ∀x∈l.filter (λa=>decide (a.1≠id))++ [(id,d)],¬decide (x.1=j)=true:=λx hx=>by
  rcases bU.1 hx with hx|hx
  ·exact h x (aY.1 hx).1
  ·simp at hx;subst hx;simpa using λe=>hj e.symm
 intro x hx;unfold nL at hx;split at hx
 ·exact h2 x (List.mem_of_mem_drop hx)
 ·exact h2 x hx
theorem aaX {id j:Nat} {d:List UInt8} (hj:m≠n\/j≠id) (h:xp A m j=none):xp (tJ A n id d) m j=none:=by
 unfold tJ;split
 ·exact h
 ·rename_i s hs;split
  ·exact h
  ·unfold xp at h⊢;rw[La hs];by_cases e:m=n
   ·subst e;rw[ag rfl];rw[hs] at h;exact Vr (hj.resolve_left (λf=>f rfl)) h
   ·rw[ai e];exact h
end
end Ask
end
section
open Go.jH Go.rO
namespace lJ
open vg
variable {h h' h0:aj} {b:Nat} {X:Ft} {R:iI} {p:bV} {c:Nat} {L:List E} {s:BS}
def IL (h0 h:aj) (p:bV) (l c:Nat) (items:List It):Prop:=
 ∃(ys:List IV) (D:Nat->Prop),l=ys.length/\iS h p l c 4 (ys.flatMap jJ)/\ys.map IV.abs=items/\(∀y∈ys,y.v.ok h D)/\(∀y,D y->h0.size<=y/\y<h.size/\¬aQ p y)/\∀y,aQ p y->h0.size<=y
theorem IL.len {l:Nat} {items:List It} (H:IL h0 h p l c items):l=items.length:=by
 obtain⟨ys,D,h1,_,h3,_⟩:=H;rw[h1,<-h3,aN]
theorem PM (H:Nt h b X s) (hk: ∀h' p' l' c',IL h h' p' l' c' s.items->Fr No h h'->R (.slice p' l' c') h'):Cl F.mg #[.P b 0] h R:=by
 obtain⟨L,⟨lp,lc,xs,a,S,H⟩,ok⟩:=H;obtain⟨hL,hxl⟩:=H.TN ok;refine mg.walk (ji H ⟨_,rfl,aK.of λJ hJ=> ?_⟩);simp only[bA];refine⟨_,_,_,af H.dF rfl,?_⟩;refine⟨λop ol oc t g=> ∃k:Nat,t=(k:Int)/\k<=xs.length/\IL h g op ol oc (s.items.take k)/\Fr No h g,λ_ _ _ t _=>xs.length - t.toNat,⟨0,rfl,by omega,⟨[],λ_=>False,rfl,.nil rfl rfl rfl rfl,by simp,(λy hy=>by cases hy),(λy hy=>hy.elim),λy ⟨a,e,_⟩=>by cases e⟩,Fr.refl _ _⟩,?_⟩;rintro op ol oc _ g ⟨k,rfl,hkn,I,fg⟩;have Mg:=H.on fg;by_cases jc:k<xs.length
 ·have q1:(k:Int)<(xs.length:Int):=by omega
  simp only[q1,decide_true,bA,aL];have hx:xs[k]? =some xs[k]:=au jc;generalize xs[k]=x at hx;obtain⟨ab,AH,rfl⟩:=Mg.own.addr (by omega);refine⟨⟨by first|trivial|omega,by first|trivial|omega⟩,aB.2 (aM.TL (Mg.own.lu mA hx) (aM.new λb1 h8 uh dx f8=>aM.ld dx ?_))⟩;have xit:s.items[k]? =some x.abs:=by rw[<-H.abs,aO,hx];rfl
  have hxd:=ok.it x.abs (bt xit);have dl:x.v.b.length<=600:=hxd.2.2.2.1;have aqF:=((Mg.PB x (bt hx)).row).frame f8 (λ_ _=>id);refine Dv aqF rfl (by omega) λh9 p9 c9 o9 f9 g9=>⟨_,_,_,_,_,_,rfl,?_⟩
  have F9:Fr No g h9:=f8.tt f9;obtain⟨ys,D,y1,y2,y3,y4,y5,y6⟩:=I;have yl:ys.length<=16:=by
   have:=bp List.length y3;rw[aN,bR] at this;omega
  have z9:=F9.1;have zg:=fg.1;have z8:=f8.1;refine qb tI uI (y2.frame F9 (λ_ _=>id)) rfl (λw hw=>by simp at hw;rcases hw with rfl|rfl|rfl|rfl<;>rfl) (by omega) (by omega) λp11 c11 yj o11 f11 g11=>⟨_,_,_,rfl,?_⟩
  rw[bL (by omega) (by omega)];have p9y: ∀y,aQ p9 y->g.size<=y/\y<h9.size:=λy hy=>⟨by have:=g9 y hy;omega,o9.gn hy⟩
  have z11:=f11.1;refine⟨⟨k+1,by omega,by omega,⟨ys++ [⟨x.num,x.owner,⟨p9,c9,x.v.b⟩,x.cG⟩],λy=>D y\/aQ p9 y,by rw[aF,y1];rfl,?_,?_,?_,?_,?_⟩,?_⟩,by show xs.length - Int.toNat ((k:Int)+1)<xs.length - k;omega⟩
  ·rw[dJ];simpa using o11
  ·rw[bm,y3,bZ,xit];rfl
  ·intro w hw;rcases bU.1 hw with hw|hw
   ·exact(((y4 w hw).frame F9 (λ_ _=>id)).frame f11 (λy hy=>(y5 y hy).2.2)).mono (λy=> .inl)
   ·obtain rfl:=bW.1 hw;exact BV.wM (o9.frame f11 (λy hy hq=>by have:=p9y y hy;have:=y2.gn hq;omega)) (λy=> .inr)
  ·rintro y (hy|hy)
   ·have a:=y5 y hy;exact⟨a.1,by omega,λhq=>(g11 y hq).elim a.2.2 (λh2=>by omega)⟩
   ·have a:=p9y y hy;exact⟨by omega,by omega,λhq=>(g11 y hq).elim (λh2=>by have:=y2.gn h2;omega) (λh2=>by omega)⟩
  ·intro y hy;rcases g11 y hy with h2|h2
   ·exact y6 y h2
   ·omega
  ·exact(fg.tt F9).fresh f11 y6
 ·have q1: ¬(k:Int)<(xs.length:Int):=by omega
  simp only[q1,decide_false,aA,aU];subst hJ;have hlen:=H.len;rw[bT (by omega)] at I;exact hk g op ol oc I fg
end lJ
end
section
variable {h:aj} {R:iI}
theorem wv.walk {adG:Bool} {adH:Int} {adI:Int} {adJ:ByteArray} {adK:ByteArray} (hv:aV h (.cells #[.bool adG,.U adH,.U adI,.string adJ,.string adK] T.az) λb aR=>az.LD aR (AA b 0) λMn GS Mo ac1 ac2=>Cl F.wx #[.agg #[.bool Mn,.U GS,.U Mo,.string ac1,.string ac2]] aR λv aZ=> ∃IP IS,v=.tuple #[.pointer IP,.I IS]/\if(IS !=0) then R (.tuple #[.pointer none,.I IS]) aZ else Cl F.za #[.I 4800,.I 1600] aZ λeK bK=> ∃vM rP,eK=.tuple #[.pointer vM,.I rP]/\if(rP !=0) then R (.tuple #[.pointer none,.I rP]) bK else Cl F.sW #[] bK λgS cC=>Vp gS λt22=>Cl F.Co #[] cC λkV cK=>Vp kV λt23=>Cl F.wR #[] cK λou cR=>Vp ou λt24=>Cl F.wS #[] cR λxw cX=>Vp xw λt25=>aV cX (.cells #[.pointer t22,.pointer t23,.pointer t24,.pointer t25,.pointer vM,.pointer IP,.U 0,.I 0] T.sJ) λcE dB=>R (.tuple #[.P cE 0,.I 0]) dB):Cl F.wv #[.agg #[.bool adG,.U adH,.U adI,.string adJ,.string adK]] h R:=aS (lq (lq (sq (lq (cq ll lf)) (lq (sq (lq (cq ll lf)) ll))))) Tryz.func8 hv
theorem jX.walk {s:Nat} (hv: ∃t9,ak h (AA s 0)=some (.pointer t9)/\if(!t9.isNone) then∃t16,ak h (AA s 1)=some (.pointer t16)/\if(!t16.isNone) then∃t23,ak h (AA s 2)=some (.pointer t23)/\if(!t23.isNone) then∃t30,ak h (AA s 3)=some (.pointer t30)/\if(!t30.isNone) then∃t37,ak h (AA s 4)=some (.pointer t37)/\if(!t37.isNone) then∃t44,ak h (AA s 5)=some (.pointer t44)/\R (.bool (!t44.isNone)) h else R (.bool false) h else R (.bool false) h else R (.bool false) h else R (.bool false) h else R (.bool false) h):Cl F.jX #[.P s 0] h R:=aS (lq ll) Tryz.func52 hv
theorem lT.walk {s:Nat} {now:Int} (hv:Cl F.jX #[.P s 0] h λv aR=> ∃t9,v=.bool t9/\if(!t9) then R (.I 6) aR else if(decide (now>1099511627776)) then R (.I 1) aR else∃t19,ak aR (AA s 6)=some (.U t19)/\if(decide (now<t19)) then R (.I 18) aR else aH aR (AA s 6) (.U now) λaZ=>Hp aZ s 2 λt28=>Cl F.mT #[.pointer t28,.U now] aZ λeK bK=>Vl eK λpd nK pO=>Hp bK s 3 λt34=>Cl F.oV #[.pointer t34,.U now] bK λgS cC=>Vl gS λSq NL Xx=> ∃(I:Int->aj->Prop) (mu:Int->aj->Nat),I 0 cC/\∀(t38:Int) (cK:aj),I t38 cK->if(decide (t38<(NL:Int))) then Bd t38 NL/\aP Sq λa=>aM.LD cK (a.add (toNat t38*4)) λxh xi PR PS PT Xy=>aV cK (.cells #[.I 0,.I 0,.Z,.U 0] T.aM) λb cR=>aM.ST cR (AA b 0) xh xi PR PS PT Xy λcX=>Hp cX s 4 λt45=>Hi cX b 1 λt47=>Hl cX b 2 λNl KK RY=>Cl F.jq #[.pointer t45,.I t47,.I (KK:Int)] cX λkV dB=>Vi kV λt51=>ak dB (AA b 2)=some (.slice Nl KK RY)/\(I (wrap .i64 (t38+1)) dB/\mu (wrap .i64 (t38+1)) dB<mu t38 cK) else R (.I 0) cK):Cl F.lT #[.P s 0,.U now] h R:=aS (lq (sq (bq (lq (cq ll (lq (cq ll (lq (cq ll lf))))))) (lq (lq (sq (lq (bq (.loop [(38,.one (.int .i64))] (lq (sq (cq lf lf) (sq (bq (lq (pN 10))) lf)))))) ll))))) Tryz.func16 hv
theorem oX.walk {s:Nat} {owner:Int} {hH:bV} {fT hN:Nat} {pT:Int} (hv:Cl F.jX #[.P s 0] h λv aR=> ∃t14,v=.bool t14/\if(!t14) then R (.tuple #[.I 0,.I 6]) aR else aK (λ(t16:Bool) (aZ:aj)=>if t16 then R (.tuple #[.I 0,.I 15]) aZ else Hp aZ s 3 λt39=>Cl F.qo #[.pointer t39,.I owner,.slice hH fT hN,.U pT] aZ λeK bK=> ∃Xz CG,eK=.tuple #[.I Xz,.I CG]/\aK (λ(cC:aj)=>R (.tuple #[.I Xz,.I CG]) cC) (λjo=>if(CG==0) then Hp bK s 4 λt51=>Cl F.lY #[.pointer t51,.I owner,.I (fT:Int)] bK λgS cK=> ∃t55,gS=.I t55/\jo cK else jo bK)) (λJ=>Hp aR s 3 λt20=>Cl F.mg #[.pointer t20] aR λkV cR=> ∃ve uc vG,kV=.slice ve uc vG/\if(decide ((uc:Int)≥16)) then J true cR else Hp cR s 4 λt28=>Cl F.om #[.pointer t28,.I owner,.I (fT:Int)] cR λou cX=> ∃t32,ou=.bool t32/\J (!t32) cX)):Cl F.oX #[.P s 0,.I owner,.slice hH fT hN,.U pT] h R:=aS (lq (sq (bq (lq (cq ll (sq (.join [(16,.one (.bool))] lf) (cq ll lf))))) (lq (sq (lq (.join [] (cq lf lf))) ll)))) Tryz.func191 hv
theorem mj.walk {s:Nat} {num:Int} {owner:Int} (hv:aV h (.cells #[.I num] T.int) λb aR=>Cl F.jX #[.P s 0] aR λv aZ=> ∃t11,v=.bool t11/\if(!t11) then R (.I 6) aZ else Hp aZ s 3 λt16=>Cl F.mg #[.pointer t16] aZ λeK bK=>Vl eK λXA XB aiv=>Hp bK s 3 λt21=>Hi bK b 0 λt22=>Cl F.mY #[.pointer t21,.I t22,.I owner] bK λgS cC=>Vi gS λt24=>Cl F.cz #[.slice XA XB aiv,.func (.func F.gx) #[] #[.P b 0]] cC λkV cK=>Vi kV λt27=>aK (λ(t33:Bool) (cR:aj)=>aK (λ(cX:aj)=>R (.I t24) cX) (λjo=>if t33 then Hp cR s 4 λt37=>Bd t27 XB/\aP XA λa=>L4 cR ((a.add (toNat t27*4)).add 2) λadL XC aiw=>Cl F.jq #[.pointer t37,.I owner,.I (XC:Int)] cR λou dB=>Vi ou λt45=>ak dB ((a.add (toNat t27*4)).add 2)=some (.slice adL XC aiw)/\jo dB else jo cR)) (λJ=>if(t24==0) then J (decide (t27≥0)) cK else J false cK)):Cl F.mj #[.P s 0,.I num,.I owner] h R:=aS (lq (sq (lq (cq ll lf)) (lq (sq (pN 8) (sq (lq (sq (.join [(33,.one (.bool))] lf) (.join [] (cq (pN 12) lf)))) ll))))) Tryz.func102 hv
theorem gx.walk {xa:Int} {xc:Int} {nh:bV} {ni nj:Nat} {Kb:Int} {c0:Nat} (hv:aV h (.cells #[.I xa,.I xc,.slice nh ni nj,.U Kb] T.aM) λb aR=>Hi aR b 0 λt5=> ∃t6,ak aR (AA c0 0)=some (.I t6)/\R (.bool (t5==t6)) aR):Cl F.gx #[.agg #[.I xa,.I xc,.slice nh ni nj,.U Kb],.P c0 0] h R:=aS (lq ll) Tryz.func154 hv
theorem wx.walk {Sr:Bool} {Ss:Int} {St:Int} {Su:ByteArray} {Sv:ByteArray} (hv:aV h (.cells #[.bool Sr,.U Ss,.U St,.string Su,.string Sv] T.az) λb aR=>aK (λ(t11:Bool) (aZ:aj)=>if t11 then R (.tuple #[.pointer none,.I 3]) aZ else az.LD aZ (AA b 0) λCK xj an6 acz an7=>aV aZ (.cells #[.bool CK,.U xj,.U an6,.string acz,.string an7,.U 0,.U 0,.bool true] T.HM) λcE bK=>R (.tuple #[.P cE 0,.I 0]) bK) (λJ=>az.LD aR (AA b 0) λO5 O6 Uo Uq Ur=>Cl F.kF #[.agg #[.bool O5,.U O6,.U Uo,.string Uq,.string Ur]] aR λv cC=> ∃t5,v=.bool t5/\if(!t5) then J true cC else az.LD cC (AA b 0) λMn GS Mo ac1 ac2=> ∃(eq:Bool),Hq Tryz.prog T.az (.agg #[.bool Mn,.U GS,.U Mo,.string ac1,.string ac2]) (.agg #[.bool false,.U 0,.U 0,.string ka,.string ka]) eq/\J eq cC)):Cl F.wx #[.agg #[.bool Sr,.U Ss,.U St,.string Su,.string Sv]] h R:=aS (lq (sq (sq (.join [(11,.one (.bool))] lf) (cq ll lf)) ll)) Tryz.func33 hv
theorem gQ.walk {m:Nat} (hv:aV h (.cells #[.bool false,.U 0,.U 0,.string ka,.string ka,.U 0,.U 0] T.ah) λb aR=>aK (λ(t11:Bool) (aZ:aj)=>if t11 then ah.ST aZ (AA b 0) false 0 0 ka ka 0 0 λbK=>ah.LD bK (AA b 0) λoQ ia oT pH yR KT UR=>R (.agg #[.bool oQ,.U ia,.U oT,.string pH,.string yR,.U KT,.U UR]) bK else ah.LD aZ (AA m 0) λvM rP Nu HY Nv an8 an9=>ah.ST aZ (AA b 0) vM rP Nu HY Nv an8 an9 λcC=>ah.LD cC (AA b 0) λnG nH uC xt xu AP KU=>R (.agg #[.bool nG,.U nH,.U uC,.string xt,.string xu,.U AP,.U KU]) cC) (λJ=> ∃t9,ak aR (AA m 7)=some (.bool t9)/\J (!t9) aR)):Cl F.gQ #[.P m 0] h R:=aS (lq (sq (sq (.join [(11,.one (.bool))] lf) (cq ll lf)) ll)) Tryz.func74 hv
theorem cz.cancel.walk {oD:bV} {mG qK:Nat} {RU:Nat} (hv: ∃(I:Int->aj->Prop) (mu:Int->aj->Nat),I 0 h/\∀(t8:Int) (aR:aj),I t8 aR->if(decide (t8<(mG:Int))) then Bd t8 mG/\aP oD λa=>aM.LD aR (a.add (toNat t8*4)) λBv uf FC FD FE acD=>Cl F.gx #[.agg #[.I Bv,.I uf,.slice FC FD FE,.U acD],.P RU 0] aR λv aZ=> ∃t16,v=.bool t16/\if t16 then R (.I t8) aZ else(I (wrap .i64 (t8+1)) aZ/\mu (wrap .i64 (t8+1)) aZ<mu t8 aR) else R (.I (-1)) aR):Cl F.cz #[.slice oD mG qK,.func (.func F.gx) #[] #[.P RU 0]] h R:=aS (lq (sq (lq (bq (.loop [(8,.one (.int .i64))] (lq (sq (cq lf lf) (sq (bq (lq (lq (cq ll lf)))) lf)))))) ll)) Tryz.func153 hv
end
section
namespace gK
open lJ (It)
open qJ (Ev dk uH)
variable {h h':aj} {R:iI} {s k:Nat} {X:Ft} {I:GX} {σ:SS}
theorem ji {n r:Nat} (B:Bk h s I n r) (hk:R (.bool true) h):Cl F.jX #[pt s] h R:=by
 refine jX.walk ?_;repeat (first|exact hk|refine⟨_,af B rfl,?_⟩|rw[ag rfl])
theorem Pt.put {n r:Nat} (H:Pt h s X I σ) (b:Bk h' s I n r) (hs:h'.size=h.size) (ho: ∀x,x≠s->h'[x]? =h[x]?): ∃X',Pt h' s X' I { σ with now:=n,rf:=r } /\bN X h X' h':=by
 obtain⟨Z,⟨hb,on⟩,zm,zd,go⟩:=H.use 6;obtain⟨X',H',st,_,_⟩:=go h' Z { σ with now:=n,rf:=r } ⟨b,on⟩ (bN.E9 (Fr.of_eq hs λc hc=>ho c (λe=>hc ((on c).1.2 e)))) (λi hi=>akf _ _ hi);exact⟨X',H',st⟩
theorem Pt.aoa {n o:Int} {x:It} {l:List It} (H:Pt h s X I σ) (e:σ.Q.Perm (x::l)) (ok:D0 σ.Q) (kx:okI x) (hn:n=(x.d.length:Int)) (ho:o=x.owner)
  (hk: ∀h' X',Pt h' s X' I { σ with Q:=l } ->bN X h X' h'->R (.I 0) h'):Cl F.jq #[pt I.p,.I o,.I n] h R:=by
 subst ho;obtain⟨Z,⟨m,P,on⟩,zm,zd,go⟩:=H.use 4;refine amB (P.perm e) (D0.perm ok e) kx hn λh' P' f'=> ?_
 obtain⟨X',H',st,_,_⟩:=go h' Z { σ with Q:=l } ⟨m,P',on⟩ (bN.E9 (f'.mono λy _ hy=>(on y).1.2 hy)) (λi hi=>Vf _ hi);exact hk h' X' H' st
theorem Pt.perm {l:List It} (H:Pt h s X I σ) (e:σ.Q.Perm l):Pt h s X I { σ with Q:=l } :=by
 obtain⟨Y,hp,r⟩:=H;refine⟨Y,λi=> ?_,r⟩;by_cases hi:i=4
 ·subst hi;obtain⟨m,P,on⟩:=hp 4;exact⟨m,P.perm e,on⟩
 ·rw[Vf _ hi];exact hp i
theorem Sw {l r:List It} (ok:D0 (l++r)): ∀j,D0 (l.drop j++r)
 |0=>ok
 |j+1=>by
  have h:=Sw ok j;rcases Nat.lt_or_ge j l.length with q|q
  ·rw[db q] at h;exact D0.sub h
  ·rw[List.drop_eq_nil_of_le q] at h;rw[List.drop_eq_nil_of_le (by omega)];exact h
theorem Pt.okB (H:Pt h s X I σ): ∃L,lJ.okB σ.B L:=by
 obtain⟨Z,L,B,ok⟩:=H.box;exact⟨L,ok⟩
theorem Pt.ord (H:Pt h s X I σ):hU.Ord σ.C:=by
 obtain⟨Y,hp,_⟩:=H;exact hU.Ct.ord (hp 2)
theorem adM {L:List Go.rO.E} {B:lJ.BS} (ok:lJ.okB B L) {x:It} (hx:x∈B.items):okI x:=by
 have:=ok.it x hx;exact⟨this.2.2.1,this.2.2.2.1,this.2.2.2.2.1,this.2.2.2.2.2.1⟩
theorem Good.small (G:Good σ k) (O:hU.Ord σ.C) (hk:k<=40000):hU.Small σ.C:=G.c.small O hk
theorem aaY {B:lJ.BS} {L:List Go.rO.E} (ok:lJ.okB B L) {P:It->Bool} {ys:List It} (hm: ∀y∈ys,y∈B.items) (hp:(ys.map It.kv).Perm ((B.items.filter P).map It.kv)):ys.Perm (B.items.filter P):=by
 have nd: ∀ {l:List It},l.Sublist B.items->(l.map It.num).Nodup:=λhs=>((ok.inc.sublist (hs.map It.num))).imp λh=>Nat.ne_of_lt h
 have n1:((ys.map It.kv).map (λe=>e.1)).Nodup:=by
  refine(hp.map _).nodup_iff.2 ?_;rw[fH];have:=nd (cV (l:=B.items) (p:=P));unfold List.Nodup at this⊢;rw[gj] at this⊢;exact this.imp λh e=>h (by have e:(_:Int)=(_:Int):=e;exact Int.ofNat.inj e)
 have n2:ys.Nodup:=by
  rw[fH] at n1;unfold List.Nodup at n1⊢;rw[gj] at n1;exact n1.imp λh e=>h (by rw[e])
 have n3:(B.items.filter P).Nodup:=by
  have:=nd (cV (l:=B.items) (p:=P));unfold List.Nodup at this⊢;rw[gj] at this;exact this.imp λh e=>h (by rw[e])
 rw[List.perm_ext_iff_of_nodup n2 n3];have inj: ∀x∈B.items,∀y∈B.items,x.kv=y.kv->x=y:=λx hx y hy e=>lJ.uniq ok.inc hx hy (by have e:(x.num:Int)=(y.num:Int):=bp Prod.fst e;exact Int.ofNat.inj e)
 intro x;constructor
 ·intro hx;obtain⟨y,hy,e⟩:=bn.1 (hp.mem_iff.1 (bn.2 ⟨x,hx,rfl⟩));rw[inj x (hm x hx) y (aY.1 hy).1 e.symm];exact hy
 ·intro hx;obtain⟨y,hy,e⟩:=bn.1 (hp.mem_iff.2 (bn.2 ⟨x,hx,rfl⟩));rw[inj x (aY.1 hx).1 y (hm y hy) e.symm];exact hy
theorem Vs (l:List It) (now:Nat):l.Perm (l.filter (λx=>decide ((x.cG:Int)<=(now:Int)))++l.filter (λx=>decide ((now:Int)<(x.cG:Int)))):=by
 have h:=(List.filter_append_perm (λx:It=>decide ((x.cG:Int)<=(now:Int))) l).symm;have e:(λx:It=> !decide ((x.cG:Int)<=(now:Int)))=λx:It=>decide ((now:Int)<(x.cG:Int)):=funext λx=>by
  by_cases q:(x.cG:Int)<=(now:Int)
  ·rw[ay q,decide_eq_false (by omega)];rfl
  ·rw[decide_eq_false q,ay (by omega)];rfl
 rw[e] at h;exact h
theorem AO {n:Int} (now:Nat) (hn:n=(now:Int)) (H:Pt h s X I σ) (G:Good σ k) (hk8:k<=30000)
  (hk: ∀h' X',Pt h' s X' I (Sp σ now)->bN X h X' h'->R (.I (C6 σ now)) h'):Cl F.lT #[pt s,.U n] h R:=by
 subst hn;have B:=H.dF;refine lT.walk (ji B ⟨_,rfl,?_⟩);rw[dM];unfold Sp at hk;by_cases h1:now>1099511627776
 ·have e:C6 σ now=1:=ag h1;rw[e,dM] at hk;rw[jy];exact hk h X H (bN.refl _ _)
 rw[ai (λe=>h1 (by have:=of_decide_eq_true e;omega))];refine⟨_,af B rfl,?_⟩;by_cases h2:now<σ.now
 ·have e:C6 σ now=18:=by unfold C6;rw[ai h1,ag h2]
  rw[e,dM] at hk;rw[jy];exact hk h X H (bN.refl _ _)
 rw[ai (λe=>h2 (by have:=of_decide_eq_true e;omega))];have e:C6 σ now=0:=by unfold C6;rw[ai h1,ai h2]
 rw[e,ag rfl] at hk;refine bM B (by simp) λh2 a1 a2 a3=> ?_
 obtain⟨X2,H2,AG⟩:=H.put (n:=now) (r:=σ.rf) a1 a2 a3;have O:=H.ord;have sm:=G.small O (by omega);obtain⟨Z,hz,zm,zd,go⟩:=H2.use 2;refine⟨_,af H2.dF rfl,hU.AO hz sm (by have:=G.c.L;show σ.C.over<=_;omega) (hU.Good.held G.c) (now:Int) λh3 Z3 p3 c3 C3 s3 N3 g3=>⟨_,_,_,rfl,?_⟩⟩;obtain⟨X3,H3,Gk,_,_⟩:=go h3 Z3 { σ with now:=now,C:=hU.oI σ.C (now:Int) } C3 s3 (λi hi=>GY (σ:= { σ with now:=now }) _ hi);obtain⟨Z,hz,zm,zd,go⟩:=H3.use 3;obtain⟨L,okB⟩:=H.okB;refine⟨_,af H3.dF rfl,lJ.AO now rfl hz (by have:=G.b;show σ.B.next<=_;omega) λh4 Z4 p4 c4 ys D B4 s4 o4 d4 n4 e4 so4 pm4 m4=>⟨_,_,_,rfl,?_⟩⟩;have yp:(ys.map lJ.IV.abs).Perm (σ.B.items.filter (λx=>decide ((x.cG:Int)<=(now:Int)))):=aaY okB (λy hy=>by obtain⟨z,hz,rfl⟩:=bn.1 hy;exact m4 z hz) (by rw[e4];exact pm4);have yl:ys.length=(σ.B.items.filter (λx=>decide ((x.cG:Int)<=(now:Int)))).length:=by rw[<-yp.length_eq,aN]
 have eB:({ σ.B with items:=σ.B.items.filter (λx=>decide ((now:Int)<(x.cG:Int))),over:=σ.B.over+ys.length } :lJ.BS)=Eb σ.B now:=by unfold Eb;rw[yl]
 rw[eB] at B4;obtain⟨X4,H4,Vh,dd4,nn4⟩:=go h4 Z4 { σ with now:=now,C:=hU.oI σ.C (now:Int),B:=Eb σ.B now } B4 s4 (λi hi=>Ve (σ:= { σ with now:=now,C:=hU.oI σ.C (now:Int) }) _ hi);have st:=AG.trans (Gk.trans Vh);have nX4: ∀y,aQ p4 y->¬(X4.M y\/X4.D y)/\h3.size<=y:=λy hy=>⟨λhm=>(n4 y hy).2 (nn4 y (n4 y hy).1 hm),(n4 y hy).1⟩
 have hq:(σ.Q).Perm (ys.map lJ.IV.abs++(Eb σ.B now).items):=by
  rw[G.q];exact(Vs _ now).trans (yp.symm.append_right _)
 have Dx:D0 (ys.map lJ.IV.abs++(Eb σ.B now).items):=D0.perm G.ok hq;refine⟨λi g=> ∃(j:Nat) (Xg:Ft),i=(j:Int)/\j<=ys.length/\Pt g s Xg I { σ with now:=now,C:=hU.oI σ.C (now:Int),B:=Eb σ.B now,Q:=(ys.map lJ.IV.abs).drop j++(Eb σ.B now).items } /\bN X4 h4 Xg g/\iS g p4 ys.length c4 4 (ys.flatMap lJ.jJ),λi _=>ys.length - i.toNat,
  ⟨0,X4,rfl,cp _,H4.perm hq,bN.refl _ _,o4⟩,?_⟩
 rintro _ g ⟨j,Xg,rfl,hj,Hg,sg,og⟩;have l16:ys.length<=16:=by rw[yl];exact dw (cJ _ _) okB.le
 by_cases hl:j<ys.length
 ·rw[jy];have hy:ys[j]? =some ys[j]:=au hl;obtain⟨pb,po,rfl⟩:=og.addr (by omega);refine⟨⟨by omega,by omega⟩,aB.2 (aM.TL (by rw[aL];exact og.lu lJ.mA hy) (aM.new λb g1 eb hb f1=> ?_))⟩;have H1:=Hg.on f1;have ed:(ys.map lJ.IV.abs).drop j=ys[j].abs::(ys.map lJ.IV.abs).drop (j+1):=by
   rw[db (by rw[aN];exact hl),List.getElem_map]
  have okj:=Sw Dx j;refine⟨_,af H1.dF rfl,_,af hb rfl,_,_,_,af hb rfl,H1.aoa (x:=ys[j].abs) (l:=(ys.map lJ.IV.abs).drop (j+1)++(Eb σ.B now).items) (by show((ys.map lJ.IV.abs).drop j++_).Perm _;rw[ed];exact .refl _) okj (adM okB (m4 _ (fx hl))) rfl rfl λg2 X2 H2 AG=>⟨_,rfl,?_,?_⟩⟩
  ·have lb:=aI hb;exact AG.fr.cell (af hb rfl) (λhm=>by have:=Hg.lt b (.inl hm);omega)
  ·rw[bL (by omega) (by omega)];have s2:=sg.on f1|>.trans AG
   refine⟨⟨j+1,X2,by omega,by omega,H2,s2,(og.frame f1 (λ_ _=>id)).frame AG.fr (λy hy hm=> ?_)⟩,by show ys.length - Int.toNat ((j:Int)+1)<ys.length - Int.toNat (j:Int);omega⟩;rcases sg.rh y hm with a|a
   ·exact(nX4 y hy).1 (.inl a)
   ·have:=o4.gn hy;omega
 ·rw[ai (λe=>hl (by have:=of_decide_eq_true e;omega))];refine hk g Xg ?_ (st.trans sg);rw[List.drop_eq_nil_of_le (by rw[aN];omega)] at Hg;exact Hg
end gK
end
section
open Go.jH
namespace gU
open vg
variable {h h':aj} {t:Nat} {X:Ft} {R:iI} {p:bV} {c i:Nat} {fY:Lab} {D:Nat→Prop} {L:List SC} {A:List gU}
theorem QP.on (TB:QP h t fY D L) (f:Fr No h h'):QP h' t fY D L:=by
 obtain⟨p,c,hb,own,hp⟩:=TB.dF;refine⟨⟨p,c,f.get hb id,own.frame f (λ_ _=>id),hp⟩,TB.lt0,λi s hs=>(TB.ses i s hs).frame f (λ_ _ _ _ _=>id) (λ_ _=>id),?_,?_,TB.ap⟩
 ·intro c r hr;exact cT (TB.llt c r hr) f.1
 ·intro c hd;exact cT (TB.RW c hd) f.1
theorem Vt (xs:List AV) (id:Nat):(xs.filter (λx=>decide (x.id≠id))).map AV.abs=(xs.map AV.abs).filter (λa=>decide (a.1≠id)):=by
 rw[eM];rfl
theorem adN {B:List Nat} {num:Int} {k:Int} (id:Nat) (Mi:k=(id:Int)) {b:List UInt8} {n m:Nat} (H:DL h t X A B) (ok:Dx A) (hr:Row h p (bc b)) (hn:n=b.length) (hp:b≠ []->∀x,aQ p x->¬X.M x)
  (hk: ∀h' X',DL h' t X' (tJ A num id b) B->bN X h X' h'->R (.I (acW A num id b)) h'):
  Cl F.iU #[.P t 0,.I num,.U k,.slice p n m] h R:=by
 subst Mi hn;have H0:=H;obtain⟨fY,L,TB,rfl,rfl,hS⟩:=H;have hl:=ok.le;rw[aN] at hl;refine iU.walk (cY ?_);have f1:Fr No h (h.push (.cells #[.U (id:Int)] T.uint64)):=Fr.push _ _;have id1:CW (h.push (.cells #[.U (id:Int)] T.uint64)) h.size id:=cA;have sz1:(h.push (.cells #[.U (id:Int)] T.uint64)).size=h.size+1:=fP _;generalize h.push (.cells #[.U (id:Int)] T.uint64)=h1 at f1 id1 sz1⊢;have TR:=TB.on f1;have st1:bN X h X h1:=bN.nJ f1;unfold tJ acW at hk;refine oR TR (λi s e hs=>⟨_,_,rfl,?_⟩) (λhn=>⟨_,_,rfl,?_⟩) (by omega)
 ·rw[ai (by simp)];subst e;rw[Dy,yQ hs] at hk;dsimp only at hk;refine aK.of λJ hJ=> ?_
  have jt:(id>1099511627776\/b.length>1000)->J true h1:=by
   intro hh;subst hJ;simp only[bA];simp only[hh,bA] at hk;exact hk h1 X (H0.frame f1 (λ_ _ x=>x)) st1
  have jf: ¬(id>1099511627776\/b.length>1000)->J false h1:=by
   intro hh;subst hJ;simp only[aA,aU];simp only[hh,aU] at hk;have SA:=TR.ses i s hs;have Gs:=ok.at_ i _ (yQ hs);have kl:s.kept.length<=6:=by have:=Gs.kl;rwa[show s.abs.kept.length=s.kept.length from aN _] at this
   have nbk: ∀c,aQ s.kp c->c≠s.b:=λc hc e=>by have h1:=SA.kl c hc;rw[e,SA.lb] at h1;simp at h1
   have nbn: ∀c,aQ s.np c->c≠s.b:=λc hc e=>by have h1:=SA.nl c hc;rw[e,SA.lb] at h1;simp at h1
   have nkn: ∀c,aQ s.kp c->¬aQ s.np c:=λc hc h2=>by have h1:=SA.kl c hc;rw[SA.nl c h2] at h1;simp at h1
   have kS: ∀c,aQ s.kp c->X.M c:=λc hc=>(hS c).2 ⟨_,SA.kl c hc⟩
   have bS:X.M s.b:=(hS s.b).2 ⟨_,SA.lb⟩;have idb: ¬aQ s.kp h.size:=λhx=>by have:=(H0.lt _ (.inl (kS _ hx)));omega
   have aqG:h.size≠s.b:=λe=>by have:=H0.lt _ (.inl bS);omega
   have kD: ∀c,X.D c->¬(c=s.b\/aQ s.kp c):=λc hc hx=>hx.elim (λe=>TB.ap c _ (e▸SA.lb) hc) (λhx=>TB.ap c _ (SA.kl c hx) hc)
   refine aB.2 ⟨_,_,_,af SA.dF rfl,UO SA.CU rfl (by omega) id1 idb λh4 o4 f4 id4=>⟨_,_,_,rfl,aB.2 ?_⟩⟩;have aqH:=f4.get SA.dF (λhx=>nbk _ hx rfl);refine bM aqH (by simp) λh5 k1 k2 k3=>aB.2 ?_
   have f5:Fr (λx=>x=s.b) h4 h5:=Fr.of_eq k2 k3;have id5:CW h5 h.size id:=f5.get id4 aqG;have F5:Fr (λx=>x=s.b\/aQ s.kp x) h1 h5:=(f4.mono (λ_ _ hx=> .inr hx)).tt (f5.mono (λ_ _ hx=> .inl hx));have aqI:Row h5 p (bc b):=by
    by_cases hb:b= []
    ·rw[hb];exact .inl rfl
    ·refine(hr.frame f1 (λ_ _ x=>x)).frame F5 (λa e hx=> ?_);have:=hp hb a.block ⟨a,e,rfl⟩;exact hx.elim (λe=>this (e▸bS)) (λhx=>this (kS _ hx))
   refine⟨_,_,_,af k1 rfl,_,af id5 rfl,mz aqI rfl (by omega) λp6 c6 h6 o6 f6 g6=>⟨_,_,_,rfl,af (f6.get id5 (λx=>x)) rfl,af (f6.get k1 (λx=>x)) rfl,?_⟩⟩;refine cY ?_;have f7:Fr No h6 (h6.push (.cells #[.U (id:Int),.slice p6 b.length c6] T.bG)):=Fr.push _ _;have aob:Row (h6.push (.cells #[.U (id:Int),.slice p6 b.length c6] T.bG)) (some (AA h6.size 0)) (AV.enc ⟨id,⟨p6,c6,b⟩⟩):=rW (cs:=AV.enc ⟨id,⟨p6,c6,b⟩⟩);have sz7:(h6.push (.cells #[.U (id:Int),.slice p6 b.length c6] T.bG)).size=h6.size+1:=fP _;generalize h6.push (.cells #[.U (id:Int),.slice p6 b.length c6] T.bG)=h7 at f7 aob sz7⊢;have f67:=f6.tt f7;have id7:CW h7 h.size id:=f67.get id5 (λx=>x);have k17:=f67.get k1 (λx=>x);refine⟨af id7 rfl,af k17 rfl,?_⟩;have o5:=o4.frame f5 (λx hx e=>nbk x hx e);have o7:=o5.frame f67 (λ_ _ x=>x);have fl:=cJ (λx:AV=>decide (x.id≠id)) s.kept;refine fR tA uA o7 aob rfl (λv hv=>by simp at hv;rcases hv with rfl|rfl<;>rfl) (by omega) (by omega) ?_;intro p8 c8 h8 o8 _ f8 g8;have id8:CW h8 h.size id:=f8.get id7 idb;have k18:=f8.get k17 (λhx=>nbk _ hx rfl);refine⟨_,_,_,rfl,af id8 rfl,aB.2 ?_⟩;refine bM k18 (by simp) λh9 q1 q2 q3=>aB.2 ⟨_,_,_,af q1 rfl,?_⟩
   have f9:Fr (λx=>x=s.b) h8 h9:=Fr.of_eq q2 q3;have z5:h1.size<=h5.size:=F5.1;have z6:=f6.1;have z8:=f8.1;have sb1:s.b<h1.size:=aI SA.dF;have kb1: ∀c,aQ s.kp c->c<h1.size:=λc hc=>SA.CU.gn hc
   have np8: ∀c,aQ p8 c->aQ s.kp c\/h7.size<=c:=g8;have n8b: ∀c,aQ p8 c->c≠s.b:=λc hc e=>(np8 c hc).elim (λhx=>nbk c hx e) (λhx=>by omega)
   have o9:=o8.frame f9 (λx hx e=>n8b x hx e);have F9:Fr (λx=>x=s.b\/aQ s.kp x) h1 h9:=F5.tt ((f67.mono (λ_ _=>False.elim)).tt ((f8.mono (λ_ _ hx=> .inr hx)).tt (f9.mono (λ_ _ hx=> .inl hx))));have b6: ∀c,aQ p6 c->h5.size<=c/\c<h6.size:=λc hc=>⟨g6 c hc,o6.gn hc⟩
   have o69:iS h9 p6 b.length c6 1 (bc b):=((o6.frame f7 (λ_ _ x=>x)).frame f8 (λc hc hx=>by have:=b6 c hc;have:=kb1 c hx;omega)).frame f9 (λc hc e=>by have:=b6 c hc;omega);have cat:(s.kept.filter (λx:AV=>decide (x.id≠id))).flatMap AV.enc++AV.enc ⟨id,⟨p6,c6,b⟩⟩=(s.kept.filter (λx:AV=>decide (x.id≠id))++ [(⟨id,⟨p6,c6,b⟩⟩:AV)]).flatMap AV.enc:=by rw[dJ];simp
   rw[cat] at o9;have aqJ:(s.kept.filter (λx:AV=>decide (x.id≠id))++ [(⟨id,⟨p6,c6,b⟩⟩:AV)]).map AV.abs=s.abs.kept.filter (λa=>decide (a.1≠id))++ [(id,b)]:=by
    rw[bm,Vt];rfl
   have adO:(s.kept.filter (λx:AV=>decide (x.id≠id))++ [(⟨id,⟨p6,c6,b⟩⟩:AV)]).length=(s.kept.filter (λx:AV=>decide (x.id≠id))).length+1:=by rw[aF];rfl
   have aqK: ∀a∈s.kept.filter (λx:AV=>decide (x.id≠id))++ [(⟨id,⟨p6,c6,b⟩⟩:AV)],a.v.ok h9 (λc=>X.D c\/aQ p6 c):=by
    intro a ha;rcases bU.1 ha with ha|ha
    ·exact((SA.kd a (aY.1 ha).1).frame F9 kD).mono (λc=> .inl)
    ·simp at ha;subst ha;exact BV.wM o69 (λc=> .inr)
   generalize s.kept.filter (λx:AV=>decide (x.id≠id))++ [(⟨id,⟨p6,c6,b⟩⟩:AV)]=K at*;generalize (s.kept.filter (λx:AV=>decide (x.id≠id))).length=fl0 at*;refine aK.of λJ1 pB=> ?_
   have fin: ∀(mF:aj) (K':List AV) (kp':bV) (kc':Nat),(∃j,K'=K.drop j)->K'.map AV.abs=nL s.abs.kept id b->At mF { s with kept:=K',kp:=kp',kc:=kc' } ->iS mF kp' K'.length kc' 2 (K'.flatMap AV.enc)->
     (∀c,aQ kp' c->aQ s.kp c\/h7.size<=c)->Fr (λx=>x=s.b) h9 mF->J1 mF:=by
    intro mF K' kp' kc' ⟨j,hj⟩ hK ET adP hkp f12;subst pB;have PG:Fr (λx=>x=s.b\/aQ s.kp x) h1 mF:=F9.tt (f12.mono (λ_ _ hx=> .inl hx));obtain⟨X',HH,st⟩:=TR.upd (s':= { s with kept:=K',kp:=kp',kc:=kc' }) (E:=aQ p6) hS hs rfl PG (λc hx=>hx.elim (λe=>⟨_,e▸SA.lb,by omega,by omega⟩) (λhx=>⟨_,SA.kl c hx,by omega,by omega⟩)) ET adP
     (λc hc=>(hkp c hc).imp (SA.kl c) (λhx=>by omega)) (SA.IJ.frame PG (λc hc hx=>hx.elim (nbn c hc) (λhx=>nkn c hx hc))) (λc hc=> .inl (SA.nl c hc))
     (λc hc h2=>(hkp c hc).elim (λhx=>nkn c hx h2) (λhx=>by have:=SA.IJ.gn h2;omega))
     (λc hc=>⟨by have:=(b6 c hc).1;omega,by have:=(b6 c hc).2;have:=f9.1;have:=f12.1;omega,λhx=>(hkp c hx).elim (λh2=>by have:=kb1 c h2;have:=b6 c hc;omega) (λh2=>by have:=b6 c hc;omega),λhx=>by have:=SA.IJ.gn hx;have:=b6 c hc;omega⟩)
     (λa ha=>(aqK a (by rw[hj] at ha;exact List.mem_of_mem_drop ha)).frame f12 (λc hc e=>hc.elim (λhc=>kD c hc (.inl e)) (λhc=>by have:=b6 c hc;omega)))
     (λn hn=>((SA.nd n hn).frame PG kD).mono (λc=> .inl))
    refine hk mF X' ?_ (st1.trans st);unfold yP;rw[show((i:Int)+1 - 1).toNat=i by omega];have:({ s with kept:=K',kp:=kp',kc:=kc' } :SC).abs= { s.abs with kept:=nL s.abs.kept id b } :=by
     unfold SC.abs;dsimp only;rw[hK];rfl
    rw[this] at HH;exact HH
   clear pB;unfold nL at fin;rw[<-aqJ,aN,adO] at fin;by_cases h6':((fl0+1:Nat):Int)>6
   ·simp only[h6',decide_true,bA];rw[jy] at fin;refine aB.2 ⟨_,_,_,af q1 rfl,⟨by omega,by omega⟩,?_⟩;rw[<-adO] at o9;have adQ:=o9.sub (l:=1) (u:=K.length) (by omega) (bh _);rw[<-gW AV.enc 2 lj K,iF,y8 AV.enc 2 lj] at adQ;refine aaE adQ.qa (by rw[cg,<-adO];rfl) (by rw[cg];omega) λp11 c11 yj o11 f11 g11=>⟨_,_,_,rfl,aB.2 ?_⟩
    have q11:=f11.get q1 (λx=>x);refine bM q11 (by simp) λmF r1 r2 r3=> ?_
    have f12:Fr (λx=>x=s.b) yj mF:=Fr.of_eq r2 r3;have z9:=f9.1;refine fin mF (K.drop 1) p11 c11 ⟨1,rfl⟩ List.map_drop ?_ (o11.frame f12 (λc hc e=>by have:=g11 c hc;omega)) (λc hc=> .inr (by have:=g11 c hc;omega)) ((f11.mono (λ_ _=>False.elim)).tt f12);exact r1
   ·simp only[h6',decide_false,aA,aU];rw[dM] at fin;refine fin h9 K p8 c8 ⟨0,rfl⟩ rfl ?_ (by rw[adO];exact o9) np8 (Fr.refl _ _);show h9[s.b]? =_;rw[q1];dsimp only;rw[adO];rfl
  clear hJ;refine⟨_,af id1 rfl,?_⟩;by_cases c1:(id:Int)>1099511627776
  ·simp only[c1,decide_true,bA];exact jt (.inl (by omega))
  ·simp only[c1,decide_false,aA,aU];by_cases c2:(b.length:Int)>1000
   ·simp only[c2,decide_true];exact jt (.inr (by omega))
   ·simp only[c2,decide_false];exact jf (by omega)
 ·rw[ag (by rfl)];rw[wA (by rw[aN];exact hn)] at hk;exact hk h1 X (H0.frame f1 (λ_ _ x=>x)) st1
theorem agm {num:Int} {k:Int} (id:Nat) (Mi:k=(id:Int)) {b:List UInt8} {n m:Nat} (H:Has h t X A) (ok:Dx A) (hr:Row h p (bc b)) (hn:n=b.length) (hp:b≠ []->∀x,aQ p x->¬X.M x)
  (hk: ∀h' X',Has h' t X' (tJ A num id b)->bN X h X' h'->R (.I (acW A num id b)) h'):
  Cl F.iU #[.P t 0,.I num,.U k,.slice p n m] h R:=by
 obtain⟨B,H⟩:=H;exact adN id Mi H ok hr hn hp λh' X' H' st=>hk h' X' ⟨B,H'⟩ st
theorem aaZ (xs:List AV) (id:Nat):Ie (xs.map AV.abs) id=(xs.find? (λa=>decide (a.id=id))).map (λa=>a.v.b):=by
 unfold Ie;rw[List.find?_map,Option.map_map];rfl
theorem agn {num:Int} {k:Int} (id:Nat) (Mi:k=(id:Int)) (H:Has h t X A) (ok:Dx A)
  (k1: ∀b,xp A num id=some b->∀h' p' c',iS h' p' b.length c' 1 (bc b)->Fr No h h'->(∀x,aQ p' x->h.size<=x)->R (.tuple #[.slice p' b.length c',.bool true]) h')
  (k2:xp A num id=none->∀h',Fr No h h'->R (.tuple #[.Z,.bool false]) h'):
  Cl F.kZ #[.P t 0,.I num,.U k] h R:=by
 subst Mi;obtain⟨_,fY,L,TB,rfl,_,hS⟩:=H;have hl:=ok.le;rw[aN] at hl;refine kZ.walk (cY ?_);have f1:Fr No h (h.push (.cells #[.U (id:Int)] T.uint64)):=Fr.push _ _;have id1:CW (h.push (.cells #[.U (id:Int)] T.uint64)) h.size id:=cA;generalize h.push (.cells #[.U (id:Int)] T.uint64)=h1 at f1 id1⊢;have TR:=TB.on f1;unfold xp at k1 k2;refine oR TR (λi s e hs=>⟨_,_,rfl,?_⟩) (λhn=>⟨_,_,rfl,?_⟩) (by omega)
 ·rw[ai (by simp)];subst e;rw[Dy,yQ hs] at k1 k2;dsimp only at k1 k2;rw[show s.abs.kept=s.kept.map AV.abs from rfl,aaZ] at k1 k2;have SA:=TR.ses i s hs;have Gs:=ok.at_ i _ (yQ hs);have kl:s.kept.length<=6:=by have:=Gs.kl;rwa[show s.abs.kept.length=s.kept.length from aN _] at this
  refine aB.2 ⟨_,_,_,af SA.dF rfl,UN SA.CU.qa rfl (by omega) id1 λh3 f3=>⟨_,rfl,?_⟩⟩;unfold IK;cases hf:s.kept.findIdx? (λa=>decide (a.id=id)) with
  |none=>
   rw[ag (by rfl)];have:s.kept.find? (λa=>decide (a.id=id))=none:=by
    rw[List.find?_eq_none];intro a ha;have:=dL.1 hf a ha;simpa using this
   rw[this] at k2;exact k2 rfl h3 (f1.tt f3)
  |some j=>
   dsimp only;obtain⟨Cg,hje,hjb⟩:=cP.1 hf;rw[dM];have hsj:s.kept[j]? =some s.kept[j]:=au Cg;have aoc:s.kept.find? (λa=>decide (a.id=id))=some s.kept[j]:=by
    rw[List.find?_eq_some_iff_getElem];exact⟨hje,j,Cg,rfl,λi hi=>by have:=hjb i hi;simpa using this⟩
   rw[aoc] at k1;have aqL:=f3.get SA.dF (λx=>x);have acV:=SA.CU.frame f3 (λ_ _ x=>x);have av:=SA.kd _ (bt hsj);have arW:s.kept[j].v.b.length<=1000:=(Gs.kd (AV.abs s.kept[j]) (bB (bt hsj))).2;generalize s.kept[j]=a at*;obtain⟨ab,AH,hkp⟩:=acV.addr (by omega);have aix:=acV;rw[hkp] at aix;have hh:=aix.lu lj hsj;refine aB.2 ⟨_,_,_,af aqL rfl,⟨by omega,by omega⟩,?_⟩;rw[hkp];refine aB.2 ⟨a.v.p,a.v.b.length,a.v.c,?_,?_⟩
   ·rw[aL];exact hh.2.1
   refine mz (av.row.frame f3 (λ_ _ x=>x)) rfl (by omega) λp4 c4 h4 o4 f4 g4=>⟨_,_,_,rfl,?_⟩
   exact k1 a.v.b rfl h4 p4 c4 o4 (f1.tt (f3.tt f4)) (λx hx=>by have:=g4 x hx;have:=(f1.tt f3).1;omega)
 ·rw[ag (by rfl)];rw[wA (by rw[aN];exact hn)] at k2;exact k2 rfl h1 f1
theorem QP.aqM {s:SC} {h1 mF:aj} {K':List BV} {np':bV} {nc':Nat} {E:Nat->Prop} (TR:QP h1 t fY X.D L) (hS: ∀c,X.M c↔ ∃r,fY c=some r) (hs:L[i]? =some s) (ET:At mF { s with notes:=K',np:=np',nc:=nc' })
  (adP:iS mF np' K'.length nc' 1 (K'.flatMap IG)) (hnp: ∀c,aQ np' c->aQ s.np c\/h1.size<=c) (f:Fr (λx=>x=s.b\/aQ s.np x) h1 mF) (hE: ∀c,E c->fY c=none/\c<mF.size/\¬aQ np' c) (hd: ∀n∈K',n.ok mF (λc=>X.D c\/E c)):
  ∃X',DL mF t X' ((L.map SC.abs).set i { s.abs with notes:=K'.map BV.b }) (L.map SC.b)/\Fr X.M h1 mF/\(∀c,X'.M c->X.M c\/h1.size<=c)/\(∀c,X'.D c->X.D c\/E c)/\∀c,X.D c->X'.D c:=by
 have SA:=TR.ses i s hs;have nbk: ∀c,aQ s.kp c->c≠s.b:=λc hc e=>by have h1:=SA.kl c hc;rw[e,SA.lb] at h1;simp at h1
 have nkn: ∀c,aQ s.kp c->¬aQ s.np c:=λc hc h2=>by have h1:=SA.kl c hc;rw[SA.nl c h2] at h1;simp at h1
 have kD: ∀c,X.D c->¬(c=s.b\/aQ s.np c):=λc hc hx=>hx.elim (λe=>TR.ap c _ (e▸SA.lb) hc) (λhx=>TR.ap c _ (SA.nl c hx) hc)
 exact TR.amD (s':= { s with notes:=K',np:=np',nc:=nc' }) (E:=E) hS hs rfl f (λc hx=>hx.elim (λe=>⟨_,e▸SA.lb,by omega,by omega⟩) (λhx=>⟨_,SA.nl c hx,by omega,by omega⟩)) ET
  (SA.CU.frame f (λc hc hx=>hx.elim (nbk c hc) (nkn c hc))) (λc hc=> .inl (SA.kl c hc)) adP (λc hc=>(hnp c hc).imp (SA.nl c) id)
  (λc h2 hc=>(hnp c hc).elim (λhx=>nkn c h2 hx) (λhx=>by have:=SA.CU.gn h2;omega))
  (λc hc=>⟨(hE c hc).1,(hE c hc).2.1,(λhx=>by have a:=SA.kl c hx;rw[(hE c hc).1] at a;cases a),(hE c hc).2.2⟩)
  (λa ha=>((SA.kd a ha).frame f kD).mono (λc=> .inl)) hd
theorem QP.notes {s:SC} {h1 mF:aj} {K':List BV} {np':bV} {nc':Nat} {E:Nat->Prop} (TR:QP h1 t fY X.D L) (hS: ∀c,X.M c↔ ∃r,fY c=some r) (hs:L[i]? =some s) (ET:At mF { s with notes:=K',np:=np',nc:=nc' })
  (adP:iS mF np' K'.length nc' 1 (K'.flatMap IG)) (hnp: ∀c,aQ np' c->aQ s.np c\/h1.size<=c) (f:Fr (λx=>x=s.b\/aQ s.np x) h1 mF) (hE: ∀c,E c->h1.size<=c/\c<mF.size/\¬aQ np' c) (hd: ∀n∈K',n.ok mF (λc=>X.D c\/E c)):
  ∃X',DL mF t X' ((L.map SC.abs).set i { s.abs with notes:=K'.map BV.b }) (L.map SC.b)/\bN X h1 X' mF:=by
 have SA:=TR.ses i s hs;have nbk: ∀c,aQ s.kp c->c≠s.b:=λc hc e=>by have h1:=SA.kl c hc;rw[e,SA.lb] at h1;simp at h1
 have nkn: ∀c,aQ s.kp c->¬aQ s.np c:=λc hc h2=>by have h1:=SA.kl c hc;rw[SA.nl c h2] at h1;simp at h1
 have kD: ∀c,X.D c->¬(c=s.b\/aQ s.np c):=λc hc hx=>hx.elim (λe=>TR.ap c _ (e▸SA.lb) hc) (λhx=>TR.ap c _ (SA.nl c hx) hc)
 exact TR.upd (s':= { s with notes:=K',np:=np',nc:=nc' }) (E:=E) hS hs rfl f (λc hx=>hx.elim (λe=>⟨_,e▸SA.lb,by omega,by omega⟩) (λhx=>⟨_,SA.nl c hx,by omega,by omega⟩)) ET
  (SA.CU.frame f (λc hc hx=>hx.elim (nbk c hc) (nkn c hc))) (λc hc=> .inl (SA.kl c hc)) adP (λc hc=>(hnp c hc).imp (SA.nl c) id)
  (λc h2 hc=>(hnp c hc).elim (λhx=>nkn c h2 hx) (λhx=>by have:=SA.CU.gn h2;omega))
  (λc hc=>⟨(hE c hc).1,(hE c hc).2.1,λhx=>by have:=SA.CU.gn hx;have:=(hE c hc).1;omega,(hE c hc).2.2⟩)
  (λa ha=>((SA.kd a ha).frame f kD).mono (λc=> .inl)) hd
theorem Fo {num:Int} (H:Has h t X A) (ok:Dx A)
  (hk: ∀h' X' p' c',Has h' t X' (Nr A num)->bN X h X' h'->BV.ok h' X'.D ⟨p',c',Nq A num⟩->R (.tuple #[.slice p' (Nq A num).length c',.I (WJ A num),.I (acX A num)]) h'):
  Cl F.lh #[.P t 0,.I num] h R:=by
 have H0:=H;obtain⟨_,fY,L,TB,rfl,_,hS⟩:=H;have hl:=ok.le;rw[aN] at hl;unfold Nr Nq WJ acX at hk;refine lh.walk (oR TB (λi s e hs=>⟨_,_,rfl,aK.of λJ hJ=> ?_⟩) (λhn=>⟨_,_,rfl,aK.of λJ hJ=> ?_⟩) (by omega))
 ·rw[ag (by rfl)];subst e;rw[Dy,yQ hs] at hk;dsimp only at hk;have SA:=TB.ses i s hs;have Gs:=ok.at_ i _ (yQ hs);have nl:s.notes.length<=6:=by have:=Gs.nl;rwa[show s.abs.notes.length=s.notes.length from aN _] at this
  refine aB.2 ⟨_,_,_,af SA.dF rfl,?_⟩;subst hJ;dsimp only;have aqN:s.abs.notes=s.notes.map BV.b:=rfl;have yX: ∀s':gU,yP (L.map SC.abs) ((i:Int)+1) s'=(L.map SC.abs).set i s':=λs'=>by unfold yP;rw[show((i:Int)+1 - 1).toNat=i by omega]
  rw[yX,aqN,aN] at hk;cases Lb:s.notes with
  |nil=>
   rw[Lb] at hk;rw[ag (by rfl)];have aod:(L.map SC.abs).set i { s.abs with notes:= [] } =L.map SC.abs:=by
    refine FJ ?_;rw[yQ hs];congr 1
    unfold SC.abs;rw[Lb];rfl
   refine hk h X none 0 ?_ (bN.refl _ _) ⟨.inl rfl,λkB=>absurd rfl kB,by simp⟩;have:(List.drop 1 (List.map BV.b []))=([]:List (List UInt8)):=rfl;rw[this,aod];exact H0
  |cons x rest=>
   have kB:((((x::rest).length:Nat):Int)==0)=false:=by simp only[bj,beq_eq_false_iff_ne,iq];omega
   rw[ai (by rw[kB];simp)];have nbn: ∀c,aQ s.np c->c≠s.b:=λc hc e=>by have h1:=SA.nl c hc;rw[e,SA.lb] at h1;simp at h1
   have own:=SA.IJ;have ET:=SA.dF;rw[Lb] at own hk nl;have akn:h[s.b]? =some (.cells #[.I (s.num:Int),.U (s.token:Int),.bool s.up,.bool s.watch,.slice s.kp s.kept.length s.kc,.slice s.np (x::rest).length s.nc] T.ij (0,0)):=by
    have:At h s:=ET;unfold At ij.at at this;rwa[Lb] at this
   obtain⟨ab,AH,hnp⟩:=own.addr (by simp);have ako:=own;rw[hnp] at ako;have hx0:=ako.lu Fq (i:=0) (x:=x) rfl;refine aB.2 ⟨_,_,_,af akn rfl,⟨by omega,by simp only[bj];omega⟩,?_⟩;rw[hnp];refine aB.2 ⟨x.p,x.b.length,x.c,?_,aB.2 ⟨some (AA ab AH),(x::rest).length,s.nc,?_,⟨by omega,by simp only[bj];omega⟩,?_⟩⟩
   ·have:=hx0.1;rw[Nat.zero_mul,jz,jz] at this;rw[show Int.toNat 0*1=0 from rfl,jz];exact this
   ·rw[<-hnp];exact af akn rfl
   have adQ:=ako.sub (l:=1) (u:=(x::rest).length) (by simp) (bh _);rw[<-gW IG 1 Fq (x::rest),iF,y8 IG 1 Fq] at adQ;refine aaF (xs:=rest) adQ.qa (by simp) (by simp only[bj] at nl;omega) λp3 c3 h3 o3 f3 g3=>⟨_,_,_,rfl,aB.2 ?_⟩
   have q3:=f3.get akn id;refine bM q3 (by simp) λh4 r1 r2 r3=> ?_
   have f4:Fr (λx=>x=s.b) h3 h4:=Fr.of_eq r2 r3;have sb1:s.b<h.size:=aI ET;have z3:=f3.1;have F4:Fr (λx=>x=s.b) h h4:=(f3.mono (λ_ _=>False.elim)).tt f4;have kD: ∀c,X.D c->c≠s.b:=λc hc e=>TB.ap c _ (e▸SA.lb) hc
   have nd': ∀n∈x::rest,n.ok h4 X.D:=λn hn=>(SA.nd n (by rw[Lb];exact hn)).frame F4 kD
   obtain⟨X',HH,st⟩:=TB.notes (K':=rest) (np':=p3) (nc':=c3) (E:=λ_=>False) hS hs r1 (o3.frame f4 (λc hc e=>by have:=g3 c hc;omega)) (λc hc=> .inr (g3 c hc)) (F4.mono (λ_ _ hx=> .inl hx)) (λc hc=>hc.elim) (λn hn=>(nd' n (cN _ hn)).mono (λc=> .inl));have hxD:BV.ok h4 X'.D x:=(nd' x dY).mono st.Ix;exact hk h4 X' x.p x.c ⟨_,HH⟩ st hxD
 ·rw[ai (by simp)];subst hJ;dsimp only;rw[wA (by rw[aN];exact hn)] at hk;rw[ag (by rfl)];exact hk h X none 0 H0 (bN.refl _ _) ⟨.inl rfl,λkB=>absurd rfl kB,by simp⟩
end gU
end
section
open Go.jH
namespace gK
open qJ (Ev dk uH an4)
open vg
variable {h h':aj} {R:iI} {k:Nat}
theorem XD {e:Ev} {tm sq:Nat} (M:Mk h k e tm sq) (hk: ∀h',Fr No h h'->R (.agg #[.bool e.vE,.U e.node,.U e.ma,.string e.host,.string e.sN,.U (tm:Int),.U (sq:Int)]) h'):
  Cl F.gQ #[pt k] h R:=by
 refine gQ.walk (ah.box λb h1 eb hb f1=> ?_);have M1:=f1.get M id;refine aK.of λJ hJ=>⟨_,af M1 rfl,?_⟩
 subst hJ;dsimp only;rw[dM];refine⟨_,af M1 rfl,_,af M1 rfl,_,af M1 rfl,_,af M1 rfl,_,af M1 rfl,_,af M1 rfl,_,af M1 rfl,ah.set hb λh2 a1 a2 a3=>ah.ld a1 (hk h2 (f1.fresh (Fr.of_eq (S:=λy=>y=b) a2 a3) (λy e=>by omega)))⟩
end gK
end
end Go.Proofs.YtlenamcfacpheaaGreatDoor
