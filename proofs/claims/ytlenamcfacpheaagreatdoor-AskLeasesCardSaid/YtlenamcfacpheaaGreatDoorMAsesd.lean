/-
  TU is proved here: parts of Jr proof, one behind Jr other (texts of this work, merged by a program; ZU Jr theorem ZV not use is left out). No condition.
-/
import Derived.Test.YtlenamcfacpheaaGreatDoorProg
import Derived.Shelf.SortM.Plain
import Derived.Shelf.SortM.SortNone
import Derived.Ground.SlgmProg
import Derived.Shelf.Strconv.Itoa4
import Derived.Ground.NamesProg
import Derived.Test.YtlenamcfacpheaaGreatDoorMAsesc
set_option maxRecDepth 100000
set_option maxHeartbeats 4000000
namespace Go.Proofs.YtlenamcfacpheaaGreatDoor
open Go.Den
open IntKind (wrap)
open Int (toNat)
section
namespace j4
open qI
variable {h h':aj} {R:iI} {b:Nat} {X:Ft}
structure Rg where
 e:Ev
 uE:Int
 own:Int
abbrev Rg.zero:Rg:=⟨.zero,0,0⟩
abbrev Rg.val (r:Rg):Value:=.agg #[.bool r.e.vD,.int .u64 r.e.node,.int .u64 r.e.l6,.string r.e.host,.string r.e.sM,.int .i64 r.uE,.int .i64 r.own]
abbrev Rg.at (h:aj) (b:Nat) (r:Rg):Prop:=bH.at h b r.e.vD r.e.node r.e.l6 r.e.host r.e.sM r.uE r.own
abbrev Rg.pair (r:Rg):Ev×Value:=(r.e,r.val)
abbrev CW (x y:Rg):Prop:=zu x.e y.e=true
theorem zN:y8 Tryz.prog T.gZ uG Rg.zero.val:=y8.of T.az T.bH (by kernel_rfl) key (by kernel_rfl)
structure Tbm (h:aj) (b:Nat) (X:Ft) (L:List Rg) (m:Nat):Prop where
 dE:h[b]? =some (.cells #[.map (some m)] T.Ex (0,0))
 map:pX h m uG (L.map Rg.pair)
 fm: ∀c,X.M c↔c=b\/c=m
 d: ∀c,¬X.D c
 ne:b≠m
 so:L.Pairwise CW
def Tb (h:aj) (b:Nat) (X:Ft) (L:List Rg):Prop:= ∃m,Tbm h b X L m
variable {L : List Rg} {m : Nat}
theorem Tbm.frame {Q:Nat->Prop} (H:Tbm h b X L m) (f:Fr Q h h') (hq: ∀y,X.M y\/X.D y->¬Q y):Tbm h' b X L m:=
 ⟨f.get H.dE (hq b (.inl ((H.fm b).2 (.inl rfl)))),H.map.frame f (hq m (.inl ((H.fm m).2 (.inr rfl)))),H.fm,H.d,H.ne,H.so⟩
theorem Tbm.on (H:Tbm h b X L m) (f:Fr No h h'):Tbm h' b X L m:=H.frame f (λ_ _=>id)
theorem Tb.frame {Q:Nat->Prop} (H:Tb h b X L) (f:Fr Q h h') (hq: ∀y,X.M y\/X.D y->¬Q y):Tb h' b X L:=by
 obtain⟨m,H⟩:=H;exact⟨m,H.frame f hq⟩
theorem Tb.on (H:Tb h b X L) (f:Fr No h h'):Tb h' b X L:=H.frame f (λ_ _=>id)
theorem Tb.lt (H:Tb h b X L) (y:Nat) (hy:X.M y\/X.D y):y<h.size:=by
 obtain⟨m,H⟩:=H;rcases hy with hy|hy
 ·rcases(H.fm y).1 hy with rfl|rfl
  ·exact aI H.dE
  ·exact H.map.lt
 ·exact absurd hy (H.d y)
def pT (L:List Rg) (x:Ev):Option Rg:=L.find? (λr=>decide (r.e=x))
theorem U0 {x:Ev} {r:Rg} (h:pT L x=some r):r∈L/\r.e=x:=⟨List.mem_of_find?_eq_some h,by simpa using List.find?_some h⟩
theorem U1 {x:Ev} :pT L x=none↔ ∀r∈L,r.e≠x:=by unfold pT;simp
theorem aaH (L:List Rg) (x:Ev):DG (L.map Rg.pair) x=(pT L x).map Rg.val:=by
 unfold DG pT;rw[List.find?_map];cases h:L.find? ((λe:Ev×Value=>decide (e.1=x)) ∘ Rg.pair) with
 |none=>have:L.find? (λr=>decide (r.e=x))=none:=h;rw[this];rfl
 |some r=>have:L.find? (λr=>decide (r.e=x))=some r:=h;rw[this];rfl
def Mp (r:Rg):List Rg->List Rg
 | []=> [r]
 |x::l=>if zu x.e r.e=true then x::Mp r l else r::x::l
theorem Dy (r:Rg): ∀L:List Rg,(Mp r L).Perm (r::L)
 | []=> .refl _
 |x::l=>by
  unfold Mp;split
  ·exact((Dy r l).cons x).trans (List.Perm.swap r x l)
  ·exact .refl _
theorem Sc {r x:Rg} :x∈Mp r L↔x=r\/x∈L:=by rw[(Dy r L).mem_iff,bP]
theorem ac6 (r:Rg) (L:List Rg):(Mp r L).length=L.length+1:=by rw[(Dy r L).length_eq];rfl
theorem Xn {r:Rg} : ∀ {L:List Rg},L.Pairwise CW->(∀x∈L,x.e≠r.e)->(Mp r L).Pairwise CW
 | [],_,_=>List.pairwise_singleton _ _
 |x::l,h,hn=>by
  obtain⟨h1,h2⟩:=fi.1 h;unfold Mp;split
  ·rename_i hx;refine fi.2 ⟨λy hy=> ?_,Xn h2 (λy hy=>hn y (cM _ hy))⟩;rcases Sc.1 hy with rfl|hy
   ·exact hx
   ·exact h1 y hy
  ·rename_i hx;have hrx:zu r.e x.e=true:=(Us (hn x (by simp))).resolve_left hx;refine fi.2 ⟨λy hy=> ?_,h⟩;rcases bP.1 hy with rfl|hy
   ·exact hrx
   ·exact Ur hrx (h1 y hy)
def aaI (L:List Rg) (x:Ev):List Rg:=L.filter (λr=> !decide (r.e=x))
def U2 (L:List Rg) (x:Ev) (p:Int):List Rg:=L.map (λr=>if r.e=x then { r with uE:=p } else r)
def nA (r:Rg):Bool:=dj r.e && (!decide (r.e=Ev.zero) && (decide (r.uE≥0) && decide (r.uE<=2) && (decide (r.own≥1) && decide (r.own<=1099511627776))))
def ou (L:List Rg) (r:Rg):Int:=if nA r=false then 1 else if(pT L r.e).isSome=true then 11 else if L.length≥8 then 15 else 0
def IM (L:List Rg) (r:Rg):List Rg:=if ou L r=0 then Mp r L else L
def oR (L:List Rg) (x:Ev) (owner:Int):Int:=match pT L x with|none=>4|some r=>if r.own=owner then 0 else 13
def KY (L:List Rg) (x:Ev) (owner:Int):List Rg:=if oR L x owner=0 then aaI L x else L
def aaJ (L:List Rg) (x:Ev) (owner p:Int):Int:=if 0<=p/\p<=2 then oR L x owner else 1
def Sd (L:List Rg) (x:Ev) (owner p:Int):List Rg:=if aaJ L x owner p=0 then U2 L x p else L
theorem KZ (L:List Rg) (r:Rg):(nA r=false/\ou L r=1)\/(nA r=true/\(pT L r.e).isSome=true/\ou L r=11)\/(nA r=true/\pT L r.e=none/\L.length≥8/\ou L r=15)\/(nA r=true/\pT L r.e=none/\L.length<8/\ou L r=0):=by
 unfold ou;cases h1:nA r with
 |false=>exact .inl ⟨rfl,by simp⟩
 |true=>
  cases h2:pT L r.e with
  |some x=>exact .inr (.inl ⟨rfl,rfl,by simp⟩)
  |none=>
   by_cases h3:L.length≥8
   ·exact .inr (.inr (.inl ⟨rfl,rfl,h3,by simp[h3]⟩))
   ·exact .inr (.inr (.inr ⟨rfl,rfl,by omega,by simp[h3]⟩))
theorem ji (H:Tbm h b X L m) (hk:R (.bool true) h):Cl F.jN #[.P b 0] h R:=jN.walk ⟨_,af H.dE rfl,hk⟩
theorem pD (hk: ∀h' b X,Tb h' b X []->UpF h X h'->R (.P b 0) h'):Cl F.Cn #[] h R:=by
 refine Cn.walk (cX (cX ?_));have f1:Fr No h (h.push (.map #[] 0)):=Fr.push _ _;have M1:=pX.push (α:=Ev) h uG;have z1:(h.push (.map #[] 0)).size=h.size+1:=fO _;generalize h.push (.map #[] 0)=h1 at f1 M1 z1⊢;have f2:Fr No h1 (h1.push (.cells #[.map (some h.size)] T.Ex)):=Fr.push _ _;refine hk _ h1.size ⟨λc=>c=h1.size\/c=h.size,λ_=>False⟩ ⟨h.size,cz,M1.frame f2 id,λc=>fY,λ_=>id,by omega,.nil⟩ ⟨f1.tt f2,λc hc=> ?_⟩;rcases hc with hc|hc
 ·rcases hc with rfl|rfl<;>omega
 ·exact hc.elim
theorem Ie {n:Int} (hk:R (.bool (decide (n≥0) && decide (n<=2))) h):Cl F.pq #[.I n] h R:=by
 refine pq.walk ?_;by_cases q:n≥0
 ·simp only[q,decide_true,bA,fu] at hk⊢;exact hk
 ·simp only[q,decide_false,aA,aU,gK] at hk⊢;exact hk
theorem ic (r:Rg) (hk: ∀h',Fr No h h'->R (.bool (nA r)) h'):Cl F.wV #[r.val] h R:=by
 refine wV.walk (bH.box λb h1 eb hb f1=> ?_);have lde: ∀ {g:aj} {K:Bool->Int->Int->ByteArray->ByteArray->Prop},r.at g b->K r.e.vD r.e.node r.e.l6 r.e.host r.e.sM->az.LD g (AA b 0) K:=λhg hk=>⟨_,af hg rfl,_,af hg rfl,_,af hg rfl,_,af hg rfl,_,af hg rfl,hk⟩
 refine lde hb (qI.ic r.e λh2 f2=>⟨_,rfl,?_⟩);have fI:=f2.get hb id;have K:=hk h2 (f1.tt f2);unfold nA at K;by_cases q0:dj r.e=true
 ·rw[ag q0];rw[q0,fu] at K;refine lde fI ⟨_,ID (y:=.zero) (x:=r.e) rfl rfl,?_⟩;by_cases q1:r.e=.zero
  ·rw[ay q1,dL];rw[ay q1] at K;exact K
  ·rw[decide_eq_false q1,jy];rw[decide_eq_false q1,gL,fu] at K;refine⟨_,af fI rfl,Ie ⟨_,rfl,?_⟩⟩;by_cases q2:(decide (r.uE≥0) && decide (r.uE<=2))=true
   ·rw[ag q2];rw[q2,fu] at K;refine⟨_,af fI rfl,?_⟩;by_cases q3:r.own≥1
    ·rw[ag (ay q3)];rw[ay q3,fu] at K;exact⟨_,af fI rfl,K⟩
    ·rw[ai (by simpa using q3)];rw[decide_eq_false q3,gK] at K;exact K
   ·rw[ai q2];have q2:(decide (r.uE≥0) && decide (r.uE<=2))=false:=by simpa using q2
    rw[q2,gK] at K;exact K
 ·rw[ai q0];have q0:dj r.e=false:=by simpa using q0
  rw[q0,gK] at K;exact K
theorem am7 {g:aj} {b:Nat} {r:Rg} {K:Bool->Int->Int->ByteArray->ByteArray->Prop} (hg:r.at g b) (hk:K r.e.vD r.e.node r.e.l6 r.e.host r.e.sM):az.LD g (AA b 0) K:=
 ⟨_,af hg rfl,_,af hg rfl,_,af hg rfl,_,af hg rfl,_,af hg rfl,hk⟩
theorem look (H:Tbm h b X L m) (x:Ev):mC Tryz.prog T.gZ (.map (some m)) (uG x) true h (.tuple #[((pT L x).getD .zero).val,.bool (pT L x).isSome]):=by
 have:=aah zN H.map x;rw[aaH] at this;cases hf:pT L x with
 |none=>rw[hf] at this;exact this
 |some r=>rw[hf] at this;exact this
theorem Fr.put {h0 h1 h2:aj} {c:Nat} (f:Fr No h0 h1) (hs:h2.size=h1.size) (ho: ∀x,x≠c->h2[x]? =h1[x]?) (hc:h0.size<=c):Fr No h0 h2:=
 f.fresh (S:=λy=>y=c) ⟨by omega,λy _ hn=>ho y hn⟩ (λy e=>by omega)
theorem oQ (H:Tb h b X L) (x:Ev) (hk: ∀h',Fr No h h'->R (.tuple #[((pT L x).getD .zero).val,.bool (pT L x).isSome]) h'):
  Cl F.mM #[.P b 0,uG x] h R:=by
 obtain⟨m,H⟩:=H;refine mM.walk (az.box λb1 h1 e1 dw f1=>bH.box λb2 h2 e2 fI f2=> ?_);have f12:=f1.tt f2;have dw:=f2.get dw id;have H2:=H.on f12;refine ji H2 ⟨_,rfl,?_⟩;rw[dL];refine⟨_,af H2.dE rfl,az.ld dw ⟨_,_,_,_,_,_,_,_,look H2 x,bH.box λb3 h3 e3 kR f3=> ?_⟩⟩;refine⟨f3.2 m H2.map.lt id,az.held (f3.get dw id),af (f3.get H2.dE id) rfl,bH.set kR λh4 a4 s4 o4=>bH.ld a4 ?_⟩;have U3:(Rg.zero).at h4 b2:=by
  have:=f3.get fI id;have kA:b2≠b3:=by have:=aI fI;omega
  unfold Rg.at bH.at;rw[o4 b2 kA];exact this
 have z1:=f12.1;have z3:=f3.1;refine bH.set U3 λh5 a5 s5 o5=>bH.ld a5 (hk h5 ?_)
 exact Fr.put (Fr.put (f12.tt f3) s4 o4 (by omega)) s5 o5 (by have:=f1.1;omega)
theorem GM (H:Tb h b X L) (x:Ev) (owner:Int) (hk: ∀h',Fr No h h'->R (.tuple #[(if oR L x owner=0 then(pT L x).getD .zero else .zero).val,.I (oR L x owner)]) h'):
  Cl F.nU #[.P b 0,uG x,.I owner] h R:=by
 obtain⟨m,H⟩:=H;refine nU.walk (az.box λb1 h1 e1 dw f1=>bH.box λb2 h2 e2 fI f2=> ?_);have f12:=f1.tt f2;have dw:=f2.get dw id;have H2:=H.on f12;refine ji H2 ⟨_,rfl,?_⟩;rw[dL];refine⟨_,af H2.dE rfl,az.ld dw ⟨_,_,_,_,_,_,_,_,look H2 x,bH.box λb3 h3 e3 kR f3=> ?_⟩⟩;refine⟨f3.2 m H2.map.lt id,az.held (f3.get dw id),af (f3.get H2.dE id) rfl,bH.set kR λh4 a4 s4 o4=> ?_⟩;have U3:(Rg.zero).at h4 b2:=by
  have:=f3.get fI id;have kA:b2≠b3:=by have:=aI fI;omega
  unfold Rg.at bH.at;rw[o4 b2 kA];exact this
 have z1:=f1.1;have z2:=f2.1;have F4:=Fr.put (f12.tt f3) s4 o4 (by omega);have fin: ∀(r:Rg) (e:Int),(if oR L x owner=0 then(pT L x).getD .zero else .zero)=r->oR L x owner=e->∀h5,r.at h5 b2->h5.size=h4.size->(∀y,y≠b2->h5[y]? =h4[y]?)->R (.tuple #[r.val,.I e]) h5:=by
  intro r e e1 e2 h5 _ s5 o5;rw[<-e1,<-e2];exact hk h5 (Fr.put F4 s5 o5 (by omega))
 cases hf:pT L x with
 |none=>
  have ea:oR L x owner=4:=by unfold oR;rw[hf]
  rw[ag (by rfl)];exact bH.set U3 λh5 a5 s5 o5=>bH.ld a5 (fin .zero 4 (by rw[ea,dL]) ea h5 a5 s5 o5)
 |some r=>
  rw[hf] at a4;rw[ai (by simp)];refine⟨_,af a4 rfl,?_⟩;by_cases ho:r.own=owner
  ·have ea:oR L x owner=0:=by unfold oR;rw[hf];exact ag ho
   rw[ai (by simpa using ho)];exact bH.ld a4 (bH.set U3 λh5 a5 s5 o5=>bH.ld a5 (fin r 0 (by rw[ea,ag rfl,hf];rfl) ea h5 a5 s5 o5))
  ·have ea:oR L x owner=13:=by unfold oR;rw[hf];exact ai ho
   rw[ag (by simpa using ho)];exact bH.set U3 λh5 a5 s5 o5=>bH.ld a5 (fin .zero 13 (by rw[ea,dL]) ea h5 a5 s5 o5)
theorem Tbm.put {L':List Rg} {h1:aj} (H:Tbm h b X L m) (M:pX h1 m uG (L'.map Rg.pair)) (hs:h1.size=h.size) (ho: ∀c,c≠m->h1[c]? =h[c]?) (so:L'.Pairwise CW):Tbm h1 b X L' m/\bM X h X h1:=by
 have f:Fr X.M h h1:=⟨by omega,λc _ hn=>ho c (λe=>hn ((H.fm c).2 (.inr e)))⟩;refine⟨⟨?_,M,H.fm,H.d,H.ne,so⟩,bM.E0 f⟩;rw[ho b H.ne];exact H.dE
theorem Se (L:List Rg) (x:Ev):GA (L.map Rg.pair) x=(aaI L x).map Rg.pair:=by
 unfold GA aaI;rw[eK];rfl
theorem afZ {x:Ev} (so:L.Pairwise CW):(aaI L x).Pairwise CW:=so.sublist cU
theorem af0 {x:Ev} {p:Int} (so:L.Pairwise CW):(U2 L x p).Pairwise CW:=by
 unfold U2;rw[gi];refine so.imp fun {u v} huv=> ?_
 have e: ∀r:Rg,(if r.e=x then { r with uE:=p } else r:Rg).e=r.e:=λr=>by split<;>rfl
 show zu _ _=true;rw[e,e];exact huv
theorem Sf {x:Ev} {p:Int} {r:Rg} : ∀ {L:List Rg},L.Pairwise CW->r∈L->r.e=x->(U2 L x p).Perm ({ r with uE:=p } ::aaI L x)
 | [],_,h,_=>by cases h
 |y::l,so,h,e=>by
  obtain⟨h1,h2⟩:=fi.1 so;unfold U2 aaI;rw[cA,cC];rcases bP.1 h with rfl|h
  ·rw[ag e,ai (by simp[e])];refine List.Perm.cons _ ?_;have kA: ∀z∈l,z.e≠x:=λz hz e2=>by
    have:=h1 z hz;rw[CW,e,e2,HN] at this;cases this
   have e1:l.map (λr=>if r.e=x then({ r with uE:=p } :Rg) else r)=l:=by
    conv=>rhs;rw[<-List.map_id l]
    exact fV (λz hz=>ai (kA z hz))
   have e2:l.filter (λr=> !decide (r.e=x))=l:=by
    rw[cH];intro z hz;simp[kA z hz]
   rw[e1,e2]
  ·have hy:y.e≠x:=λe2=>by
    have:=h1 r h;rw[CW,e,e2,HN] at this;cases this
   rw[ai hy,ag (by simp[hy])];exact((Sf h2 h e).cons y).trans (List.Perm.swap _ _ _)
theorem KQ (H:Tb h b X L) (r:Rg) (hl:L.length<=8) (hk: ∀h',Tb h' b X (IM L r)->bM X h X h'->R (.I (ou L r)) h'):
  Cl F.qc #[.P b 0,r.val] h R:=by
 obtain⟨m,H⟩:=H;refine qc.walk (bH.box λb1 h1 e1 dw f1=> ?_);have H1:=H.on f1;refine ji H1 ⟨_,rfl,?_⟩;rw[dL];refine⟨_,af H1.dE rfl,am7 (r:=r) dw ⟨_,_,_,_,_,_,_,_,look H1 r.e,bH.box λb3 h3 e3 kR f3=> ?_⟩⟩;have qu:=f3.get dw id;refine⟨f3.2 m H1.map.lt id,lR qu (λj v hj=> ?_),af (f3.get H1.dE id) rfl,bH.set kR λh4 a4 s4 o4=> ?_⟩
 ·rw[bZ]
  match j,hj with
  |0,hj=>simpa using hj
  |1,hj=>simpa using hj
  |2,hj=>simpa using hj
  |3,hj=>simpa using hj
  |4,hj=>simpa using hj
 have z1:=f1.1;have F4:=Fr.put (f1.tt f3) s4 o4 (by omega);have CX:r.at h4 b1:=by
  have kA:b1≠b3:=by have:=aI dw;omega
  unfold Rg.at bH.at;rw[o4 b1 kA];exact qu
 refine bH.ld CX (ic r λh5 f5=>⟨_,rfl,?_⟩);have F5:=F4.tt f5;have H5:=H.on F5;have FM:=f5.get CX id;have vV:IM L r=L->R (.I (ou L r)) h5:=λe=>hk h5 (by rw[e];exact⟨m,H5⟩) (bM.nI F5)
 rcases KZ L r with⟨q1,q2⟩|⟨q1,q3,q2⟩|⟨q1,q3,q4,q2⟩|⟨q1,q3,q4,q2⟩
 ·rw[q1,jy];rw[q2] at vV;exact vV (by unfold IM;rw[q2];rfl)
 ·rw[q1,dL,ag q3];rw[q2] at vV;exact vV (by unfold IM;rw[q2];rfl)
 ·rw[q1,dL,ai (by rw[q3];simp)];refine⟨_,af H5.dE rfl,_,Uf zN H5.map,?_⟩;rw[aN,jy];rw[q2] at vV;exact vV (by unfold IM;rw[q2];rfl)
 ·rw[q1,dL,ai (by rw[q3];simp)];refine⟨_,af H5.dE rfl,_,Uf zN H5.map,?_⟩;rw[aN,ai (by simp;omega)];refine⟨_,af H5.dE rfl,am7 (r:=r) FM (bH.ld FM (JS zN H5.map (k:=r.e) λh6 M6 s6 o6=> ?_))⟩;have eL:IM L r=Mp r L:=ag q2;have Gv:=U1.1 q3;have M6:pX h6 m uG ((Mp r L).map Rg.pair):=by
   refine M6.perm ?_;unfold Ro;rw[Dn (λe he=>by obtain⟨y,hy,rfl⟩:=bn.1 he;exact Gv y hy)];exact((Dy r L).map Rg.pair).symm
  obtain⟨H6,st⟩:=H5.put M6 s6 o6 (Xn H5.so Gv);rw[eL,q2] at hk;exact hk h6 ⟨m,H6⟩ (bM.no F5 st)
theorem zO (H:Tb h b X L) (x:Ev) (owner:Int) (hk: ∀h',Tb h' b X (KY L x owner)->bM X h X h'->R (.I (oR L x owner)) h'):
  Cl F.mU #[.P b 0,uG x,.I owner] h R:=by
 refine mU.walk (az.box λb1 h1 e1 dw f1=>az.ld dw (GM (H.on f1) x owner λh2 f2=>⟨_,_,_,_,_,_,_,_,rfl,bH.new λb3 h3 e3 kR f3=>aK.of λJ hJ=> ?_⟩));have F3:=f1.tt (f2.tt f3);have qu:=(f2.tt f3).get dw id;obtain⟨m,H⟩:=H;have H3:=H.on F3;by_cases q:oR L x owner=0
 ·rw[ag (by simpa using q)];refine⟨_,af H3.dE rfl,az.ld qu (Rr zN H3.map (k:=x) λh4 M4 s4 o4=>⟨rfl,?_⟩)⟩;subst hJ;rw[Se] at M4;obtain⟨H4,st⟩:=H3.put M4 s4 o4 (afZ H3.so);exact hk h4 (by unfold KY;rw[ag q];exact⟨m,H4⟩) (bM.no F3 st)
 ·rw[ai (by simpa using q)];subst hJ;exact hk h3 (by unfold KY;rw[ai q];exact⟨m,H3⟩) (bM.nI F3)
theorem aaK (H:Tb h b X L) (x:Ev) (owner p:Int) (hk: ∀h',Tb h' b X (Sd L x owner p)->bM X h X h'->R (.I (aaJ L x owner p)) h'):
  Cl F.mW #[.P b 0,uG x,.I owner,.I p] h R:=by
 refine mW.walk (az.box λb1 h1 e1 dw f1=>aK.of λJ hJ=> ?_);have H0:=H;obtain⟨m,H⟩:=H;have H1:=H.on f1;refine ji H1 ⟨_,rfl,?_⟩;rw[ag rfl];refine Ie ⟨_,rfl,?_⟩;subst hJ;by_cases q0:0<=p/\p<=2
 ·have e0:(decide (p≥0) && decide (p<=2))=true:=by simp[q0.1,q0.2]
  have eE:aaJ L x owner p=oR L x owner:=ag q0;rw[e0];dsimp only;rw[dL];refine az.ld dw (GM (H0.on f1) x owner λh2 f2=>⟨_,_,_,_,_,_,_,_,rfl,bH.new λb3 h3 e3 kR f3=>aK.of λJ hJ=> ?_⟩);have F3:=f1.tt (f2.tt f3);have qu:=(f2.tt f3).get dw id;have H3:=H.on F3;rw[eE] at hk;by_cases q:oR L x owner=0
  ·rw[ag (by simpa using q)];obtain⟨r,hr⟩: ∃r,pT L x=some r:=by
    cases hf:pT L x with
    |none=>unfold oR at q;rw[hf] at q;cases q
    |some r=>exact⟨r,rfl⟩
   rw[ag q,hr] at kR;obtain⟨hrm,hre⟩:=U0 hr;refine bL kR (by simp) λh4 a4 s4 o4=> ?_
   have z1:=f1.1;have z2:=f2.1;have F4:=Fr.put F3 s4 o4 (by omega);have H4:=H.on F4;have CX:Ev.at h4 b1 x:=by
    have kA:b1≠b3:=by have:=aI dw;omega
    unfold Ev.at az.at;rw[o4 b1 kA];exact qu
   have a4:({ r with uE:=p } :Rg).at h4 b3:=a4;refine⟨_,af H4.dE rfl,az.ld CX (bH.ld a4 (JS zN H4.map (k:=x) λh5 M5 s5 o5=> ?_))⟩;have M5:pX h5 m uG ((U2 L x p).map Rg.pair):=by
    refine M5.perm ?_;unfold Ro;rw[Se];have:=((Sf (p:=p) H.so hrm hre).map Rg.pair).symm;rw[cA] at this;have e2:(x,({ r with uE:=p } :Rg).val)=({ r with uE:=p } :Rg).pair:=by rw[<-hre]
    rw[show((x,Value.agg #[.bool r.e.vD,.U r.e.node,.U r.e.l6,.string r.e.host,.string r.e.sM,.I p,.I r.own]):Ev×Value)=({ r with uE:=p } :Rg).pair from e2];exact this
   obtain⟨H5,st⟩:=H4.put M5 s5 o5 (af0 H.so);subst hJ;exact hk h5 (by unfold Sd;rw[eE,ag q];exact⟨m,H5⟩) (bM.no F4 st)
  ·rw[ai (by simpa using q)];subst hJ;exact hk h3 (by unfold Sd;rw[eE,ai q];exact⟨m,H3⟩) (bM.nI F3)
 ·have e0:(decide (p≥0) && decide (p<=2))=false:=by
   rw[Bool.and_eq_false_iff];by_cases h1:p≥0
   ·exact .inr (decide_eq_false (λh2=>q0 ⟨h1,h2⟩))
   ·exact .inl (decide_eq_false h1)
  have eE:aaJ L x owner p=1:=ai q0;rw[e0];dsimp only;rw[jy];rw[eE] at hk;exact hk h1 (by unfold Sd;rw[eE,dL];exact⟨m,H1⟩) (bM.nI f1)
end j4
end
section
variable {h:aj} {R:iI}
theorem wQ.walk (hv:aV h (.map #[] 0) λb aR=>Cl F.uu #[] aR λv aZ=>Vp v λt2=>Cl F.uu #[] aZ λeJ bJ=>Vp eJ λt3=>aV bJ (.cells #[.map (some b),.I 1,.I 0,.I 0,.I 0,.pointer t2,.pointer t3] T.lB) λcD cB=>R (.P cD 0) cB):Cl F.wQ #[] h R:=aS (lq ll) Tryz.func37 hv
theorem gv.walk {t:Nat} (hv: ∃t9,ak h (AA t 0)=some (.map t9)/\R (.bool (!t9.isNone)) h):Cl F.gv #[.P t 0] h R:=aS (lq ll) Tryz.func47 hv
theorem jr.walk {t:Nat} (hv:Cl F.gv #[.P t 0] h λv aR=>Vb v λt6=>aK (λ(kI:bU) (kJ kK:Nat) (aZ:aj)=>Cl F.tY #[.slice kI kJ kK] aZ λeJ bJ=>eJ=.tuple #[]/\R (.slice kI kJ kK) bJ) (λJ=>if t6 then∃t10,ak aR (AA t 0)=some (.map t10)/\aX Tryz.prog (Instr.range T.cY (.map t10)) aR λgR cB=> ∃(it:Nat),gR=.P it 0/\∃(I:bU->Nat->Nat->aj->Prop) (mu:bU->Nat->Nat->aj->Nat),I none 0 0 cB/\∀(lE:bU) (lF lG:Nat) (cJ:aj),I lE lF lG cJ->aX Tryz.prog (Instr.next (.P it 0) false T.JZ) cJ λkU cQ=>(kU=.tuple #[.bool false]/\J lE lF lG cQ)\/(∃(am8 am9:Value),kU=.tuple #[.bool true,am8,am9]/\aX Tryz.prog (Instr.entry (.P it 0)) cQ λot cW=> ∃(aik ana:Value),ot=.tuple #[aik,ana]/\∃t15,aik=.I t15/\aV cW (.cells #[.I t15] T.int) λb dA=>aX Tryz.prog (Builtin.append_ #[T.Fc,T.Fc] T.Fc #[.slice lE lF lG,.slice (some (AA b 0)) 1 1]) dA λxu fc=> ∃CH zK CI,xu=.slice CH zK CI/\(I CH zK CI fc/\mu CH zK CI fc<mu lE lF lG cJ)) else J none 0 0 aR)):Cl F.jr #[.P t 0] h R:=aS (lq (lq (sq (lq (.join [(3,.one (.slice))] (cq (lq (bq (.loop [(3,.one (.slice))] (lq (sq (cq lf lf) (bq (sq (.typed [(15,.one (.int .i64))]) lf))))))) lf))) (lq ll)))) Tryz.func68 hv
theorem fP.walk {n:Int} {c0:Nat} {c1:Nat} (hv:Hp h c0 0 λt5=>aP t5 λa=> ∃t8,ak h a=some (.map t8)/\∃t10,mC Tryz.prog T.cY (.map t8) (.I n) false h (.pointer t10)/\aP t10 λku=>az.LD h (ku.add 1) λIg vN anb anc ane=>az.LD h (AA c1 0) λqL rQ ac7 anf ang=> ∃(eq:Bool),Ho Tryz.prog T.az (.agg #[.bool Ig,.U vN,.U anb,.string anc,.string ane]) (.agg #[.bool qL,.U rQ,.U ac7,.string anf,.string ang]) eq/\R (.bool (!eq)) h):Cl F.fP #[.I n,.P c0 0,.P c1 0] h R:=aS (lq (sq (pN 12) lf)) Tryz.func113 hv
theorem ir.of.walk {oB:bU} {mF qJ:Nat} {KM:Nat} {PG:Nat} (hv:Cl F.dN #[.slice oB mF qJ,.func (.func F.fP) #[] #[.P KM 0,.P PG 0]] h λv aR=> ∃t10,v=.I t10/\if(t10==(-1)) then R (.slice oB mF qJ) aR else∃(I:Int->Int->aj->Prop) (mu:Int->Int->aj->Nat),I t10 (wrap .i64 (t10+1)) aR/\∀(i:Int) (j:Int) (aZ:aj),I i j aZ->if(decide (j<(mF:Int))) then aK (λ(sL:Int) (bJ:aj)=>(I sL (wrap .i64 (j+1)) bJ/\mu sL (wrap .i64 (j+1)) bJ<mu i j aZ)) (λJ=>Bd j mF/\aP oB λa=>Re aZ (a.add (toNat j*1)) λt25=>Cl F.fP #[.I t25,.P KM 0,.P PG 0] aZ λeJ cB=>Vb eJ λt28=>aK (λ(i_2:Int) (cJ:aj)=>J i_2 cJ) (λjo=>if(!t28) then Bd i mF/\aP oB λku=>aH cB (ku.add (toNat i*1)) (.I t25) λcQ=>jo (wrap .i64 (i+1)) cQ else jo i cB)) else((0:Int)<=i/\i<=(mF:Int))/\aX Tryz.prog (Builtin.clear_ #[T.Fc] T.JZ #[.slice (cZ oB qJ (toNat i) 1) (mF - (toNat i)) (qJ - (toNat i))]) aZ λgR cW=>gR=.tuple #[]/\((0:Int)<=i/\i<=(qJ:Int))/\R (.slice (cZ oB qJ 0 1) ((toNat i) - 0) (qJ - 0)) cW):Cl F.ir #[.slice oB mF qJ,.func (.func F.fP) #[] #[.P KM 0,.P PG 0]] h R:=aS (lq (lq (sq (lq (cq ll lf)) (sq (lq (bq (.loop [(5,.one (.int .i64)),(6,.one (.int .i64))] (sq (lq (cq lf lf)) (sq (.join [(5,.one (.int .i64))] (bq (lq (lq (.join [(5,.one (.int .i64))] (cq ll lf)))))) lf))))) (lq ll))))) Tryz.func112 hv
theorem dN.of.walk {oB:bU} {mF qJ:Nat} {RV:Nat} {ail:Nat} (hv: ∃(I:Int->aj->Prop) (mu:Int->aj->Nat),I 0 h/\∀(t8:Int) (aR:aj),I t8 aR->if(decide (t8<(mF:Int))) then Bd t8 mF/\aP oB λa=>Re aR (a.add (toNat t8*1)) λt15=>Cl F.fP #[.I t15,.P RV 0,.P ail 0] aR λv aZ=> ∃t16,v=.bool t16/\if t16 then R (.I t8) aZ else(I (wrap .i64 (t8+1)) aZ/\mu (wrap .i64 (t8+1)) aZ<mu t8 aR) else R (.I (-1)) aR):Cl F.dN #[.slice oB mF qJ,.func (.func F.fP) #[] #[.P RV 0,.P ail 0]] h R:=aS (lq (sq (lq (bq (.loop [(8,.one (.int .i64))] (lq (sq (cq lf lf) (sq (bq (lq (lq (cq ll lf)))) lf)))))) ll)) Tryz.func168 hv
theorem jL.walk {t:Nat} {dO:Bool} {dP:Int} {dQ:Int} {dR:ByteArray} {dS:ByteArray} (hv:aV h (.cells #[.P t 0] T.mw) λb aR=>aV aR (.cells #[.bool dO,.U dP,.U dQ,.string dR,.string dS] T.az) λcD aZ=>Hp aZ b 0 λt5=>Cl F.jr #[.pointer t5] aZ λv bJ=>Vl v λaqq aqr aqs=>Cl F.ir #[.slice aqq aqr aqs,.func (.func F.fP) #[] #[.P b 0,.P cD 0]] bJ λeJ cB=> ∃yL vQ Az,eJ=.slice yL vQ Az/\R (.slice yL vQ Az) cB):Cl F.jL #[.P t 0,.agg #[.bool dO,.U dP,.U dQ,.string dR,.string dS]] h R:=aS (lq ll) Tryz.func49 hv
theorem mj.walk {t:Nat} {dO:Bool} {dP:Int} {dQ:Int} {dR:ByteArray} {dS:ByteArray} (hv:aV h (.cells #[.bool dO,.U dP,.U dQ,.string dR,.string dS] T.az) λb aR=>az.LD aR (AA b 0) λIN IP aaL aj6 aj7=>Cl F.jL #[.P t 0,.agg #[.bool IN,.U IP,.U aaL,.string aj6,.string aj7]] aR λv aZ=>Vl v λyu rP CR=> ∃(I:Int->Int->aj->Prop) (mu:Int->Int->aj->Nat),I 0 0 aZ/\∀(n:Int) (t12:Int) (bJ:aj),I n t12 bJ->if(decide (t12<(rP:Int))) then aK (λ(n_1:Int) (cB:aj)=>(I n_1 (wrap .i64 (t12+1)) cB/\mu n_1 (wrap .i64 (t12+1)) cB<mu n t12 bJ)) (λJ=>Bd t12 rP/\aP yu λa=>Re bJ (a.add (toNat t12*1)) λt15=> ∃t19,ak bJ (AA t 0)=some (.map t19)/\∃t21,mC Tryz.prog T.cY (.map t19) (.I t15) false bJ (.pointer t21)/\aP t21 λku=>Re bJ (ku.add 8) λt24=>aK (λ(n_2:Int) (cJ:aj)=>J n_2 cJ) (λjo=>if(t24==0) then jo (wrap .i64 (n+1)) bJ else jo n bJ)) else R (.I n) bJ):Cl F.mj #[.P t 0,.agg #[.bool dO,.U dP,.U dQ,.string dR,.string dS]] h R:=aS (lq (lq (sq (lq (bq (.loop [(5,.one (.int .i64)),(12,.one (.int .i64))] (lq (sq (cq lf lf) (sq (.join [(5,.one (.int .i64))] (bq (lq (lq (.join [(5,.one (.int .i64))] (cq lf lf)))))) lf)))))) ll))) Tryz.func103 hv
theorem kX.walk {t:Nat} (hv:aV h (.cells #[.I 0,.I 0,.I 0,.I 0,.I 0,.I 0] T.gE) λb aR=>Cl F.gv #[.P t 0] aR λv aZ=> ∃t5,v=.bool t5/\if(!t5) then gE.ST aZ (AA b 0) 0 0 0 0 0 0 λbJ=>gE.LD bJ (AA b 0) λoP ia oS pG yQ KS=>R (.agg #[.I oP,.I ia,.I oS,.I pG,.I yQ,.I KS]) bJ else Hp aZ t 6 λt11=>Cl F.mK #[.pointer t11] aZ λeJ cB=>Vi eJ λt12=>Hi cB t 1 λt16=> ∃t21,ak cB (AA t 0)=some (.map t21)/\∃t22:Int,afd Tryz.prog #[T.cY] T.int (.map t21) cB (.I t22)/\Hi cB t 2 λt29=>Hi cB t 3 λt33=>Hi cB t 4 λt37=>gE.ST cB (AA b 0) (wrap .i64 (t16 - 1)) (wrap .i64 (t22 - t12)) t12 t29 t33 t37 λcJ=>gE.LD cJ (AA b 0) λnF nG uB xr xt AO=>R (.agg #[.I nF,.I nG,.I uB,.I xr,.I xt,.I AO]) cJ):Cl F.kX #[.P t 0] h R:=aS (lq (sq (lq (cq ll lf)) (lq (sq (pN 27) lf)))) Tryz.func17 hv
theorem rh.walk {dO:Bool} {dP:Int} {dQ:Int} {dR:ByteArray} {dS:ByteArray} {hH:bU} {fS hN:Nat} {pS:Int} (hv:aV h (.cells #[.bool dO,.U dP,.U dQ,.string dR,.string dS] T.az) λb aR=>az.LD aR (AA b 0) λRR Kx af1 ajY aqt=>Cl F.kC #[.agg #[.bool RR,.U Kx,.U af1,.string ajY,.string aqt]] aR λv aZ=> ∃t8,v=.bool t8/\if t8 then az.LD aZ (AA b 0) λzq zt ab4 ab5 ab6=> ∃(eq:Bool),Ho Tryz.prog T.az (.agg #[.bool zq,.U zt,.U ab4,.string ab5,.string ab6]) (.agg #[.bool false,.U 0,.U 0,.string j9,.string j9]) eq/\if(!eq) then if(decide ((fS:Int)≥1)) then if(decide ((fS:Int)<=600)) then R (.bool (decide (pS<=1099511627776))) aZ else R (.bool false) aZ else R (.bool false) aZ else R (.bool false) aZ else R (.bool false) aZ):Cl F.rh #[.agg #[.bool dO,.U dP,.U dQ,.string dR,.string dS],.slice hH fS hN,.U pS] h R:=aS (lq ll) Tryz.func48 hv
theorem nR.walk {t:Nat} {dO:Bool} {dP:Int} {dQ:Int} {dR:ByteArray} {dS:ByteArray} {hH:bU} {fS hN:Nat} {pS:Int} (hv:aV h (.cells #[.bool dO,.U dP,.U dQ,.string dR,.string dS] T.az) λb aR=>Cl F.gv #[.P t 0] aR λv aZ=> ∃t13,v=.bool t13/\if(!t13) then R (.tuple #[.I 0,.I 6]) aZ else az.LD aZ (AA b 0) λvL rO Nu HX Nv=>Cl F.rh #[.agg #[.bool vL,.U rO,.U Nu,.string HX,.string Nv],.slice hH fS hN,.U pS] aZ λeJ bJ=> ∃t19,eJ=.bool t19/\if(!t19) then R (.tuple #[.I 0,.I 1]) bJ else az.LD bJ (AA b 0) λDX DY RM anh ani=>Cl F.jL #[.P t 0,.agg #[.bool DX,.U DY,.U RM,.string anh,.string ani]] bJ λgR cB=> ∃iP iy iz,gR=.slice iP iy iz/\if(decide ((iy:Int)≥16)) then R (.tuple #[.I 0,.I 15]) cB else Hi cB t 1 λt30=> ∃t34,ak cB (AA t 1)=some (.I t34)/\aH cB (AA t 1) (.I (wrap .i64 (t34+1))) λcJ=> ∃t41,ak cJ (AA t 0)=some (.map t41)/\az.LD cJ (AA b 0) λac8 ac9 ada adb ade=>Cl F.cu #[.slice hH fS hN] cJ λkU cQ=>Vl kU λSg Si Xo=>fE (AA b 0) [.bool ac8,.U ac9,.U ada,.string adb,.string ade] 0 cQ/\ak cQ (AA t 0)=some (.map t41)/\aV cQ (.cells #[.I t30,.bool ac8,.U ac9,.U ada,.string adb,.string ade,.slice Sg Si Xo,.U pS,.I 0,.U 0] T.aJ) λcD cW=>fE (AA b 0) [.bool ac8,.U ac9,.U ada,.string adb,.string ade] 0 cW/\ak cW (AA t 0)=some (.map t41)/\aX Tryz.prog (Instr.mapUpdate T.cY (.map t41) (.I t30) (.P cD 0)) cW λ_ dA=>Hp dA t 5 λt53=>Cl F.kO #[.pointer t53,.I t30,.U pS] dA λot fc=> ∃t56,ot=.I t56/\R (.tuple #[.I t30,.I 0]) fc):Cl F.nR #[.P t 0,.agg #[.bool dO,.U dP,.U dQ,.string dR,.string dS],.slice hH fS hN,.U pS] h R:=aS (lq (sq (bq (lq (cq ll (lq (cq ll (lq (cq ll lf))))))) (lq (lq (sq (.mB (.op 0 (.op 1 (.op 2 (.op 3 (.op 4 (.op 5 (.op 6 (.op 7 (.op 9 (.op 8 (.op 10 (.op 11 (.op 12 .done)))))))))))))) (lq ll)))))) Tryz.func15 hv
theorem od.walk {n:Int} (hv:if(decide (n≥1)) then R (.bool (decide (n<=1099511627776))) h else R (.bool false) h):Cl F.od #[.I n] h R:=aS (lq ll) Tryz.func192 hv
theorem iG.walk {t:Nat} {dO:Bool} {dP:Int} {dQ:Int} {dR:ByteArray} {dS:ByteArray} {kL:Int} {deadline:Int} (hv:aV h (.cells #[.bool dO,.U dP,.U dQ,.string dR,.string dS] T.az) λb aR=>aV aR (.cells #[.I 0,.bool false,.U 0,.U 0,.string j9,.string j9,.Z,.U 0,.I 0,.U 0] T.aJ) λcD aZ=>Cl F.gv #[.P t 0] aZ λv bJ=> ∃t16,v=.bool t16/\if(!t16) then aJ.ST bJ (AA cD 0) 0 false 0 0 j9 j9 none 0 0 0 0 0 λcB=>aJ.LD cB (AA cD 0) λoP ia oS pG yQ KS aj8 aj9 aka aqu aqv aqw=>R (.tuple #[.agg #[.I oP,.bool ia,.U oS,.U pG,.string yQ,.string KS,.slice aj8 aj9 aka,.U aqu,.I aqv,.U aqw],.I 6]) cB else aK (λ(t19:Bool) (cJ:aj)=>if t19 then aJ.ST cJ (AA cD 0) 0 false 0 0 j9 j9 none 0 0 0 0 0 λcQ=>aJ.LD cQ (AA cD 0) λnF nG uB xr xt AO adf adg adh akb akc akd=>R (.tuple #[.agg #[.I nF,.bool nG,.U uB,.U xr,.string xt,.string AO,.slice adf adg adh,.U akb,.I akc,.U akd],.I 1]) cQ else az.LD cJ (AA b 0) λadi Nx Xp anj ank=>Cl F.jL #[.P t 0,.agg #[.bool adi,.U Nx,.U Xp,.string anj,.string ank]] cJ λeJ cW=>Vl eJ λo0 nJ pM=> ∃(I:Int->aj->Prop) (mu:Int->aj->Nat),I 0 cW/\∀(t32:Int) (dA:aj),I t32 dA->if(decide (t32<(nJ:Int))) then Bd t32 nJ/\aP o0 λa=>Re dA (a.add (toNat t32*1)) λt35=> ∃t39,ak dA (AA t 0)=some (.map t39)/\∃t41,mC Tryz.prog T.cY (.map t39) (.I t35) false dA (.pointer t41)/\aP t41 λku=> ∃t45,ak dA (ku.add 8)=some (.I t45)/\if(t45==0) then aP t41 λpE=>aH dA (pE.add 8) (.I kL) λfc=>aP t41 λrY=>aH fc (rY.add 9) (.U deadline) λcP=>Hp cP t 6 λt58=>Cl F.kO #[.pointer t58,.I t35,.U deadline] cP λgR cV=>Vi gR λt61=>aP t41 λvS=>aJ.LD cV vS λXq Ih anl anm ano anp af2 af3 af4 anq anr ans=>aV cV (.cells #[.I 0,.bool false,.U 0,.U 0,.string j9,.string j9,.Z,.U 0,.I 0,.U 0] T.aJ) λeY dD=>aJ.ST dD (AA eY 0) Xq Ih anl anm ano anp af2 af3 af4 anq anr ans λdF=>aP t41 λBJ=>L3 dF (BJ.add 6) λant anu anv=>Cl F.cu #[.slice ant anu anv] dF λkU fC=> ∃aim ain aio,kU=.slice aim ain aio/\aH fC (AA eY 6) (.slice aim ain aio) λgD=>aJ.LD gD (AA eY 0) λadj adk Xr anw anx anz af5 af6 af7 anA anB anC=>aJ.ST gD (AA cD 0) adj adk Xr anw anx anz af5 af6 af7 anA anB anC λgX=>aJ.LD gX (AA cD 0) λAP AQ KU UR US UU adl adm adn ake akf akg=>R (.tuple #[.agg #[.I AP,.bool AQ,.U KU,.U UR,.string US,.string UU,.slice adl adm adn,.U ake,.I akf,.U akg],.I 0]) gX else(I (wrap .i64 (t32+1)) dA/\mu (wrap .i64 (t32+1)) dA<mu t32 dA) else aJ.ST dA (AA cD 0) 0 false 0 0 j9 j9 none 0 0 0 0 0 λgQ=>aJ.LD gQ (AA cD 0) λKV KW KX UW UX UY ado adp adq akh aki akj=>R (.tuple #[.agg #[.I KV,.bool KW,.U KX,.U UW,.string UX,.string UY,.slice ado adp adq,.U akh,.I aki,.U akj],.I 4]) gQ) (λJ=>Cl F.od #[.I kL] bJ λot fh=> ∃t21,ot=.bool t21/\if(!t21) then J true fh else J (decide (deadline>1099511627776)) fh)):Cl F.iG #[.P t 0,.agg #[.bool dO,.U dP,.U dQ,.string dR,.string dS],.I kL,.U deadline] h R:=aS (lq (sq (bq (lq (cq ll (sq (.join [(19,.one (.bool))] lf) (cq ll lf))))) (sq (lq (bq (.loop [(32,.one (.int .i64))] (lq (sq (cq lf lf) (sq (bq (lq (lq (lq (cq (lq (lq (lq (lq ll)))) lf))))) lf)))))) ll))) Tryz.func156 hv
theorem kG.walk {t:Nat} {num:Int} {kL:Int} (hv:Cl F.gv #[.P t 0] h λv aR=> ∃t10,v=.bool t10/\if(!t10) then R (.tuple #[.pointer none,.I 6]) aR else∃t16,ak aR (AA t 0)=some (.map t16)/\∃t18,mC Tryz.prog T.cY (.map t16) (.I num) false aR (.pointer t18)/\if t18.isNone then R (.tuple #[.pointer none,.I 4]) aR else aK (λ(t20:Bool) (aZ:aj)=>if t20 then R (.tuple #[.pointer none,.I 14]) aZ else∃t47,ak aZ (AA t 0)=some (.map t47)/\∃t49,mC Tryz.prog T.cY (.map t47) (.I num) false aZ (.pointer t49)/\R (.tuple #[.pointer t49,.I 0]) aZ) (λJ=> ∃t24,ak aR (AA t 0)=some (.map t24)/\∃t26,mC Tryz.prog T.cY (.map t24) (.I num) false aR (.pointer t26)/\aP t26 λa=> ∃t29,ak aR (a.add 8)=some (.I t29)/\if(t29==0) then J true aR else∃t35,ak aR (AA t 0)=some (.map t35)/\∃t37,mC Tryz.prog T.cY (.map t35) (.I num) false aR (.pointer t37)/\aP t37 λku=> ∃t40,ak aR (ku.add 8)=some (.I t40)/\J (t40 !=kL) aR)):Cl F.kG #[.P t 0,.I num,.I kL] h R:=aS (lq (sq (bq (lq (cq ll (lq (cq ll (sq (.join [(20,.one (.bool))] lf) (cq ll lf))))))) ll)) Tryz.func165 hv
theorem kF.walk {t:Nat} {n:Int} (hv:Hp h t 6 λt7=>Cl F.gn #[.pointer t7,.I n] h λv aR=>Vi v λt9=> ∃t13,ak aR (AA t 0)=some (.map t13)/\∃t15,mC Tryz.prog T.cY (.map t13) (.I n) false aR (.pointer t15)/\∃t19,ak aR (AA t 0)=some (.map t19)/\∃t21,mC Tryz.prog T.cY (.map t19) (.I n) false aR (.pointer t21)/\aP t15 λa=>aH aR (a.add 8) (.I 0) λaZ=>aP t21 λku=>aH aZ (ku.add 9) (.U 0) λbJ=>R (.tuple #[]) bJ):Cl F.kF #[.P t 0,.I n] h R:=aS (lq (pN 18)) Tryz.func120 hv
theorem iU.walk {t:Nat} {n:Int} (hv:Hp h t 6 λt7=>Cl F.gn #[.pointer t7,.I n] h λv aR=>Vi v λt9=>Hp aR t 5 λt13=>Cl F.gn #[.pointer t13,.I n] aR λeJ aZ=>Vi eJ λt15=> ∃t19,ak aZ (AA t 0)=some (.map t19)/\aX Tryz.prog (Builtin.delete_ #[T.cY,T.int] T.JZ #[.map t19,.I n]) aZ λgR bJ=>gR=.tuple #[]/\R (.tuple #[]) bJ):Cl F.iU #[.P t 0,.I n] h R:=aS (lq ll) Tryz.func119 hv
theorem nW.walk {t:Nat} {num:Int} {kL:Int} (hv:Cl F.kG #[.P t 0,.I num,.I kL] h λv aR=> ∃Ig vN,v=.tuple #[.pointer Ig,.I vN]/\aK (λ(aZ:aj)=>R (.I vN) aZ) (λJ=>if(vN==0) then Cl F.iU #[.P t 0,.I num] aR λeJ bJ=>eJ=.tuple #[]/\∃t24,ak bJ (AA t 2)=some (.I t24)/\aH bJ (AA t 2) (.I (wrap .i64 (t24+1))) λcB=>J cB else J aR)):Cl F.nW #[.P t 0,.I num,.I kL] h R:=aS (lq (lq (sq (lq (.join [] (cq ll lf))) ll))) Tryz.func161 hv
theorem kf.walk {t:Nat} {num:Int} {kL:Int} (hv:Cl F.kG #[.P t 0,.I num,.I kL] h λv aR=> ∃Ig vN,v=.tuple #[.pointer Ig,.I vN]/\aK (λ(aZ:aj)=>R (.I vN) aZ) (λJ=>if(vN==0) then Cl F.kF #[.P t 0,.I num] aR λeJ bJ=>eJ=.tuple #[]/\J bJ else J aR)):Cl F.kf #[.P t 0,.I num,.I kL] h R:=aS (lq (lq (sq (lq (.join [] (cq lf lf))) ll))) Tryz.func107 hv
theorem mS.walk {t:Nat} {now:Int} (hv:Cl F.gv #[.P t 0] h λv aR=> ∃t11,v=.bool t11/\if(!t11) then R (.Z) aR else Hp aR t 5 λt16=>Cl F.iO #[.pointer t16,.U now] aR λeJ aZ=>Vl eJ λqq pd rM=> ∃(I:Int->aj->Prop) (mu:Int->aj->Nat),I 0 aZ/\∀(t21:Int) (bJ:aj),I t21 bJ->if(decide (t21<(pd:Int))) then Bd t21 pd/\aP qq λa=>Re bJ (a.add (toNat t21*1)) λt24=>Cl F.iU #[.P t 0,.I t24] bJ λgR cB=>gR=.tuple #[]/\∃t31,ak cB (AA t 3)=some (.I t31)/\aH cB (AA t 3) (.I (wrap .i64 (t31+1))) λcJ=>(I (wrap .i64 (t21+1)) cJ/\mu (wrap .i64 (t21+1)) cJ<mu t21 bJ) else Hp bJ t 6 λt39=>Cl F.iO #[.pointer t39,.U now] bJ λkU cQ=>Vl kU λNf Kz RU=> ∃(Ko:Int->aj->Prop) (CC:Int->aj->Nat),Ko 0 cQ/\∀(t43:Int) (cW:aj),Ko t43 cW->if(decide (t43<(Kz:Int))) then Bd t43 Kz/\aP Nf λku=>Re cW (ku.add (toNat t43*1)) λt46=>Cl F.kF #[.P t 0,.I t46] cW λot dA=>ot=.tuple #[]/\(Ko (wrap .i64 (t43+1)) dA/\CC (wrap .i64 (t43+1)) dA<CC t43 cW) else R (.slice qq pd rM) cW):Cl F.mS #[.P t 0,.U now] h R:=aS (lq (sq (lq (cq ll lf)) (lq (sq (lq (bq (.loop [(21,.one (.int .i64))] (lq (sq (cq lf lf) (sq (bq (lq ll)) lf)))))) (sq (lq (bq (.loop [(43,.one (.int .i64))] (lq (sq (cq lf lf) (sq (bq ll) lf)))))) ll))))) Tryz.func53 hv
theorem mV.walk {t:Nat} {dO:Bool} {dP:Int} {dQ:Int} {dR:ByteArray} {dS:ByteArray} (hv:aV h (.cells #[.bool dO,.U dP,.U dQ,.string dR,.string dS] T.az) λb aR=>az.LD aR (AA b 0) λIN IP aaL aj6 aj7=>Cl F.jL #[.P t 0,.agg #[.bool IN,.U IP,.U aaL,.string aj6,.string aj7]] aR λv aZ=>Vl v λyu rP CR=> ∃(I:Int->aj->Prop) (mu:Int->aj->Nat),I 0 aZ/\∀(t13:Int) (bJ:aj),I t13 bJ->if(decide (t13<(rP:Int))) then Bd t13 rP/\aP yu λa=>Re bJ (a.add (toNat t13*1)) λt16=>Cl F.iU #[.P t 0,.I t16] bJ λeJ cB=>eJ=.tuple #[]/\∃t23,ak cB (AA t 4)=some (.I t23)/\aH cB (AA t 4) (.I (wrap .i64 (t23+1))) λcJ=>(I (wrap .i64 (t13+1)) cJ/\mu (wrap .i64 (t13+1)) cJ<mu t13 bJ) else R (.slice yu rP CR) bJ):Cl F.mV #[.P t 0,.agg #[.bool dO,.U dP,.U dQ,.string dR,.string dS]] h R:=aS (lq (lq (sq (lq (bq (.loop [(13,.one (.int .i64))] (lq (sq (cq lf lf) (sq (bq (lq ll)) lf)))))) ll))) Tryz.func99 hv
theorem lU.walk {t:Nat} (hv:Cl F.jr #[.P t 0] h λv aR=>Vl v λyL vQ Az=> ∃(I:bU->Nat->Nat->Int->aj->Prop) (mu:bU->Nat->Nat->Int->aj->Nat),I none 0 0 0 aR/\∀(kI:bU) (kJ kK:Nat) (t10:Int) (aZ:aj),I kI kJ kK t10 aZ->if(decide (t10<(vQ:Int))) then Bd t10 vQ/\aP yL λa=>Re aZ (a.add (toNat t10*1)) λt13=> ∃t17,ak aZ (AA t 0)=some (.map t17)/\∃t19,mC Tryz.prog T.cY (.map t17) (.I t13) false aZ (.pointer t19)/\aP t19 λku=>aJ.LD aZ ku λuh ui FK R8 R9 Sa af8 af9 aga anD anE anF=>aV aZ (.cells #[.I 0,.bool false,.U 0,.U 0,.string j9,.string j9,.Z,.U 0,.I 0,.U 0] T.aJ) λb bJ=>aJ.ST bJ (AA b 0) uh ui FK R8 R9 Sa af8 af9 aga anD anE anF λcB=>Hl cB b 6 λzB xe DV=>Cl F.cu #[.slice zB xe DV] cB λeJ cJ=> ∃iP iy iz,eJ=.slice iP iy iz/\aH cJ (AA b 6) (.slice iP iy iz) λcQ=>aJ.LD cQ (AA b 0) λBv zP adr anG anH anI agb agc agd anJ anK anL=>aV cQ (.cells #[.I Bv,.bool zP,.U adr,.U anG,.string anH,.string anI,.slice agb agc agd,.U anJ,.I anK,.U anL] T.aJ) λcD cW=>aX Tryz.prog (Builtin.append_ #[T.rD,T.rD] T.rD #[.slice kI kJ kK,.slice (some (AA cD 0)) 1 1]) cW λgR dA=> ∃Bl yd Cz,gR=.slice Bl yd Cz/\(I Bl yd Cz (wrap .i64 (t10+1)) dA/\mu Bl yd Cz (wrap .i64 (t10+1)) dA<mu kI kJ kK t10 aZ) else R (.slice kI kJ kK) aZ):Cl F.lU #[.P t 0] h R:=aS (lq (lq (sq (lq (bq (.loop [(3,.one (.slice)),(10,.one (.int .i64))] (lq (sq (cq lf lf) (sq (bq (lq (lq ll))) lf)))))) ll))) Tryz.func160 hv
end
section
open Go.rN
namespace hU
open qI cp
variable {h h':aj} {t:Nat} {X:Ft}
structure Cp where
 num:Nat
 e:Ev
 d:List UInt8
 cF:Nat
 ses:Int
 dl:Nat
structure CV where
 num:Nat
 b:Nat
 e:Ev
 v:BV
 cF:Nat
 ses:Int
 dl:Nat
def CV.abs (x:CV):Cp:=⟨x.num,x.e,x.v.b,x.cF,x.ses,x.dl⟩
abbrev CV.at (h:aj) (b:Nat) (x:CV):Prop:=aJ.at h b (x.num:Int) x.e.vD x.e.node x.e.l6 x.e.host x.e.sM x.v.p x.v.b.length x.v.c (x.cF:Int) x.ses (x.dl:Int)
structure CF where
 L:List Cp
 next:Nat
 iQ:Nat
 over:Nat
 gone:Nat
 E1:List E
 E2:List E
abbrev jJ (n:Int):Value:=.int .i64 n
theorem aqx:MM Tryz.prog T.int jJ:=⟨λa b h=>by kernel_rfl,λe a h=>by kernel_rfl,by
 have hu:Tryz.prog.underlying T.int=some (.int .i64):=by kernel_rfl
 exact⟨_,hu,λa b=> .inr rfl⟩,λa=>by simp[Instr.sameBits]⟩
theorem zN:y8 Tryz.prog T.cY jJ (.pointer none):=y8.of T.int T.Ma (by kernel_rfl) aqx (by kernel_rfl)
abbrev CV.pair (x:CV):Int×Value:=((x.num:Int),.pointer (some ⟨x.b,0,none⟩))
structure Cm (h:aj) (t:Nat) (X:Ft) (s:CF) (m:Nat) (xs:List CV) (a1:Nat) (S1:Nat->Prop) (a2:Nat) (S2:Nat->Prop) (fX:Nat->Option Nat):Prop where
 dE:h[t]? =some (.cells #[.map (some m),.int .i64 (s.next:Int),.int .i64 (s.iQ:Int),.int .i64 (s.over:Int),.int .i64 (s.gone:Int),.pointer (some ⟨a1,0,none⟩),.pointer (some ⟨a2,0,none⟩)] T.lB (0,0))
 map:pX h m jJ (xs.map CV.pair)
 Sj: ∀x∈xs,x.at h x.b
 abs:xs.map CV.abs=s.L
 PA: ∀x∈xs,x.v.ok h X.D
 U5:Al h a1 S1 s.E1
 TQ:Al h a2 S2 s.E2
 l0:fX t=some 0
 l1:fX m=some 1
 l2: ∀c,S1 c->fX c=some 2
 l3: ∀c,S2 c->fX c=some 3
 l4: ∀x∈xs,fX x.b=some (4+x.num)
 mm: ∀c,X.M c↔fX c≠none
 dd: ∀c,X.D c->fX c=none/\c<h.size
 QP: ∀c,fX c≠none->c<h.size
 so:(xs.map CV.num).Pairwise (· < ·)
def Ct (h:aj) (t:Nat) (X:Ft) (s:CF):Prop:= ∃m xs a1 S1 a2 S2 fX,Cm h t X s m xs a1 S1 a2 S2 fX
variable {s s' : CF} {m a1 a2 : Nat} {xs : List CV} {S1 S2 S1' S2' : Nat → Prop} {fX : Nat → Option Nat}
structure Kept (h':aj) (t:Nat) (X:Ft) (s:CF) (m:Nat) (xs:List CV) (a1:Nat) (S1:Nat->Prop) (a2:Nat) (S2:Nat->Prop) (k:Nat):Prop where
 dE:k≠0->h'[t]? =some (.cells #[.map (some m),.int .i64 (s.next:Int),.int .i64 (s.iQ:Int),.int .i64 (s.over:Int),.int .i64 (s.gone:Int),.pointer (some ⟨a1,0,none⟩),.pointer (some ⟨a2,0,none⟩)] T.lB (0,0))
 map:k≠1->pX h' m jJ (xs.map CV.pair)
 U5:k≠2->Al h' a1 S1 s.E1
 TQ:k≠3->Al h' a2 S2 s.E2
 Sj: ∀x∈xs,k≠4+x.num->x.at h' x.b
 PA: ∀x∈xs,x.v.ok h' X.D
theorem Cm.vV {Q:Nat->Prop} {k:Nat} (H:Cm h t X s m xs a1 S1 a2 S2 fX) (f:Fr Q h h') (hq: ∀c,Q c->c<h.size->fX c=some k):Kept h' t X s m xs a1 S1 a2 S2 k:=by
 have no: ∀ {c j:Nat},c<h.size->fX c=some j->k≠j->¬Q c:=λhc hl hk hQ=>hk (by have:=hq _ hQ hc;rw[hl] at this;exact(bz this).symm)
 refine⟨λhk=>f.get H.dE (no (aI H.dE) H.l0 hk),λhk=>H.map.frame f (no H.map.lt H.l1 hk),λhk=> ?_,λhk=> ?_,λx hx hk=>f.get (H.Sj x hx) (no (aI (H.Sj x hx)) (H.l4 x hx) hk),λx hx=> ?_⟩
 ·exact H.U5.frame f (λc hc=>no (H.U5.lt hc) (H.l2 c hc) hk)
 ·exact H.TQ.frame f (λc hc=>no (H.TQ.lt hc) (H.l3 c hc) hk)
 ·refine(H.PA x hx).frame f (λc hc hQ=> ?_);have:=H.dd c hc;have h2:=hq c hQ this.2;rw[this.1] at h2;cases h2
theorem Cm.frame {Q:Nat->Prop} (H:Cm h t X s m xs a1 S1 a2 S2 fX) (f:Fr Q h h') (hq: ∀y,X.M y\/X.D y->¬Q y):Cm h' t X s m xs a1 S1 a2 S2 fX:=by
 have no: ∀ {c j:Nat},fX c=some j->¬Q c:=λhl=>hq _ (.inl ((H.mm _).2 (by rw[hl];simp)))
 exact⟨f.get H.dE (no H.l0),H.map.frame f (no H.l1),λx hx=>f.get (H.Sj x hx) (no (H.l4 x hx)),H.abs,λx hx=>(H.PA x hx).frame f (λc hc=>hq c (.inr hc)),
  H.U5.frame f (λc hc=>no (H.l2 c hc)),H.TQ.frame f (λc hc=>no (H.l3 c hc)),H.l0,H.l1,H.l2,H.l3,H.l4,H.mm,λc hc=>⟨(H.dd c hc).1,cS (H.dd c hc).2 f.1⟩,λc hc=>cS (H.QP c hc) f.1,H.so⟩
theorem Cm.on (H:Cm h t X s m xs a1 S1 a2 S2 fX) (f:Fr No h h'):Cm h' t X s m xs a1 S1 a2 S2 fX:=H.frame f (λ_ _=>id)
theorem Ct.frame {Q:Nat->Prop} (H:Ct h t X s) (f:Fr Q h h') (hq: ∀y,X.M y\/X.D y->¬Q y):Ct h' t X s:=by
 obtain⟨m,xs,a1,S1,a2,S2,fX,H⟩:=H;exact⟨m,xs,a1,S1,a2,S2,fX,H.frame f hq⟩
theorem Ct.on (H:Ct h t X s) (f:Fr No h h'):Ct h' t X s:=H.frame f (λ_ _=>id)
theorem Ct.lt (H:Ct h t X s) (y:Nat) (hy:X.M y\/X.D y):y<h.size:=by
 obtain⟨m,xs,a1,S1,a2,S2,fX,H⟩:=H;rcases hy with hy|hy
 ·exact H.QP y ((H.mm y).1 hy)
 ·exact(H.dd y hy).2
theorem Cm.step {Q:Nat->Prop} {k:Nat} (H:Cm h t X s m xs a1 S1 a2 S2 fX) (f:Fr Q h h') (hq: ∀c,Q c->c<h.size->fX c=some k):bM X h X h':=
 bM.E0 (f.mono λc hc hQ=>(H.mm c).2 (by rw[hq c hQ hc];simp))
theorem Cm.field (H:Cm h t X s m xs a1 S1 a2 S2 fX) (hL:s'.L=s.L) (h1:s'.E1=s.E1) (h2:s'.E2=s.E2)
  (hb:h'[t]? =some (.cells #[.map (some m),.I (s'.next:Int),.I (s'.iQ:Int),.I (s'.over:Int),.I (s'.gone:Int),.P a1 0,.P a2 0] T.lB (0,0)))
  (hs:h'.size=h.size) (ho: ∀x,x≠t->h'[x]? =h[x]?):Cm h' t X s' m xs a1 S1 a2 S2 fX/\bM X h X h':=by
 have f:Fr (λc=>c=t) h h':=⟨by omega,λc _ hn=>ho c hn⟩;have hq: ∀c,c=t->c<h.size->fX c=some 0:=λc e _=>by rw[e];exact H.l0
 have K:=H.vV f hq;refine⟨⟨hb,K.map (by omega),λx hx=>K.Sj x hx (by omega),H.abs.trans hL.symm,K.PA,by rw[h1];exact K.U5 (by omega),by rw[h2];exact K.TQ (by omega),H.l0,H.l1,H.l2,H.l3,H.l4,H.mm,λc hc=>by rw[hs];exact H.dd c hc,λc hc=>by rw[hs];exact H.QP c hc,H.so⟩,H.step f hq⟩
def ads (fX:Nat->Option Nat) (S:Nat->Prop) [DecidablePred S] (k:Nat):Nat->Option Nat:=λc=>if S c then some k else fX c
theorem Cm.U6 {E':List E} (H:Cm h t X s m xs a1 S1 a2 S2 fX) (A:Al h' a2 S2' E') (hS: ∀c,S2' c->S2 c\/h.size<=c) (f:Fr S2 h h') (hL:s'.L=s.L) (h1:s'.E1=s.E1) (h2:s'.E2=E') (hn:s'.next=s.next/\s'.iQ=s.iQ/\s'.over=s.over/\s'.gone=s.gone):
  ∃X' kr,Cm h' t X' s' m xs a1 S1 a2 S2' kr/\bM X h X' h'/\∀c,X'.M c->X.M c\/S2' c:=by
 classical
 have hq: ∀c,S2 c->c<h.size->fX c=some 3:=λc hc _=>H.l3 c hc
 have K:=H.vV f hq;have z:=f.1
 let kr:=ads fX S2' 3
 have nK: ∀ {c j:Nat},fX c=some j->j≠3->kr c=some j:=fun {c j} hl hj=>by
  show(if S2' c then some 3 else fX c)=some j;rw[ai]
  ·exact hl
  ·intro hc;rcases hS c hc with h3|h3
   ·rw[H.l3 c h3] at hl;exact hj (bz hl).symm
   ·have:=H.QP c (by rw[hl];simp);omega
 have xw: ∀c,kr c≠none->fX c≠none\/S2' c:=λc hc=>by
  by_cases hx:S2' c
  ·exact .inr hx
  ·refine .inl ?_;have e:kr c=fX c:=ai hx;rwa[e] at hc
 have anM: ∀c,fX c≠none->kr c≠none:=λc hc=>by
  by_cases hx:S2' c
  ·have e:kr c=some 3:=ag hx;rw[e];simp
  ·have e:kr c=fX c:=ai hx;rwa[e]
 have st:bM X h ⟨λc=>kr c≠none,X.D⟩ h':=by
  refine⟨f.mono (λc hc hx=>(H.mm c).2 (by rw[H.l3 c hx];simp)),λc hc=> ?_,λc hc=> .inl hc,λc hc=>hc⟩;rcases xw c hc with h3|h3
  ·exact .inl ((H.mm c).2 h3)
  ·rcases hS c h3 with h4|h4
   ·exact .inl ((H.mm c).2 (by rw[H.l3 c h4];simp))
   ·exact .inr h4
 refine⟨⟨λc=>kr c≠none,X.D⟩,kr,⟨?_,K.map (by omega),λx hx=>K.Sj x hx (by omega),H.abs.trans hL.symm,K.PA,by rw[h1];exact K.U5 (by omega),by rw[h2];exact A,nK H.l0 (by omega),nK H.l1 (by omega),λc hc=>nK (H.l2 c hc) (by omega),λc hc=>ag hc,λx hx=>nK (H.l4 x hx) (by omega),λc=>fY,λc hc=> ?_,λc hc=> ?_,H.so⟩,st,λc hc=>(xw c hc).imp (λh=>(H.mm c).2 h) id⟩
 ·rw[hn.1,hn.2.1,hn.2.2.1,hn.2.2.2];exact K.dE (by omega)
 ·have:=H.dd c hc;refine⟨?_,by omega⟩;show(if S2' c then some 3 else fX c)=none;rw[ai]
  ·exact this.1
  ·intro hx;rcases hS c hx with h3|h3
   ·rw[H.l3 c h3] at this;cases this.1
   ·omega
 ·rcases xw c hc with h3|h3
  ·have:=H.QP c h3;omega
  ·exact A.lt h3
theorem Cm.U7 {E':List E} (H:Cm h t X s m xs a1 S1 a2 S2 fX) (A:Al h' a1 S1' E') (hS: ∀c,S1' c->S1 c\/h.size<=c) (f:Fr S1 h h') (hL:s'.L=s.L) (h1:s'.E1=E') (h2:s'.E2=s.E2) (hn:s'.next=s.next/\s'.iQ=s.iQ/\s'.over=s.over/\s'.gone=s.gone):
  ∃X' kr,Cm h' t X' s' m xs a1 S1' a2 S2 kr/\bM X h X' h'/\∀c,X'.M c->X.M c\/S1' c:=by
 classical
 have hq: ∀c,S1 c->c<h.size->fX c=some 2:=λc hc _=>H.l2 c hc
 have K:=H.vV f hq;have z:=f.1
 let kr:=ads fX S1' 2
 have nK: ∀ {c j:Nat},fX c=some j->j≠2->kr c=some j:=fun {c j} hl hj=>by
  show(if S1' c then some 2 else fX c)=some j;rw[ai]
  ·exact hl
  ·intro hc;rcases hS c hc with h3|h3
   ·rw[H.l2 c h3] at hl;exact hj (bz hl).symm
   ·have:=H.QP c (by rw[hl];simp);omega
 have xw: ∀c,kr c≠none->fX c≠none\/S1' c:=λc hc=>by
  by_cases hx:S1' c
  ·exact .inr hx
  ·refine .inl ?_;have e:kr c=fX c:=ai hx;rwa[e] at hc
 have st:bM X h ⟨λc=>kr c≠none,X.D⟩ h':=by
  refine⟨f.mono (λc hc hx=>(H.mm c).2 (by rw[H.l2 c hx];simp)),λc hc=> ?_,λc hc=> .inl hc,λc hc=>hc⟩;rcases xw c hc with h3|h3
  ·exact .inl ((H.mm c).2 h3)
  ·rcases hS c h3 with h4|h4
   ·exact .inl ((H.mm c).2 (by rw[H.l2 c h4];simp))
   ·exact .inr h4
 refine⟨⟨λc=>kr c≠none,X.D⟩,kr,⟨?_,K.map (by omega),λx hx=>K.Sj x hx (by omega),H.abs.trans hL.symm,K.PA,by rw[h1];exact A,by rw[h2];exact K.TQ (by omega),nK H.l0 (by omega),nK H.l1 (by omega),λc hc=>ag hc,λc hc=>nK (H.l3 c hc) (by omega),λx hx=>nK (H.l4 x hx) (by omega),λc=>fY,λc hc=> ?_,λc hc=> ?_,H.so⟩,st,λc hc=>(xw c hc).imp (λh=>(H.mm c).2 h) id⟩
 ·rw[hn.1,hn.2.1,hn.2.2.1,hn.2.2.2];exact K.dE (by omega)
 ·have:=H.dd c hc;refine⟨?_,by omega⟩;show(if S1' c then some 2 else fX c)=none;rw[ai]
  ·exact this.1
  ·intro hx;rcases hS c hx with h3|h3
   ·rw[H.l2 c h3] at this;cases this.1
   ·omega
 ·rcases xw c hc with h3|h3
  ·have:=H.QP c h3;omega
  ·exact A.lt h3
theorem Cm.del {n:Int} (H:Cm h t X s m xs a1 S1 a2 S2 fX) (M:pX h' m jJ (GA (xs.map CV.pair) n)) (hs:h'.size=h.size) (ho: ∀c,c≠m->h'[c]? =h[c]?) (hL:s'.L=s.L.filter (λx=> !decide ((x.num:Int)=n))) (h1:s'.E1=s.E1) (h2:s'.E2=s.E2) (hn:s'.next=s.next/\s'.iQ=s.iQ/\s'.over=s.over/\s'.gone=s.gone):
  Cm h' t X s' m (xs.filter (λx=> !decide ((x.num:Int)=n))) a1 S1 a2 S2 fX/\bM X h X h':=by
 have f:Fr (λc=>c=m) h h':=⟨by omega,λc _ hn=>ho c hn⟩;have hq: ∀c,c=m->c<h.size->fX c=some 1:=λc e _=>by rw[e];exact H.l1
 have K:=H.vV f hq;have sub: ∀x∈xs.filter (λx=> !decide ((x.num:Int)=n)),x∈xs:=λx hx=>(aY.1 hx).1
 refine⟨⟨?_,?_,λx hx=>K.Sj x (sub x hx) (by omega),?_,λx hx=>K.PA x (sub x hx),by rw[h1];exact K.U5 (by omega),by rw[h2];exact K.TQ (by omega),H.l0,H.l1,H.l2,H.l3,λx hx=>H.l4 x (sub x hx),H.mm,λc hc=>by rw[hs];exact H.dd c hc,λc hc=>by rw[hs];exact H.QP c hc,H.so.sublist (cU.map _)⟩,H.step f hq⟩
 ·rw[hn.1,hn.2.1,hn.2.2.1,hn.2.2.2];exact K.dE (by omega)
 ·unfold GA at M;rw[eK] at M;exact M
 ·rw[hL,<-H.abs,eK];rfl
theorem Cm.change {x y:CV} (H:Cm h t X s m xs a1 S1 a2 S2 fX) (hx:x∈xs) (hb:y.b=x.b) (IK:y.num=x.num) (hv:y.v=x.v) (hy:y.at h' x.b) (hs:h'.size=h.size) (ho: ∀c,c≠x.b->h'[c]? =h[c]?)
  (hL:s'.L=s.L.map (λz=>if z.num=x.num then y.abs else z)) (h1:s'.E1=s.E1) (h2:s'.E2=s.E2) (hn:s'.next=s.next/\s'.iQ=s.iQ/\s'.over=s.over/\s'.gone=s.gone):
  Cm h' t X s' m (xs.map (λz=>if z.num=x.num then y else z)) a1 S1 a2 S2 fX/\bM X h X h':=by
 have f:Fr (λc=>c=x.b) h h':=⟨by omega,λc _ hn=>ho c hn⟩;have hq: ∀c,c=x.b->c<h.size->fX c=some (4+x.num):=λc e _=>by rw[e];exact H.l4 x hx
 have K:=H.vV f hq;have mem: ∀z∈xs.map (λz=>if z.num=x.num then y else z),(z=y)\/(z∈xs/\z.num≠x.num):=λz hz=>by
  obtain⟨u,hu,rfl⟩:=bn.1 hz;by_cases e:u.num=x.num
  ·rw[ag e];exact .inl rfl
  ·rw[ai e];exact .inr ⟨hu,e⟩
 have pe:(xs.map (λz=>if z.num=x.num then y else z)).map CV.pair=xs.map CV.pair:=by
  rw[fG];refine fV λz hz=> ?_
  show CV.pair (if z.num=x.num then y else z)=z.pair;by_cases e:z.num=x.num
  ·rw[ag e];have:z=x:=by
    obtain⟨i,hi⟩:=bG hz;obtain⟨j,hj⟩:=bG hx;have Rc:(xs.map CV.num).Nodup:=H.so.imp (λh=>Nat.ne_of_lt h);have MK:=(aG.1 hi).1;have:=(fU (l:=xs.map CV.num) (i:=i) (j:=j) (by simpa using MK) Rc).1 (by rw[aO,aO,hi,hj];simp[e]);subst this;rw[hi] at hj;exact bz hj
   subst this;unfold CV.pair;rw[IK,hb]
  ·rw[ai e]
 refine⟨⟨?_,?_,λz hz=> ?_,?_,λz hz=> ?_,by rw[h1];exact K.U5 (by omega),by rw[h2];exact K.TQ (by omega),H.l0,H.l1,H.l2,H.l3,λz hz=> ?_,H.mm,λc hc=>by rw[hs];exact H.dd c hc,λc hc=>by rw[hs];exact H.QP c hc,?_⟩,H.step f hq⟩
 ·rw[hn.1,hn.2.1,hn.2.2.1,hn.2.2.2];exact K.dE (by omega)
 ·rw[pe];exact K.map (by omega)
 ·rcases mem z hz with rfl|⟨hz,e⟩
  ·rw[hb];exact hy
  ·exact K.Sj z hz (by omega)
 ·rw[hL,<-H.abs,fG,fG];refine fV λz _=> ?_
  show CV.abs (if z.num=x.num then y else z)=if z.num=x.num then y.abs else z.abs
  split<;>rfl
 ·rcases mem z hz with rfl|⟨hz,_⟩
  ·rw[hv];exact K.PA x hx
  ·exact K.PA z hz
 ·rcases mem z hz with rfl|⟨hz,_⟩
  ·rw[hb,IK];exact H.l4 x hx
  ·exact H.l4 z hz
 ·have:(xs.map (λz=>if z.num=x.num then y else z)).map CV.num=xs.map CV.num:=by
   rw[fG];refine fV λz _=> ?_
   show CV.num (if z.num=x.num then y else z)=z.num;split
   ·rename_i e;rw[IK,e]
   ·rfl
  rw[this];exact H.so
theorem Cm.add {y:CV} {h1 h2:aj} (H:Cm h t X s m xs a1 S1 a2 S2 fX) (f1:Fr No h h1) (hy:y.at h1 y.b) (hyb:h.size<=y.b) (aqy:Row h1 y.v.p (bc y.v.b)) (OQ:y.v.b.length<=y.v.c) (hdn: ∀c,aQ y.v.p c->h.size<=c/\c≠y.b/\c<h1.size) (IK: ∀x∈xs,x.num<y.num)
  (M:pX h2 m jJ (Ro (xs.map CV.pair) (y.num:Int) (.P y.b 0))) (hs:h2.size=h1.size) (ho: ∀c,c≠m->h2[c]? =h1[c]?)
  (hL:s'.L=s.L++ [y.abs]) (e1:s'.E1=s.E1) (e2:s'.E2=s.E2) (hn:s'.next=s.next/\s'.iQ=s.iQ/\s'.over=s.over/\s'.gone=s.gone):
  ∃X' kr,Cm h2 t X' s' m (xs++ [y]) a1 S1 a2 S2 kr/\bM X h X' h2:=by
 classical
 have z1:=f1.1;have H1:=H.on f1;have f2:Fr (λc=>c=m) h1 h2:=⟨by omega,λc _ hn=>ho c hn⟩;have hq: ∀c,c=m->c<h1.size->fX c=some 1:=λc e _=>by rw[e];exact H.l1
 have K:=H1.vV f2 hq;have yb1:=aI hy
 let kr:=ads fX (λc=>c=y.b) (4+y.num)
 have adt: ∀c,c≠y.b->kr c=fX c:=λc hc=>ai hc
 have aqz:kr y.b=some (4+y.num):=ag rfl;have ynl: ∀ {c:Nat},fX c≠none->c≠y.b:=fun {c} hc e=>by have:=H.QP c hc;omega
 have nK: ∀ {c j:Nat},fX c=some j->kr c=some j:=fun {c j} hl=>by rw[adt c (ynl (by rw[hl];simp))];exact hl
 let D':=λc=>X.D c\/(y.v.b≠ []/\aQ y.v.p c)
 have ymn:y.b≠m:=λe=>by have:=H.map.lt;omega
 have K2: ∀c,D' c->kr c=none/\c<h2.size:=λc hc=>by
  rcases hc with hc|⟨_,hc⟩
  ·have:=H.dd c hc;rw[adt c (by omega)];exact⟨this.1,by omega⟩
  ·have:=hdn c hc;rw[adt c this.2.1];refine⟨?_,by omega⟩;cases e:fX c with
   |none=>rfl
   |some j=>have:=H.QP c (by rw[e];simp);omega
 refine⟨⟨λc=>kr c≠none,D'⟩,kr,⟨?_,?_,λx hx=> ?_,?_,λx hx=> ?_,by rw[e1];exact K.U5 (by omega),by rw[e2];exact K.TQ (by omega),nK H.l0,nK H.l1,λc hc=>nK (H.l2 c hc),λc hc=>nK (H.l3 c hc),λx hx=> ?_,λc=>fY,K2,λc hc=> ?_,?_⟩,?_⟩
 ·rw[hn.1,hn.2.1,hn.2.2.1,hn.2.2.2];exact K.dE (by omega)
 ·refine M.perm ?_;unfold Ro;rw[Dn (λe he=>by obtain⟨x,hx,rfl⟩:=bn.1 he;have:=IK x hx;show¬((x.num:Int)=(y.num:Int));omega),bm];exact(List.perm_append_comm (arN:= [CV.pair y]) (arO:=xs.map CV.pair))
 ·rcases bT.1 hx with hx|hx
  ·exact K.Sj x hx (by omega)
  ·obtain rfl:=bV.1 hx;exact f2.get hy ymn
 ·rw[hL,<-H.abs,bm];rfl
 ·rcases bT.1 hx with hx|hx
  ·exact(K.PA x hx).mono (λc hc=> .inl hc)
  ·obtain rfl:=bV.1 hx;refine⟨aqy.frame f2 (λa e hm=> ?_),λkA c hc=> .inr ⟨kA,hc⟩,OQ⟩;have h1:=(hdn a.block ⟨a,e,rfl⟩).1;have h2:=H.map.lt;have h3:a.block=m:=hm;omega
 ·rcases bT.1 hx with hx|hx
  ·exact nK (H.l4 x hx)
  ·obtain rfl:=bV.1 hx;exact aqz
 ·by_cases e:c=y.b
  ·subst e;omega
  ·rw[adt c e] at hc;have:=H.QP c hc;omega
 ·rw[bm,List.pairwise_append];refine⟨H.so,by simp,λa ha b hb=> ?_⟩;obtain⟨x,hx,rfl⟩:=bn.1 ha;simp at hb;subst hb;exact IK x hx
 ·refine⟨?_,λc hc=> ?_,λc hc=> ?_,λc hc=> .inl hc⟩
  ·have f12:Fr (λc=>c=m) h h2:=Fr.no f1 f2;exact f12.mono (λc _ e=>(H.mm c).2 (by rw[e,H.l1];simp))
  ·by_cases e:c=y.b
   ·exact .inr (by omega)
   ·have hc:kr c≠none:=hc;rw[adt c e] at hc;exact .inl ((H.mm c).2 hc)
  ·rcases hc with hc|⟨_,hc⟩
   ·exact .inl hc
   ·exact .inr (hdn c hc).1
end hU
end
end Go.Proofs.YtlenamcfacpheaaGreatDoor
namespace Go.Proofs
open Go.Den
open IntKind (wrap)
open Int (toNat)
section
open Go.Shelf
def Tryz.aaM:Go.Shelf.Ren:=⟨fun|5=>134|8=>183|7=>185|19=>222|20=>223|10=>224|11=>225|12=>226|13=>227|14=>228|15=>229|16=>230|17=>231|18=>232|30=>272|31=>268|32=>269|33=>273|34=>274|35=>275|40=>306|n=>n,fun|23=>105|25=>3|3=>3|32=>211|22=>105|0=>0|44=>315|46=>27|4=>4|36=>309|35=>308|41=>253|5=>5|9=>9|53=>366|57=>369|63=>400|64=>401|n=>n,fun|n=>n⟩
theorem Tryz.aip:Go.Proofs.SlLaysM.n5 Tryz.prog Tryz.aaM:= {
 mixed:=by kernel_rfl
 f5:=⟨Tryz.f134.name,by decide,Tryz.func134.trans (bp some (by kernel_rfl))⟩
 f7:=⟨Tryz.f185.name,by decide,Tryz.func185.trans (bp some (by kernel_rfl))⟩
 f8:=Tryz.func183.trans (bp some (by kernel_rfl))
 f10:=⟨Tryz.f224.name,by decide,Tryz.func224.trans (bp some (by kernel_rfl))⟩
 f11:=⟨Tryz.f225.name,by decide,Tryz.func225.trans (bp some (by kernel_rfl))⟩
 f12:=⟨Tryz.f226.name,by decide,Tryz.func226.trans (bp some (by kernel_rfl))⟩
 f13:=⟨Tryz.f227.name,by decide,Tryz.func227.trans (bp some (by kernel_rfl))⟩
 f14:=⟨Tryz.f228.name,by decide,Tryz.func228.trans (bp some (by kernel_rfl))⟩
 f15:=⟨Tryz.f229.name,by decide,Tryz.func229.trans (bp some (by kernel_rfl))⟩
 f16:=⟨Tryz.f230.name,by decide,Tryz.func230.trans (bp some (by kernel_rfl))⟩
 f17:=⟨Tryz.f231.name,by decide,Tryz.func231.trans (bp some (by kernel_rfl))⟩
 f18:=⟨Tryz.f232.name,by decide,Tryz.func232.trans (bp some (by kernel_rfl))⟩
 f19:=Tryz.func222.trans (bp some (by kernel_rfl))
 f20:=Tryz.func223.trans (bp some (by kernel_rfl))
 f30:=⟨Tryz.f272.name,by decide,Tryz.func272.trans (bp some (by kernel_rfl))⟩
 f31:=Tryz.func268.trans (bp some (by kernel_rfl))
 f32:=Tryz.func269.trans (bp some (by kernel_rfl))
 f33:=⟨Tryz.f273.name,by decide,Tryz.func273.trans (bp some (by kernel_rfl))⟩
 f34:=⟨Tryz.f274.name,by decide,Tryz.func274.trans (bp some (by kernel_rfl))⟩
 f35:=⟨Tryz.f275.name,by decide,Tryz.func275.trans (bp some (by kernel_rfl))⟩
 f40:=⟨Tryz.f306.name,by decide,Tryz.func306.trans (bp some (by kernel_rfl))⟩
 t0:=Tryz.underlying0
 a0:=Tryz.isAgg0
 z0:=Tryz.sizeOf0
 v0:=Tryz.zeroValue0
 t3:=Tryz.underlying3
 a3:=Tryz.isAgg3
 z3:=Tryz.sizeOf3
 v3:=Tryz.zeroValue3
 t4:=Tryz.underlying4
 a4:=Tryz.isAgg4
 z4:=Tryz.sizeOf4
 v4:=Tryz.zeroValue4
 t5:=Tryz.underlying5
 a5:=Tryz.isAgg5
 z5:=Tryz.sizeOf5
 v5:=Tryz.zeroValue5
 t9:=Tryz.underlying9
 a9:=Tryz.isAgg9
 z9:=Tryz.sizeOf9
 v9:=Tryz.zeroValue9
 t22:=Tryz.underlying105
 a22:=Tryz.isAgg105
 z22:=Tryz.sizeOf105
 v22:=Tryz.zeroValue105
 t23:=Tryz.underlying105
 a23:=Tryz.isAgg105
 z23:=Tryz.sizeOf105
 v23:=Tryz.zeroValue105
 t25:=Tryz.underlying3
 a25:=Tryz.isAgg3
 z25:=Tryz.sizeOf3
 v25:=Tryz.zeroValue3
 t32:=Tryz.underlying211
 a32:=Tryz.isAgg211
 z32:=Tryz.sizeOf211
 v32:=Tryz.zeroValue211
 t35:=Tryz.underlying308
 a35:=Tryz.isAgg308
 z35:=Tryz.sizeOf308
 v35:=Tryz.zeroValue308
 t36:=Tryz.underlying309
 a36:=Tryz.isAgg309
 z36:=Tryz.sizeOf309
 v36:=Tryz.zeroValue309
 t41:=Tryz.underlying253
 a41:=Tryz.isAgg253
 z41:=Tryz.sizeOf253
 v41:=Tryz.zeroValue253
 t44:=Tryz.underlying315
 a44:=Tryz.isAgg315
 z44:=Tryz.sizeOf315
 v44:=Tryz.zeroValue315
 t46:=Tryz.underlying27
 a46:=Tryz.isAgg27
 z46:=Tryz.sizeOf27
 v46:=Tryz.zeroValue27
 t53:=Tryz.underlying366
 a53:=Tryz.isAgg366
 z53:=Tryz.sizeOf366
 v53:=Tryz.zeroValue366
 t57:=Tryz.underlying369
 a57:=Tryz.isAgg369
 z57:=Tryz.sizeOf369
 v57:=Tryz.zeroValue369
 t63:=Tryz.underlying400
 a63:=Tryz.isAgg400
 z63:=Tryz.sizeOf400
 v63:=Tryz.zeroValue400
 t64:=Tryz.underlying401
 a64:=Tryz.isAgg401
 z64:=Tryz.sizeOf401
 v64:=Tryz.zeroValue401 }
end
end Go.Proofs
namespace Go.Proofs.YtlenamcfacpheaaGreatDoor
open Go.Den
open IntKind (wrap)
open Int (toNat)
section
open Go.Sort
namespace Srt
variable {h:aj} {R:iI} {p:bU} {n c:Nat} {xs:List Int}
abbrev iv (x:Int):Value:=.int .i64 x
theorem age (o:iR h p n c 1 (xs.map iv)) (hl:n=xs.length) (nd:xs.Nodup) (hn:n<=60000) (hk: ∀h' (zs:List Int),iR h' p n c 1 (zs.map iv)->zs.Perm xs->zs.Pairwise (· < ·)->Fr (aQ p) h h'->R (.tuple #[]) h'):
  Cl F.tY #[.slice p n c] h R:=by
 subst hl;intro w hw;cases o with
 |nil hp h0 hc BF=>
  obtain rfl:=List.eq_nil_of_length_eq_zero h0;refine(AnyM.slices_Sort_int_none Tryz.aip p c w).mono ?_;rintro e w' ⟨rfl,rfl⟩;exact⟨_,rfl,hk _ [] (by rw[hw];exact .nil hp rfl hc rfl) (.refl _) .nil (by rw[hw];exact Fr.refl _ _),iC.refl _⟩
 |row b off ca t hp hb h1 hc h2 BF=>
  subst hp;subst hw;have ES: ∀(zs:List Int) (j:Nat),j<zs.length->zs.toArray[j]! =zs.getD j 0:=λzs j hj=>by
   simp[getElem!_pos,hj]
  refine(AnyM.slices_Sort_int Tryz.aip b off c xs w (λj hj=> ?_) (aI hb) (by omega)).mono ?_
  ·have hj:j<xs.length:=by simpa using hj
   refine⟨?_,by rw[Gm];exact xY hb⟩;rw[uD,wj hb,ES xs j hj];exact BF j _ (by rw[aO,au hj,ba,au hj];rfl)
  ·rintro e w' ⟨rfl,k,os,rfl⟩;have pm:=List.mergeSort_perm xs λx y=>decide (x<=y)
   have so:(xs.mergeSort λx y=>decide (x<=y)).Pairwise (· < ·):=by
    have s1:=List.pairwise_mergeSort (le:=λ(x y:Int)=>decide (x<=y)) (λa b c h1 h2=>by simp at h1 h2⊢;omega) (λa b=>by simp;omega) xs;have s2:(xs.mergeSort λx y=>decide (x<=y)).Nodup:=pm.nodup_iff.2 nd;exact(s1.and s2).imp fun {a b} h=>by have:=of_decide_eq_true h.1;have:=h.2;omega
   generalize (xs.mergeSort λx y=>decide (x<=y))=zs at pm so⊢;have hz:zs.length=xs.length:=pm.length_eq;have hold: ∀x,x<w.heap.size->x≠b->(w.heap.modify b (onCells (putCells (Value.int .i64) off zs.toArray))++os)[x]? =w.heap[x]? :=λx hx kA=>by
    rw[eX (by simpa using hx),fD,ai (λe=>kA e.symm)]
   have ajG:(w.heap.modify b (onCells (putCells (Value.int .i64) off zs.toArray))++os)[b]? =some (.cells (putCells (Value.int .i64) off zs.toArray ca) t (0,0)):=by
    rw[eX (by simpa using aI hb),fD,ag rfl,hb];rfl
   refine⟨_,rfl,hk _ zs (.row b off _ t rfl ajG h1 (by unfold putCells;rw[Array.size_mapIdx];exact hc) (by simp[hz]) λj v hj=> ?_) pm so ?_,⟨rfl,rfl,rfl⟩⟩
   ·rw[aO] at hj;have Cf:j<zs.length:=by
     rcases Nat.lt_or_ge j zs.length with q|q
     ·exact q
     ·rw[eg q] at hj;cases hj
    rw[au Cf] at hj;obtain rfl:=bz hj;unfold putCells;have hs:off+j<ca.size:=by omega
    rw[Array.getElem?_mapIdx,Array.getElem?_eq_getElem hs,dy,ag ⟨by omega,by simp;omega⟩,show off+j - off=j by omega,ES zs j Cf,ba,au Cf];rfl
   ·refine⟨by show _<=(w.heap.modify b _++os).size;simp,λx hx hn=>hold x hx (λe=>hn ⟨_,rfl,e.symm⟩)⟩
end Srt
end
section
open Go.rN
namespace hU
open qI cp
variable {h h':aj} {R:iI} {t:Nat} {X:Ft} {s:CF} {m a1 a2:Nat} {xs:List CV} {S1 S2:Nat→Prop} {fX:Nat→Option Nat} {p:bU} {n c:Nat}
theorem uSI:Tryz.prog.underlying T.Fc=some (.slice T.int):=by kernel_rfl
theorem ji (H:Cm h t X s m xs a1 S1 a2 S2 fX) (hk:R (.bool true) h):Cl F.gv #[.P t 0] h R:=gv.walk ⟨_,af H.dE rfl,hk⟩
def tW (xs:List CV):List Int:=xs.map (λx=>(x.num:Int))
theorem Je (H:Cm h t X s m xs a1 S1 a2 S2 fX):(tW xs).Pairwise (· < ·):=by
 have:=H.so;rw[gi] at this;unfold tW;rw[gi];exact this.imp (λh=>by omega)
theorem K0 (H:Cm h t X s m xs a1 S1 a2 S2 fX) (hl:xs.length<=60000) (hk: ∀h' p' c',iR h' p' xs.length c' 1 ((tW xs).map jJ)->(∀y,aQ p' y->h.size<=y)->Fr No h h'->R (.slice p' xs.length c') h'):
  Cl F.jr #[.P t 0] h R:=by
 refine jr.walk (ji H ⟨_,rfl,aK.of λJ hJ=> ?_⟩);rw[ag rfl];refine⟨_,af H.dE rfl,Uh zN H.map λit h1 e1 I1 f1=>⟨_,rfl,?_⟩⟩;refine⟨λop ol oc g=> ∃ds:List (Int×Value),ol=ds.length/\iR g op ol oc 1 ((ds.map (·.1)).map jJ)/\(∀y,aQ op y->h.size<=y/\y≠it)/\Iter g it m jJ (xs.map CV.pair) ds/\Fr No h g,λ_ ol _ _=>xs.length - ol,
  ⟨[],rfl,.nil rfl rfl rfl rfl,(λy ⟨a,e,_⟩=>by cases e),I1,f1⟩,?_⟩
 rintro op ol oc g ⟨ds,rfl,oy,gy,Iy,fy⟩;have hle:=Iy.le;rw[aN] at hle;refine aaj Iy (λhp=> .inl ⟨rfl,?_⟩) (λa v g1 hm hnm I1 s1 o1=> .inr ⟨_,_,rfl,?_⟩)
 ·subst hJ;dsimp only;have aiq:(ds.map (·.1)).Perm (tW xs):=by
   have:=hp.map (·.1);rw[fG] at this;exact this
  have so:=Je H;have nd:(ds.map (·.1)).Nodup:=aiq.nodup_iff.2 (so.imp (λh=>by omega));have hlen:ds.length=xs.length:=by rw[hp.length_eq,aN]
  refine Srt.age oy (by rw[aN]) nd (by omega) λh3 zs o3 p3 s3 f3=>⟨rfl,?_⟩
  have:zs=tW xs:=List.Perm.eq_of_pairwise (le:=(· < ·)) (λa b _ _ h1 h2=>by omega) s3 so (p3.trans aiq);subst this;rw[hlen] at o3⊢;exact hk h3 op oc o3 (λy hy=>(gy y hy).1) (fy.fresh f3 (λy hy=>(gy y hy).1))
 ·refine Ui I1 ⟨_,_,rfl,_,rfl,cX ?_⟩;have f3:Fr No g1 (g1.push (.cells #[.I a] T.int)):=Fr.push _ _;have r3:Row (g1.push (.cells #[.I a] T.int)) (some (AA g1.size 0)) [jJ a]:=rV (cs:= [jJ a]);have z3:(g1.push (.cells #[.I a] T.int)).size=g1.size+1:=fO _;generalize g1.push (.cells #[.I a] T.int)=g3 at f3 r3 z3⊢;have fit:Fr (λy=>y=it) g g1:=⟨by omega,λy _ hn=>o1 y hn⟩;have oy1:=(oy.frame fit (λy hy e=>(gy y hy).2 e)).frame f3 (λ_ _=>id);have zf:=f1.1;have F1:Fr No h g1:=fy.fresh fit (λy e=>by omega);have F3:=F1.tt f3;have arP:it<g1.size:=by
   obtain⟨_,_,_,_,_,_,hr,_⟩:=I1;exact aI hr
  refine fQ (cs:=(ds.map (·.1)).map jJ) (ds:= [jJ a]) tI uSI oy1 r3 rfl (λv hv=>by simp at hv;subst hv;rfl) (by omega) (by omega) λp4 c4 g4 o4 _ f4 k4=>⟨_,_,_,rfl,?_⟩
  have hp4: ∀y,aQ p4 y->h.size<=y/\y≠it:=by
   intro y hy;rcases k4 y hy with h5|h5
   ·exact gy y h5
   ·have:=F1.1;exact⟨by omega,by omega⟩
  refine⟨⟨ds++ [(a,v)],by simp,?_,hp4,?_,F3.fresh f4 (λy hy=>(gy y hy).1)⟩,?_⟩
  ·rw[bm,bm];exact o4
  ·have hmb:m<h.size:=H.map.lt;exact(I1.frame f3 id id).frame f4 (λhy=>(gy it hy).2 rfl) (λhy=>by have:=(gy m hy).1;omega)
  ·have:=I1.le;rw[aF,aN,fj] at this;show xs.length - (ds.length+1)<xs.length - ds.length;omega
theorem look (H:Cm h t X s m xs a1 S1 a2 S2 fX) {x:CV} (hx:x∈xs):mC Tryz.prog T.cY (.map (some m)) (.I (x.num:Int)) false h (.P x.b 0):=by
 have:=V8 zN H.map (x.num:Int);have e:DG (xs.map CV.pair) (x.num:Int)=some (.P x.b 0):=(MP H.map.nodup).2 (bn.2 ⟨x,hx,rfl⟩);rw[e] at this;exact this
theorem agf (H:Cm h t X s m xs a1 S1 a2 S2 fX) {n:Int} (hn: ∀x∈xs,(x.num:Int)≠n):mC Tryz.prog T.cY (.map (some m)) (.I n) false h (.pointer none):=by
 have:=V8 zN H.map n;have e:DG (xs.map CV.pair) n=none:=MO.2 (λe he=>by obtain⟨x,hx,rfl⟩:=bn.1 he;exact hn x hx);rw[e] at this;exact this
structure Env (h:aj) (t:Nat) (m:Nat) (xs:List CV) (c0 c1:Nat) (x:Ev):Prop where
 b0:h[c0]? =some (.cells #[.pointer (some ⟨t,0,none⟩)] T.mw (0,0))
 b1:Ev.at h c1 x
 cm: ∃X s a1 S1 a2 S2 fX,Cm h t X s m xs a1 S1 a2 S2 fX
variable {c0 c1 : Nat} {x : Ev}
theorem adu (V:Env h t m xs c0 c1 x) {y:CV} (hy:y∈xs) (hk:R (.bool (!decide (y.e=x))) h):Cl F.fP #[.I (y.num:Int),.P c0 0,.P c1 0] h R:=by
 obtain⟨X,s,a1,S1,a2,S2,fX,H⟩:=V.cm;have ca:=H.Sj y hy;refine fP.walk ⟨_,af V.b0 rfl,aB.2 ⟨_,af H.dE rfl,_,look H hy,aB.2 ⟨_,af ca rfl,_,af ca rfl,_,af ca rfl,_,af ca rfl,_,af ca rfl,?_⟩⟩⟩;exact az.ld V.b1 ⟨_,ID (x:=y.e) (y:=x) rfl rfl,hk⟩
def tJ (xs:List CV) (x:Ev) (n:Int):Bool:=xs.any (λy=>decide ((y.num:Int)=n) && decide (y.e=x))
theorem GS (so:(tW xs).Pairwise (· < ·)) {y:CV} (hy:y∈xs):tJ xs x (y.num:Int)=decide (y.e=x):=by
 unfold tJ;by_cases e:y.e=x
 ·rw[ay e,List.any_eq_true];exact⟨y,hy,by simp[e]⟩
 ·rw[decide_eq_false e,List.any_eq_false];intro z hz;simp only[aW,bf,not_and];intro hn;have:z=y:=by
   obtain⟨i,hi⟩:=bG hz;obtain⟨j,hj⟩:=bG hy;have Rc:(tW xs).Nodup:=so.imp (λh=>by omega);have MK:=(aG.1 hi).1;have:=(fU (l:=tW xs) (i:=i) (j:=j) (by simpa[tW] using MK) Rc).1 (by unfold tW;rw[aO,aO,hi,hj];simp[hn]);subst this;rw[hi] at hj;exact bz hj
  rw[this];exact e
theorem akk {ns:List Int} (V:Env h t m xs c0 c1 x) (o:iR h p n c 1 (ns.map jJ)) (hn:n=ns.length) (hb:n<=60000) (hs: ∀k∈ns,∃y∈xs,k=(y.num:Int))
  (k1: ∀i,i<n->(∀j,j<i->∀k,ns[j]? =some k->tJ xs x k=true)->(∀k,ns[i]? =some k->tJ xs x k=false)->R (.I (i:Int)) h) (k2:(∀k∈ns,tJ xs x k=true)->R (.I (-1)) h):
  Cl F.dN #[.slice p n c,.func (.func F.fP) #[] #[.P c0 0,.P c1 0]] h R:=by
 subst hn;have so:(tW xs).Pairwise (· < ·):=by obtain⟨X,s,a1,S1,a2,S2,fX,H⟩:=V.cm;exact Je H
 refine dN.of.walk ?_;refine⟨λu g=>g=h/\∃i:Nat,u=(i:Int)/\i<=ns.length/\∀j,j<i->∀k,ns[j]? =some k->tJ xs x k=true,λu _=>ns.length - u.toNat,⟨rfl,0,rfl,cj _,λj hj=>by omega⟩,?_⟩;rintro _ g ⟨rfl,i,rfl,hi,kz⟩;by_cases jc:i<ns.length
 ·rw[jy];have hk:ns[i]? =some ns[i]:=au jc;generalize ns[i]=k at hk;obtain⟨y,hy,rfl⟩:=hs k (bt hk);obtain⟨ab,ao,rfl⟩:=o.addr (by omega);have cc:=o.cell (j:=i) (v:=jJ (y.num:Int)) (by rw[aO,hk];rfl);simp only[aL,cN];refine⟨⟨by omega,by omega⟩,aB.2 ⟨_,cc,adu V hy ⟨_,rfl,?_⟩⟩⟩;have kn:=GS (x:=x) so hy;by_cases e:y.e=x
  ·rw[ay e,dL,bK (by omega) (by omega)];rw[ay e] at kn;refine⟨⟨rfl,i+1,by omega,by omega,λj hj k hk2=> ?_⟩,by show ns.length - Int.toNat ((i:Int)+1)<ns.length - i;omega⟩;by_cases ej:j=i
   ·subst ej;rw[hk] at hk2;cases hk2;exact kn
   ·exact kz j (by omega) k hk2
  ·rw[decide_eq_false e,jy];rw[decide_eq_false e] at kn;exact k1 i jc kz (λk hk2=>by rw[hk] at hk2;cases hk2;exact kn)
 ·rw[ai (by simp;omega)];exact k2 (λk hk=>by
   obtain⟨j,hj⟩:=bG hk;exact kz j (by have:=(aG.1 hj).1;omega) k hj)
theorem UN {ns:List Int} (V:Env h t m xs c0 c1 x) (o:iR h p n c 1 (ns.map jJ)) (hn:n=ns.length) (hb:n<=60000) (hs: ∀k∈ns,∃y∈xs,k=(y.num:Int))
  (hV: ∀g,Fr (aQ p) h g->Env g t m xs c0 c1 x)
  (hk: ∀h' c',iR h' p (ns.filter (tJ xs x)).length c' 1 ((ns.filter (tJ xs x)).map jJ)->Fr (aQ p) h h'->R (.slice p (ns.filter (tJ xs x)).length c') h'):
  Cl F.ir #[.slice p n c,.func (.func F.fP) #[] #[.P c0 0,.P c1 0]] h R:=by
 subst hn;have so:(tW xs).Pairwise (· < ·):=by obtain⟨X,s,a1,S1,a2,S2,fX,H⟩:=V.cm;exact Je H
 have one: ∀v∈((.I 0:Value)).cells.toList,jg v=true:=λv hv=>by
  have:v=.I 0:=by simpa[Value.cells] using hv
  subst this;rfl
 refine ir.of.walk (akk V o rfl hb hs (λi hi kz Gv=>⟨_,rfl,?_⟩) (λkz=>⟨_,rfl,?_⟩))
 ·rw[ai (by intro h;have h:=eq_of_beq h;omega),bK (by omega) (by omega)];have Sk:(ns.take i).filter (tJ xs x)=ns.take i:=by
   rw[cH];intro k hk2;obtain⟨j,hj⟩:=bG hk2;rw[dq] at hj;split at hj
   ·rename_i BD;exact kz j BD k hj
   ·cases hj
  have air:(ns.take (i+1)).filter (tJ xs x)=ns.take i:=by
   have hk:ns[i]? =some ns[i]:=au hi;rw[bY,hk,iE,Sk];simp[Gv _ hk]
  refine⟨λu w g=> ∃(i j:Nat) (vs:List Int),u=(i:Int)/\w=(j:Int)/\i<=j/\j<=ns.length/\vs.length=ns.length/\iR g p ns.length c 1 (vs.map jJ)/\vs.take i=(ns.take j).filter (tJ xs x)/\(∀q,j<=q->vs[q]? =ns[q]?)/\Fr (aQ p) h g,λ_ w _=>ns.length - w.toNat,
   ⟨i,i+1,ns,rfl,by omega,by omega,by omega,rfl,o,air.symm,λ_ _=>rfl,Fr.refl _ _⟩,?_⟩
  clear Sk air kz Gv;rintro _ _ g ⟨i,j,vs,rfl,rfl,hij,hj,hl,ov,hta,hdr,fg⟩;have MK:((ns.take j).filter (tJ xs x)).length=i:=by rw[<-hta,bQ];omega
  by_cases jc:j<ns.length
  ·rw[jy];refine aK.of λJ hJ=> ?_
   have hnj:ns[j]? =some ns[j]:=au jc;generalize ns[j]=k at hnj;obtain⟨y,hy,rfl⟩:=hs k (bt hnj);obtain⟨ab,ao,rfl⟩:=ov.addr (by omega);have hkv:vs[j]? =some (y.num:Int):=by rw[hdr j (bh _)];exact hnj
   have cc:=ov.cell (j:=j) (v:=jJ (y.num:Int)) (by rw[aO,hkv];rfl);simp only[aL,cN];have kn:=GS (x:=x) so hy;have tk:(ns.take (j+1)).filter (tJ xs x)=(ns.take j).filter (tJ xs x)++(if y.e=x then [(y.num:Int)] else []):=by
    rw[bY,hnj,iE];congr 1
    show [(y.num:Int)].filter (tJ xs x)=_;rw[cC,kn];by_cases e:y.e=x<;>simp[e]
   refine⟨⟨by omega,by omega⟩,aB.2 ⟨_,cc,adu (hV g fg) hy ⟨_,rfl,aK.of λJ1 pA=> ?_⟩⟩⟩;by_cases e:y.e=x
   ·rw[ay e,jy];rw[ag e] at tk;refine⟨⟨by omega,by omega⟩,aB.2 (ov.store (by rw[aN];omega) λg2 o2 s2 q2=> ?_)⟩;subst pA;subst hJ;have e2:(vs.map jJ).set i (.I (y.num:Int))=(vs.set i (y.num:Int)).map jJ:=by rw[List.map_set]
    rw[e2] at o2;dsimp only;rw[bK (n:=(i:Int)+1) (by omega) (by omega),bK (n:=(j:Int)+1) (by omega) (by omega)];refine⟨⟨i+1,j+1,_,by omega,by omega,by omega,by omega,by rw[eU];exact hl,o2,?_,λq hq=> ?_,fg.tt ⟨by omega,λz _ hn=>q2 z hn⟩⟩,by show ns.length - Int.toNat ((j:Int)+1)<ns.length - j;omega⟩
    ·rw[tk,<-hta,bY,List.getElem?_set_self (by omega)];congr 1
     apply im
     intro q;rw[dq,dq];split
     ·rw[List.getElem?_set_ne (by omega)]
     ·rfl
    ·rw[List.getElem?_set_ne (by omega)];exact hdr q (by omega)
   ·rw[decide_eq_false e,dL];rw[ai e,List.append_nil] at tk;subst pA;subst hJ;dsimp only;rw[bK (n:=(j:Int)+1) (by omega) (by omega)];exact⟨⟨i,j+1,vs,rfl,by omega,by omega,by omega,hl,ov,by rw[tk,hta],λq hq=>hdr q (by omega),fg⟩,by show ns.length - Int.toNat ((j:Int)+1)<ns.length - j;omega⟩
  ·rw[ai (by simp;omega)];obtain rfl:j=ns.length:=by omega
   rw[iF] at hta MK;simp only[aL,Nat.sub_zero];refine⟨⟨by omega,by omega⟩,MJ tI one ov (by omega) λg2 o2 f2=>⟨rfl,⟨by omega,by have:=ov.le;omega⟩,?_⟩⟩;rw[sw];rw[cN,<-List.map_take,hta] at o2;have:=hk g2 c (by rw[MK];exact o2) (fg.tt f2);rw[MK] at this;exact this
 ·rw[ag (by rfl)];have e:ns.filter (tJ xs x)=ns:=by rw[cH];exact kz
  have:=hk h c (by rw[e];exact o) (Fr.refl _ _);rw[e] at this;exact this
theorem aaN (so:(tW xs).Pairwise (· < ·)):(tW xs).filter (tJ xs x)=tW (xs.filter (λy=>decide (y.e=x))):=by
 unfold tW;rw[eK];congr 1
 exact fF (λy hy=>GS so hy)
theorem Ns (H:Cm h t X s m xs a1 S1 a2 S2 fX) (x:Ev) (hl:xs.length<=60000) (hk: ∀h' p' c',iR h' p' (xs.filter (λy=>decide (y.e=x))).length c' 1 ((tW (xs.filter (λy=>decide (y.e=x)))).map jJ)->(∀y,aQ p' y->h.size<=y)->Fr No h h'->R (.slice p' (xs.filter (λy=>decide (y.e=x))).length c') h'):
  Cl F.jL #[.P t 0,uG x] h R:=by
 refine jL.walk (cX ?_);have f1:Fr No h (h.push (.cells #[.P t 0] T.mw)):=Fr.push _ _;have b1:(h.push (.cells #[.P t 0] T.mw))[h.size]? =some (.cells #[.P t 0] T.mw (0,0)):=cz;have z1:(h.push (.cells #[.P t 0] T.mw)).size=h.size+1:=fO _;generalize h.push (.cells #[.P t 0] T.mw)=h1 at f1 b1 z1⊢;refine az.box λc1 h2 e2 fI f2=>⟨_,af (f2.get b1 id) rfl,?_⟩
 have z2:=aI fI;refine K0 (H.on (f1.tt f2)) hl λh3 p3 l3 o3 g3 f3=>⟨_,_,_,rfl,?_⟩
 have F3:=f1.tt (f2.tt f3);have H3:=H.on F3;have zf:=f2.1;have V3:Env h3 t m xs h.size c1 x:=⟨(f2.tt f3).get b1 id,f3.get fI id,X,s,a1,S1,a2,S2,fX,H3⟩;have hV: ∀g,Fr (aQ p3) h3 g->Env g t m xs h.size c1 x:=λg fg=>
  ⟨fg.get V3.b0 (λhy=>by have:=g3 _ hy;omega),fg.get V3.b1 (λhy=>by have:=g3 _ hy;omega),X,s,a1,S1,a2,S2,fX,H3.frame fg (λy hy nQ=>by
   have h1:=g3 y nQ;have h2:y<h.size:=(Ct.lt (s:=s) ⟨m,xs,a1,S1,a2,S2,fX,H⟩ y hy);omega)⟩
 have nl:(tW xs).length=xs.length:=by unfold tW;rw[aN]
 refine UN V3 o3 nl.symm hl (λk hk2=>by
  obtain⟨y,hy,rfl⟩:=bn.1 hk2;exact⟨y,hy,rfl⟩) hV λh4 c4 o4 f4=>⟨_,_,_,rfl,?_⟩
 have en:=aaN (x:=x) (Je H);have el:((tW xs).filter (tJ xs x)).length=(xs.filter (λy=>decide (y.e=x))).length:=by rw[en];unfold tW;rw[aN]
 rw[el] at o4⊢;rw[en] at o4;exact hk h4 p3 c4 o4 (λy hy=>by have:=g3 y hy;omega) (F3.fresh f4 (λy hy=>by have:=g3 y hy;omega))
end hU
end
section
open Go.rN
namespace hU
open qI cp vf
variable {h h':aj} {R:iI} {t:Nat} {X:Ft} {s s':CF} {m a1 a2:Nat} {xs:List CV} {S1 S2:Nat→Prop} {fX:Nat→Option Nat} {n c:Nat}
def K1 (L:List Cp) (n:Int):List Cp:=L.filter (λx=> !decide ((x.num:Int)=n))
def zQ (L:List Cp) (n:Nat) (ses:Int) (dl:Nat):List Cp:=L.map (λx=>if x.num=n then { x with ses:=ses,dl:=dl } else x)
def PH (s:CF) (n:Int):CF:= { s with L:=K1 s.L n,E1:=iH s.E1 n,E2:=iH s.E2 n }
def CY (s:CF) (n:Nat):CF:= { s with L:=zQ s.L n 0 0,E2:=iH s.E2 (n:Int) }
theorem zJ (L:List E) (k:Int):(iH L k).length<=L.length:=cI _ _
structure Small (s:CF):Prop where
 n:s.next<=50000
 l:s.L.length<=50000
 e1:s.E1.length<=50000
 e2:s.E2.length<=50000
theorem Cm.len (H:Cm h t X s m xs a1 S1 a2 S2 fX):xs.length=s.L.length:=by rw[<-H.abs,aN]
theorem pD (hk: ∀h' t X,Ct h' t X ⟨[],1,0,0,0, [], []⟩->UpF h X h'->R (.P t 0) h'):Cl F.wQ #[] h R:=by
 classical
 refine wQ.walk (cX ?_);have f1:Fr No h (h.push (.map #[] 0)):=Fr.push _ _;have M1:=pX.push (α:=Int) h jJ;have z1:(h.push (.map #[] 0)).size=h.size+1:=fO _;generalize h.push (.map #[] 0)=h1 at f1 M1 z1⊢;refine cp.pD λa1 S1 h2 A1 g1 f2=>⟨_,rfl,cp.pD λa2 S2 h3 A2 g2 f3=>⟨_,rfl,cX ?_⟩⟩
 have f4:Fr No h3 (h3.push (.cells #[.map (some h.size),.I 1,.I 0,.I 0,.I 0,.P a1 0,.P a2 0] T.lB)):=Fr.push _ _;have z2:=f2.1;have z3:=f3.1;have z4:(h3.push (.cells #[.map (some h.size),.I 1,.I 0,.I 0,.I 0,.P a1 0,.P a2 0] T.lB)).size=h3.size+1:=fO _;have b4:(h3.push (.cells #[.map (some h.size),.I 1,.I 0,.I 0,.I 0,.P a1 0,.P a2 0] T.lB))[h3.size]? =some (.cells #[.map (some h.size),.I 1,.I 0,.I 0,.I 0,.P a1 0,.P a2 0] T.lB (0,0)):=cz;generalize h3.push (.cells #[.map (some h.size),.I 1,.I 0,.I 0,.I 0,.P a1 0,.P a2 0] T.lB)=h4 at f4 z4 b4⊢;have l1: ∀c,S1 c->h1.size<=c/\c<h2.size:=λc hc=>⟨g1 c hc,A1.lt hc⟩
 have l2: ∀c,S2 c->h2.size<=c/\c<h3.size:=λc hc=>⟨g2 c hc,A2.lt hc⟩
 let fX:Nat->Option Nat:=λc=>if c=h3.size then some 0 else if c=h.size then some 1 else if S1 c then some 2 else if S2 c then some 3 else none
 have akl: ∀c,S1 c->fX c=some 2:=λc hc=>by
  have:=l1 c hc;show(if c=h3.size then some 0 else if c=h.size then some 1 else if S1 c then some 2 else if S2 c then some 3 else none)=_;rw[dL,dL,ag hc]
 have anN: ∀c,S2 c->fX c=some 3:=λc hc=>by
  have h5:=l2 c hc;show(if c=h3.size then some 0 else if c=h.size then some 1 else if S1 c then some 2 else if S2 c then some 3 else none)=_;rw[dL,dL,ai (λh6=>by have:=l1 c h6;omega),ag hc]
 have anO: ∀c,fX c≠none->h.size<=c/\c<h4.size:=λc hc=>by
  by_cases c1:c=h3.size
  ·omega
  by_cases c2:c=h.size
  ·omega
  by_cases c3:S1 c
  ·have:=l1 c c3;omega
  by_cases c4:S2 c
  ·have:=l2 c c4;omega
  exact absurd (show(if c=h3.size then some 0 else if c=h.size then some 1 else if S1 c then some 2 else if S2 c then some 3 else none)=none by rw[ai c1,ai c2,ai c3,ai c4]) hc
 refine hk h4 h3.size ⟨λc=>fX c≠none,λ_=>False⟩ ⟨h.size, [],a1,S1,a2,S2,fX,⟨b4,(M1.frame (f2.tt f3) id).frame f4 id,(λx hx=>by cases hx),rfl,(λx hx=>by cases hx),A1.frame (f3.tt f4) (λ_ _=>id),A2.frame f4 (λ_ _=>id),ag rfl,?_,akl,anN,(λx hx=>by cases hx),λc=>fY,λc hc=>hc.elim,λc hc=>(anO c hc).2,.nil⟩⟩ ⟨f1.tt (f2.tt (f3.tt f4)),λc hc=> ?_⟩
 ·show(if h.size=h3.size then some 0 else if h.size=h.size then some 1 else if S1 h.size then some 2 else if S2 h.size then some 3 else none)=some 1;rw[dL,ag rfl]
 ·rcases hc with hc|hc
  ·exact(anO c hc).1
  ·exact hc.elim
theorem ais (H:Cm h t X s m xs a1 S1 a2 S2 fX) (hn:s.E2.length<1000000) (k:Int) (hk: ∀h' X' kr (e:Int),Cm h' t X' { s with E2:=iH s.E2 k } m xs a1 S1 a2 S2 kr->bM X h X' h'->R (.I e) h'):
  Cl F.gn #[.P a2 0,.I k] h R:=by
 refine cp.AJ H.TQ hn k (λ_ h1 A1 f1=> ?_) (λGv=> ?_)
 ·obtain⟨X',kr,H',st,_⟩:=H.U6 (s':= { s with E2:=iH s.E2 k }) A1 (λc hc=> .inl hc) f1 rfl rfl rfl ⟨rfl,rfl,rfl,rfl⟩;exact hk h1 X' kr 0 H' st
 ·have e:({ s with E2:=iH s.E2 k } :CF)=s:=by rw[sf Gv]
  exact hk h X fX 4 (by rw[e];exact H) (bM.refl _ _)
theorem anP (H:Cm h t X s m xs a1 S1 a2 S2 fX) (hn:s.E1.length<1000000) (k:Int) (hk: ∀h' X' kr (e:Int),Cm h' t X' { s with E1:=iH s.E1 k } m xs a1 S1 a2 S2 kr->bM X h X' h'->R (.I e) h'):
  Cl F.gn #[.P a1 0,.I k] h R:=by
 refine cp.AJ H.U5 hn k (λ_ h1 A1 f1=> ?_) (λGv=> ?_)
 ·obtain⟨X',kr,H',st,_⟩:=H.U7 (s':= { s with E1:=iH s.E1 k }) A1 (λc hc=> .inl hc) f1 rfl rfl rfl ⟨rfl,rfl,rfl,rfl⟩;exact hk h1 X' kr 0 H' st
 ·have e:({ s with E1:=iH s.E1 k } :CF)=s:=by rw[sf Gv]
  exact hk h X fX 4 (by rw[e];exact H) (bM.refl _ _)
theorem zO (H:Ct h t X s) (sm:Small s) (k:Int) (hk: ∀h' X',Ct h' t X' (PH s k)->bM X h X' h'->R (.tuple #[]) h'):
  Cl F.iU #[.P t 0,.I k] h R:=by
 obtain⟨m,xs,a1,S1,a2,S2,fX,H⟩:=H;have:=sm.e1;have:=sm.e2;refine iU.walk ⟨_,af H.dE rfl,ais H (by omega) k λh1 X1 akl _ H1 st1=>⟨_,rfl,_,af H1.dE rfl,anP H1 (by show s.E1.length<_;omega) k λh2 X2 anN _ H2 AF=>⟨_,rfl,_,af H2.dE rfl,Rr zN H2.map (k:=k) λh3 M3 s3 o3=>⟨rfl,?_⟩⟩⟩⟩;obtain⟨H3,Gj⟩:=H2.del (s':=PH s k) M3 s3 o3 rfl rfl rfl ⟨rfl,rfl,rfl,rfl⟩;exact hk h3 X2 ⟨_,_,_,_,_,_,_,H3⟩ (st1.trans (AF.trans Gj))
theorem EG (H:Cm h t X s m xs a1 S1 a2 S2 fX) {z:Cp} (hz:z∈s.L): ∃x∈xs,x.abs=z:=by
 rw[<-H.abs] at hz;obtain⟨x,hx,e⟩:=bn.1 hz;exact⟨x,hx,e⟩
theorem Cm.Ny {x:CV} {ses:Int} {dl:Nat} {K:aj->Prop} (H:Cm h t X s m xs a1 S1 a2 S2 fX) (hx:x∈xs)
  (hk: ∀h',Cm h' t X { s with L:=zQ s.L x.num ses dl } m (xs.map (λz=>if z.num=x.num then { x with ses:=ses,dl:=dl } else z)) a1 S1 a2 S2 fX->bM X h X h'->K h'):
  aH h (((AA x.b 0):Addr).add 8) (.I ses) λh1=>aH h1 (((AA x.b 0):Addr).add 9) (.U (dl:Int)) K:=by
 rw[kB,kB];have hb:=H.Sj x hx;refine bL hb (by simp) λh1 c1 s1 o1=>bL c1 (by simp) λh2 c2 s2 o2=> ?_
 have hy:({ x with ses:=ses,dl:=dl } :CV).at h2 x.b:=c2;obtain⟨H2,st⟩:=H.change (s':= { s with L:=zQ s.L x.num ses dl }) (y:= { x with ses:=ses,dl:=dl }) hx rfl rfl rfl hy (by omega) (λc hc=>by rw[o2 c hc,o1 c hc]) (by
  show zQ s.L x.num ses dl=_;unfold zQ;refine fV λz hz=> ?_
  by_cases e:z.num=x.num
  ·rw[ag e,ag e];obtain⟨u,hu,rfl⟩:=EG H hz;have e:u.num=x.num:=e;have:u=x:=by
    obtain⟨i,hi⟩:=bG hu;obtain⟨j,hj⟩:=bG hx;have Rc:(xs.map CV.num).Nodup:=H.so.imp (λh=>Nat.ne_of_lt h);have MK:=(aG.1 hi).1;have:=(fU (l:=xs.map CV.num) (i:=i) (j:=j) (by simpa using MK) Rc).1 (by rw[aO,aO,hi,hj];simp[e]);subst this;rw[hi] at hj;exact bz hj
   rw[this];rfl
  ·rw[ai e,ai e]) rfl rfl ⟨rfl,rfl,rfl,rfl⟩
 exact hk h2 H2 st
theorem Xs (H:Ct h t X s) (sm:Small s) {z:Cp} (hz:z∈s.L) (hk: ∀h' X',Ct h' t X' (CY s z.num)->bM X h X' h'->R (.tuple #[]) h'):
  Cl F.kF #[.P t 0,.I (z.num:Int)] h R:=by
 obtain⟨m,xs,a1,S1,a2,S2,fX,H⟩:=H;obtain⟨x,hx,rfl⟩:=EG H hz;have:=sm.e2;refine kF.walk ⟨_,af H.dE rfl,ais H (by omega) _ λh1 X1 akl _ H1 st1=>⟨_,rfl,_,af H1.dE rfl,_,look H1 hx,_,af H1.dE rfl,_,look H1 hx,?_⟩⟩;refine aB.2 (H1.Ny (ses:=0) (dl:=0) hx λh2 H2 AF=>hk h2 X1 ⟨_,_,_,_,_,_,_,H2⟩ (st1.trans AF))
def GU (L:List Cp) (n:Int):Option Cp:=L.find? (λx=>decide ((x.num:Int)=n))
theorem GV {L:List Cp} {n:Int} {z:Cp} (h:GU L n=some z):z∈L/\(z.num:Int)=n:=⟨List.mem_of_find?_eq_some h,by simpa using List.find?_some h⟩
theorem aaO {L:List Cp} {n:Int} :GU L n=none↔ ∀z∈L,(z.num:Int)≠n:=by unfold GU;simp
def pU (L:List Cp) (n ses:Int):Int:=match GU L n with|none=>4|some z=>if z.ses=0\/z.ses≠ses then 14 else 0
theorem oQ (H:Ct h t X s) (num ses:Int) (hk: ∀q,R (.tuple #[.pointer q,.I (pU s.L num ses)]) h):
  Cl F.kG #[.P t 0,.I num,.I ses] h R:=by
 obtain⟨m,xs,a1,S1,a2,S2,fX,H⟩:=H;refine kG.walk (ji H ⟨_,rfl,?_⟩);rw[dL];unfold pU at hk;cases hg:GU s.L num with
 |none=>
  rw[hg] at hk;have Gv: ∀x∈xs,(x.num:Int)≠num:=λx hx=>aaO.1 hg x.abs (by rw[<-H.abs];exact bB hx)
  refine⟨_,af H.dE rfl,_,agf H Gv,?_⟩;rw[ag (by rfl)];exact hk none
 |some z=>
  rw[hg] at hk;dsimp only at hk;obtain⟨hz,rfl⟩:=GV hg;obtain⟨x,hx,rfl⟩:=EG H hz;have L:=look H hx;have ca:=H.Sj x hx;refine⟨_,af H.dE rfl,_,L,?_⟩;rw[ai (by simp)];refine aK.of λJ hJ=>⟨_,af H.dE rfl,_,L,aB.2 ⟨_,af ca rfl,?_⟩⟩
  have bad:(x.ses=0\/x.ses≠ses)->J true h:=λhb=>by
   subst hJ;simp only[bA];have:=hk none;have e:(if x.abs.ses=0\/x.abs.ses≠ses then(14:Int) else 0)=14:=ag hb;rwa[e] at this
  by_cases h0:x.ses=0
  ·rw[ag (by simpa using h0)];exact bad (.inl h0)
  ·rw[ai (by simpa using h0)];refine⟨_,af H.dE rfl,_,L,aB.2 ⟨_,af ca rfl,?_⟩⟩;by_cases h1:x.ses=ses
   ·have e:(x.ses !=ses)=false:=by simp[h1]
    rw[e];subst hJ;simp only[aA,aU];refine⟨_,af H.dE rfl,_,L,?_⟩;have e2:(if x.abs.ses=0\/x.abs.ses≠ses then(14:Int) else 0)=0:=ai (λhb=>by
     rcases hb with hb|hb
     ·exact h0 hb
     ·exact hb h1)
    have:=hk (some (AA x.b 0));rwa[e2] at this
   ·have e:(x.ses !=ses)=true:=by simpa using h1
    rw[e];exact bad (.inr h1)
def vX (s:CF) (n ses:Int):CF:=if pU s.L n ses=0 then { PH s n with iQ:=s.iQ+1 } else s
theorem Ct.bump (H:Ct h t X s) {K:aj->Prop} (hs:s.iQ<=100000) (hk: ∀h',Ct h' t X { s with iQ:=s.iQ+1 } ->bM X h X h'->K h'):
  ∃(u:Int),ak h (AA t 2)=some (.I u)/\aH h (AA t 2) (.I (IntKind.wrap .i64 (u+1))) K:=by
 obtain⟨m,xs,a1,S1,a2,S2,fX,H⟩:=H;refine⟨_,af H.dE rfl,bL H.dE (by simp) λh1 c1 s1 o1=> ?_⟩;rw[bK (by omega) (by omega)] at c1;obtain⟨H1,st⟩:=H.field (s':= { s with iQ:=s.iQ+1 }) rfl rfl rfl c1 s1 o1;exact hk h1 ⟨_,_,_,_,_,_,_,H1⟩ st
theorem Ct.anQ (H:Ct h t X s) {K:aj->Prop} (hs:s.over<=100000) (hk: ∀h',Ct h' t X { s with over:=s.over+1 } ->bM X h X h'->K h'):
  ∃(u:Int),ak h (AA t 3)=some (.I u)/\aH h (AA t 3) (.I (IntKind.wrap .i64 (u+1))) K:=by
 obtain⟨m,xs,a1,S1,a2,S2,fX,H⟩:=H;refine⟨_,af H.dE rfl,bL H.dE (by simp) λh1 c1 s1 o1=> ?_⟩;rw[bK (by omega) (by omega)] at c1;obtain⟨H1,st⟩:=H.field (s':= { s with over:=s.over+1 }) rfl rfl rfl c1 s1 o1;exact hk h1 ⟨_,_,_,_,_,_,_,H1⟩ st
theorem Ct.anR (H:Ct h t X s) {K:aj->Prop} (hs:s.gone<=100000) (hk: ∀h',Ct h' t X { s with gone:=s.gone+1 } ->bM X h X h'->K h'):
  ∃(u:Int),ak h (AA t 4)=some (.I u)/\aH h (AA t 4) (.I (IntKind.wrap .i64 (u+1))) K:=by
 obtain⟨m,xs,a1,S1,a2,S2,fX,H⟩:=H;refine⟨_,af H.dE rfl,bL H.dE (by simp) λh1 c1 s1 o1=> ?_⟩;rw[bK (by omega) (by omega)] at c1;obtain⟨H1,st⟩:=H.field (s':= { s with gone:=s.gone+1 }) rfl rfl rfl c1 s1 o1;exact hk h1 ⟨_,_,_,_,_,_,_,H1⟩ st
theorem U9 (H:Ct h t X s) (sm:Small s) (ha:s.iQ<=100000) (num ses:Int) (hk: ∀h' X',Ct h' t X' (vX s num ses)->bM X h X' h'->R (.I (pU s.L num ses)) h'):
  Cl F.nW #[.P t 0,.I num,.I ses] h R:=by
 refine nW.walk (oQ H num ses λq=>⟨_,_,rfl,aK.of λJ hJ=> ?_⟩);by_cases e:pU s.L num ses=0
 ·rw[ag (by simpa using e)];refine zO H sm num λh1 X1 H1 st1=>⟨rfl,H1.bump ha λh2 H2 AF=> ?_⟩
  subst hJ;exact hk h2 X1 (by unfold vX;rw[ag e];exact H2) (st1.trans AF)
 ·rw[ai (by simpa using e)];subst hJ;exact hk h X (by unfold vX;rw[ai e];exact H) (bM.refl _ _)
def IS (s:CF) (n ses:Int):CF:=if pU s.L n ses=0 then CY s n.toNat else s
theorem Va (H:Ct h t X s) (sm:Small s) (num ses:Int) (hk: ∀h' X',Ct h' t X' (IS s num ses)->bM X h X' h'->R (.I (pU s.L num ses)) h'):
  Cl F.kf #[.P t 0,.I num,.I ses] h R:=by
 refine kf.walk (oQ H num ses λq=>⟨_,_,rfl,aK.of λJ hJ=> ?_⟩);by_cases e:pU s.L num ses=0
 ·rw[ag (by simpa using e)];obtain⟨z,hz⟩: ∃z,GU s.L num=some z:=by
   cases hg:GU s.L num with
   |none=>unfold pU at e;rw[hg] at e;cases e
   |some z=>exact⟨z,rfl⟩
  obtain⟨hzm,rfl⟩:=GV hz;refine Xs H sm hzm λh1 X1 H1 st1=>⟨rfl,?_⟩
  subst hJ;exact hk h1 X1 (by unfold IS;rw[ag e,aL];exact H1) st1
 ·rw[ai (by simpa using e)];subst hJ;exact hk h X (by unfold IS;rw[ai e];exact H) (bM.refl _ _)
end hU
end
section
namespace gJ
open lH (It)
open qI (Ev)
variable {h h':aj} {s j:Nat} {X:Ft}
structure SS where
 A:List gU.gU
 G:List j4.Rg
 C:hU.CF
 B:lH.BS
 Q:List It
 e:Ev
 tm:Nat
 sq:Nat
 now:Nat
 rf:Nat
structure GW where
 t:Nat
 r:Nat
 c:Nat
 o:Nat
 p:Nat
 k:Nat
abbrev Mk (h:aj) (k:Nat) (e:Ev) (tm sq:Nat):Prop:=h[k]? =some (.cells #[.bool e.vD,.int .u64 e.node,.int .u64 e.l6,.string e.host,.string e.sM,.int .u64 (tm:Int),.int .u64 (sq:Int),.bool true] T.HL (0,0))
abbrev Bk (h:aj) (s:Nat) (I:GW) (now rf:Nat):Prop:=h[s]? =some (.cells #[pt I.t,pt I.r,pt I.c,pt I.o,pt I.p,pt I.k,.int .u64 (now:Int),.int .i64 (rf:Int)] T.sI (0,0))
def part (σ:SS) (I:GW) (s:Nat) (i:Nat) (h:aj) (X:Ft):Prop:=match i with
 |0=>gU.Has h I.t X σ.A
 |1=>j4.Tb h I.r X σ.G
 |2=>hU.Ct h I.c X σ.C
 |3=>lH.Nt h I.o X σ.B
 |4=> ∃m,Pu h I.p m σ.Q/\only X λy=>y=I.p\/y=m
 |5=>Mk h I.k σ.e σ.tm σ.sq/\only X λy=>y=I.k
 |6=>Bk h s I σ.now σ.rf/\only X λy=>y=s
 |_=> ∀y,¬In X y
theorem part.lt {σ:SS} {I:GW} {i:Nat} (H:part σ I s i h X) (y:Nat) (hy:In X y):y<h.size:=by
 rcases i with _|_|_|_|_|_|_|i
 ·exact gU.Has.lt H y hy
 ·exact j4.Tb.lt H y hy
 ·exact hU.Ct.lt H y hy
 ·exact lH.Nt.lt H y hy
 ·obtain⟨m,P,o⟩:=H;rcases hy with hy|hy
  ·rcases(o y).1.1 hy with rfl|rfl
   ·exact P.lt.1
   ·exact P.lt.2
  ·exact absurd hy (o y).2
 ·obtain⟨P,o⟩:=H;rcases hy with hy|hy
  ·rw[(o y).1.1 hy];exact aI P
  ·exact absurd hy (o y).2
 ·obtain⟨P,o⟩:=H;rcases hy with hy|hy
  ·rw[(o y).1.1 hy];exact aI P
  ·exact absurd hy (o y).2
 ·exact absurd hy (H y)
theorem part.frame {σ:SS} {I:GW} {i:Nat} {Q:Nat->Prop} (H:part σ I s i h X) (f:Fr Q h h') (hq: ∀y,In X y->¬Q y):part σ I s i h' X:=by
 rcases i with _|_|_|_|_|_|_|i
 ·exact gU.Has.frame H f hq
 ·exact j4.Tb.frame H f hq
 ·exact hU.Ct.frame H f hq
 ·exact lH.Nt.frame H f hq
 ·obtain⟨m,P,o⟩:=H;exact⟨m,P.frame f (hq _ (.inl ((o _).1.2 (.inl rfl)))) (hq _ (.inl ((o _).1.2 (.inr rfl)))),o⟩
 ·obtain⟨P,o⟩:=H;exact⟨f.get P (hq _ (.inl ((o _).1.2 rfl))),o⟩
 ·obtain⟨P,o⟩:=H;exact⟨f.get P (hq _ (.inl ((o _).1.2 rfl))),o⟩
 ·exact H
theorem part.GK {σ:SS} {I:GW} {i:Nat} (H:part σ I s i h X) (y:Nat) (hm:X.M y) (hd:X.D y):False:=by
 rcases i with _|_|_|_|_|_|_|i
 ·exact gU.Has.GK H y hm hd
 ·obtain⟨m,H⟩:=H;exact H.d y hd
 ·obtain⟨m,xs,a1,S1,a2,S2,fX,H⟩:=H;exact(H.mm y).1 hm (H.dd y hd).1
 ·obtain⟨L,⟨lp,lc,xs,a,S,H⟩,_⟩:=H;exact H.GK y hm hd
 ·obtain⟨m,P,o⟩:=H;exact(o y).2 hd
 ·exact(H.2 y).2 hd
 ·exact(H.2 y).2 hd
 ·exact H y (.inl hm)
theorem part.st (σ:SS) (I:GW) (s:Nat):KI (part σ I s):=⟨part.lt,part.frame,part.GK⟩
def Pt (h:aj) (s:Nat) (X:Ft) (I:GW) (σ:SS):Prop:=UK (part σ I s) h X
variable {I : GW} {σ : SS}
theorem Pt.lt (H:Pt h s X I σ) (y:Nat) (hy:X.M y\/X.D y):y<h.size:=UK.lt (part.st _ _ _) H y hy
theorem Pt.GK (H:Pt h s X I σ) (y:Nat) (a:X.M y) (b:X.D y):False:=UK.GK (part.st _ _ _) H y a b
theorem Pt.frame {Q:Nat->Prop} (H:Pt h s X I σ) (f:Fr Q h h') (hq: ∀y,X.M y\/X.D y->¬Q y):Pt h' s X I σ:=UK.frame (part.st _ _ _) H f hq
theorem Pt.on (H:Pt h s X I σ) (f:Fr No h h'):Pt h' s X I σ:=H.frame f (λ_ _=>id)
theorem Pt.use (H:Pt h s X I σ) (j:Nat): ∃Z,part σ I s j h Z/\(∀y,Z.M y->X.M y)/\(∀y,Z.D y->X.D y)/\∀h' Z' cT,part cT I s j h' Z'->bM Z h Z' h'->(∀i,i≠j->part cT I s i=part σ I s i)->
  ∃X',Pt h' s X' I cT/\bM X h X' h'/\(∀y,Z'.D y->X'.D y)/\∀y,h.size<=y->X'.M y\/X'.D y->Z'.M y\/Z'.D y:=by
 obtain⟨Z,h1,h2,h3,go⟩:=UK.use (part.st σ I s) H j;exact⟨Z,h1,h2,h3,λh' Z' cT=>go h' Z' (part cT I s)⟩
theorem Pt.dE (H:Pt h s X I σ):Bk h s I σ.now σ.rf:=by obtain⟨Y,hp,_⟩:=H;exact(hp 6).1
theorem Pt.box (H:Pt h s X I σ): ∃Z,lH.Nt h I.o Z σ.B:=by obtain⟨Y,hp,_⟩:=H;exact⟨_,hp 3⟩
theorem PI {i:Nat} (a:List gU.gU) (hi:i≠0):part { σ with A:=a } I s i=part σ I s i:=by rcases i with _|_|_|_|_|_|_|i<;>first|rfl|exact absurd rfl hi
theorem Vc {i:Nat} (a:List j4.Rg) (hi:i≠1):part { σ with G:=a } I s i=part σ I s i:=by rcases i with _|_|_|_|_|_|_|i<;>first|rfl|exact absurd rfl hi
theorem GX {i:Nat} (a:hU.CF) (hi:i≠2):part { σ with C:=a } I s i=part σ I s i:=by rcases i with _|_|_|_|_|_|_|i<;>first|rfl|exact absurd rfl hi
theorem Vd {i:Nat} (a:lH.BS) (hi:i≠3):part { σ with B:=a } I s i=part σ I s i:=by rcases i with _|_|_|_|_|_|_|i<;>first|rfl|exact absurd rfl hi
theorem Ve {i:Nat} (a:List It) (hi:i≠4):part { σ with Q:=a } I s i=part σ I s i:=by rcases i with _|_|_|_|_|_|_|i<;>first|rfl|exact absurd rfl hi
theorem akm {i:Nat} (a:Ev) (b c:Nat) (hi:i≠5):part { σ with e:=a,tm:=b,sq:=c } I s i=part σ I s i:=by rcases i with _|_|_|_|_|_|_|i<;>first|rfl|exact absurd rfl hi
theorem akn {i:Nat} (a b:Nat) (hi:i≠6):part { σ with now:=a,rf:=b } I s i=part σ I s i:=by rcases i with _|_|_|_|_|_|_|i<;>first|rfl|exact absurd rfl hi
end gJ
end
section
open Go.rN
namespace hU
open qI cp vf
variable {h h':aj} {R:iI} {t:Nat} {X:Ft} {s s':CF} {m a1 a2:Nat} {xs:List CV} {S1 S2:Nat→Prop} {fX:Nat→Option Nat} {p:bU} {n c:Nat}
def FN (x:Ev) (len:Nat) (cF:Int):Bool:=dj x && (!decide (x=Ev.zero) && (decide (1<=len) && (decide (len<=600) && decide (cF<=1099511627776))))
theorem aaP (x:Ev) {k:Int} (hk: ∀h',Fr No h h'->R (.bool (FN x n k)) h'):Cl F.rh #[uG x,.slice p n c,.U k] h R:=by
 refine rh.walk (az.box λb h1 eb hb f1=>az.ld hb (qI.ic x λh2 f2=>⟨_,rfl,?_⟩));have K:=hk h2 (f1.tt f2);unfold FN at K;by_cases q0:dj x=true
 ·rw[ag q0];rw[q0,fu] at K;refine az.ld (f2.get hb id) ⟨_,ID (y:=.zero) (x:=x) rfl rfl,?_⟩;by_cases q1:x=.zero
  ·rw[ay q1,dL];rw[ay q1] at K;exact K
  ·rw[decide_eq_false q1,jy];rw[decide_eq_false q1,gL,fu] at K;by_cases q2:1<=n
   ·rw[jy];rw[ay q2,fu] at K;by_cases q3:n<=600
    ·rw[jy];rw[ay q3,fu] at K;exact K
    ·rw[ai (by simp;omega)];rw[decide_eq_false q3] at K;exact K
   ·rw[ai (by simp;omega)];rw[decide_eq_false q2] at K;exact K
 ·rw[ai q0];have q0:dj x=false:=by simpa using q0
  rw[q0] at K;exact K
def vp (L:List Cp) (x:Ev):List Cp:=L.filter (λy=>decide (y.e=x))
theorem Vf (H:Cm h t X s m xs a1 S1 a2 S2 fX) (x:Ev):(xs.filter (λy=>decide (y.e=x))).length=(vp s.L x).length:=by
 unfold vp;rw[<-H.abs,eK,aN];rfl
def ou (s:CF) (x:Ev) (d:List UInt8) (cF:Nat):Int:=if FN x d.length (cF:Int)=true then(if(vp s.L x).length≥16 then 15 else 0) else 1
def Ml (s:CF) (x:Ev) (d:List UInt8) (cF:Nat):Int:=if ou s x d cF=0 then(s.next:Int) else 0
def si (s:CF) (x:Ev) (d:List UInt8) (cF:Nat):CF:=if ou s x d cF=0 then { s with L:=s.L++ [⟨s.next,x,d,cF,0,0⟩],next:=s.next+1,E1:=Kw s.E1 (s.next:Int) (cF:Int) } else s
theorem KQ (H:Ct h t X s) (sm:Small s) (jc: ∀z∈s.L,z.num<s.next) (Ue:1<=s.next) (x:Ev) {d:List UInt8} (cF:Nat) {k:Int} (Mi:k=(cF:Int)) (hr:Row h p (bc d)) (hn:n=d.length) (hpm:d≠ []->∀a,p=some a->¬X.M a.block)
  (hk: ∀h' X',Ct h' t X' (si s x d cF)->bM X h X' h'->R (.tuple #[.I (Ml s x d cF),.I (ou s x d cF)]) h'):
  Cl F.nR #[.P t 0,uG x,.slice p n c,.U k] h R:=by
 subst Mi hn;obtain⟨m,xs,a1,S1,a2,S2,fX,H⟩:=H;have sn:=sm.n;have sl:=sm.l;have se:=sm.e1;have xl:=H.len;refine nR.walk (az.box λb h1 eb hb f1=> ?_);have H1:=H.on f1;refine ji H1 ⟨_,rfl,?_⟩;rw[dL];refine az.ld hb (aaP x λh3 f3=>⟨_,rfl,?_⟩);have F3:=f1.tt f3;by_cases q0:FN x d.length (cF:Int)=true
 ·rw[q0,dL];refine az.ld (f3.get hb id) (Ns (H.on F3) x (by omega) λh4 p4 c4 o4 g4 f4=>⟨_,_,_,rfl,?_⟩);have F4:=F3.tt f4;have H4:=H.on F4;have ma:=(f3.tt f4).get hb id;rw[Vf H x];by_cases q1:(vp s.L x).length≥16
  ·rw[jy];have e:ou s x d cF=15:=by unfold ou;rw[ag q0,ag q1]
   have e2:Ml s x d cF=0:=ai (by rw[e];decide);have e3:si s x d cF=s:=ai (by rw[e];decide);rw[e,e2,e3] at hk;exact hk h4 X ⟨_,_,_,_,_,_,_,H4⟩ (bM.nI F4)
  ·rw[ai (by simp;omega)];have e:ou s x d cF=0:=by unfold ou;rw[ag q0,ai q1]
   have e2:Ml s x d cF=(s.next:Int):=ag e;have e3:si s x d cF= { s with L:=s.L++ [⟨s.next,x,d,cF,0,0⟩],next:=s.next+1,E1:=Kw s.E1 (s.next:Int) (cF:Int) } :=ag e;rw[e,e2,e3] at hk;have lb:b<h4.size:=aI ma;have nb: ∀ {c},fX c≠none->c≠b:=fun {c} hc ec=>by have:=H.QP c hc;omega
   refine⟨_,af H4.dE rfl,_,af H4.dE rfl,bL H4.dE (by simp) λh5 c5 s5 o5=> ?_⟩;rw[bK (by omega) (by omega)] at c5;obtain⟨H5,Wc⟩:=H4.field (s':= { s with next:=s.next+1 }) rfl rfl rfl c5 s5 o5;have DJ:Ev.at h5 b x:=by
    unfold Ev.at az.at;rw[o5 b (ie (nb (by rw[H.l0];simp)))];exact ma
   have r5:Row h5 p (bc d):=(hr.frame F4 (λ_ _=>id)).frame Wc.fr (λa ea=>hpm (by rintro rfl;simp[FN] at q0) a ea);refine⟨_,af H5.dE rfl,az.ld DJ (my r5 rfl (by
    unfold FN at q0;simp only[aW,bf] at q0;omega) λp6 c6 h6 o6 f6 g6=>⟨_,_,_,rfl,?_⟩)⟩
   refine⟨az.held (f6.get DJ id),af (f6.get H5.dE id) rfl,aJ.box λb7 h7 e7 hb7 f7=> ?_⟩;have F7:=f6.tt f7;have z5:h5.size<=h6.size:=f6.1;refine⟨az.held (F7.get DJ id),af (F7.get H5.dE id) rfl,JS zN (H5.on F7).map (k:=(s.next:Int)) λh8 M8 s8 o8=> ?_⟩;obtain⟨X8,arQ,H8,st8⟩:=H5.add (s':= { s with L:=s.L++ [⟨s.next,x,d,cF,0,0⟩],next:=s.next+1 }) (y:=⟨s.next,b7,x,⟨p6,c6,d⟩,cF,0,0⟩) F7 hb7 (by show h5.size<=b7;omega) ((o6.pZ).frame f7 (λ_ _=>id)) o6.le (λc hc=>⟨g6 c hc,by have:=o6.gm hc;show c≠b7;omega,by have:=o6.gm hc;have:=f7.1;omega⟩)
    (λu hu=>by
     have:u.abs∈s.L:=by rw[<-H.abs];exact bB hu
     exact jc _ this) M8 s8 o8 rfl rfl rfl ⟨rfl,rfl,rfl,rfl⟩
   have acY:may (s.next:Int) (cF:Int)=true:=by
    unfold FN at q0;simp only[aW,bf] at q0;exact vU.2 ⟨by omega,by omega,by omega⟩
   refine⟨_,af H8.dE rfl,cp.UE H8.U5 (by show s.E1.length<_;omega) (s.next:Int) (cF:Int) (by omega) (λhm h9 S9 A9 g9 f9=>⟨_,rfl,?_⟩) (λhm=>absurd acY (by rw[hm];simp))⟩;obtain⟨X9,arR,H9,st9,_⟩:=H8.U7 (s':= { s with L:=s.L++ [⟨s.next,x,d,cF,0,0⟩],next:=s.next+1,E1:=Kw s.E1 (s.next:Int) (cF:Int) }) A9 g9 f9 rfl rfl rfl ⟨rfl,rfl,rfl,rfl⟩;exact hk h9 X9 ⟨_,_,_,_,_,_,_,H9⟩ (bM.no F4 (Wc.trans (st8.trans st9)))
 ·have q0:FN x d.length (cF:Int)=false:=by simpa using q0
  rw[q0,jy];have e:ou s x d cF=1:=by unfold ou;rw[q0];rfl
  have e2:Ml s x d cF=0:=ai (by rw[e];decide);have e3:si s x d cF=s:=ai (by rw[e];decide);rw[e,e2,e3] at hk;exact hk h3 X ⟨_,_,_,_,_,_,_,H.on F3⟩ (bM.nI F3)
theorem Nz (H:Ct h t X s) (sm:Small s) (hk: ∀h',Fr No h h'->R (.agg #[.I ((s.next:Int) - 1),.I ((s.L.length:Int) - (s.E2.length:Int)),.I (s.E2.length:Int),.I (s.iQ:Int),.I (s.over:Int),.I (s.gone:Int)]) h'):
  Cl F.kX #[.P t 0] h R:=by
 obtain⟨m,xs,a1,S1,a2,S2,fX,H⟩:=H;have sn:=sm.n;have sl:=sm.l;have se:=sm.e2;have xl:=H.len;refine kX.walk (gE.box λb h1 eb hb f1=> ?_);have H1:=H.on f1;refine ji H1 ⟨_,rfl,?_⟩;rw[dL];refine⟨_,af H1.dE rfl,cp.acw H1.TQ ⟨_,rfl,_,af H1.dE rfl,_,af H1.dE rfl,_,Uf zN H1.map,_,af H1.dE rfl,_,af H1.dE rfl,_,af H1.dE rfl,?_⟩⟩;refine gE.set hb λg6 a6 s6 o6=>gE.ld a6 ?_
 have F6:Fr No h g6:=f1.fresh (S:=λy=>y=b) ⟨by omega,λy _ hn=>o6 y hn⟩ (λy e=>by omega);have K:=hk g6 F6;rw[aN,bK (n:=(s.next:Int) - 1) (by omega) (by omega),bK (by omega) (by omega),xl];exact K
def tL (s:CF) (k:Int):CF:= { PH s k with over:=s.over+1 }
def AR (s:CF) (k:Int):CF:= { PH s k with gone:=s.gone+1 }
theorem Small.rem (sm:Small s) (k:Int):Small (PH s k):=
 ⟨sm.n,dv (cI _ _) sm.l,dv (zJ _ _) sm.e1,dv (zJ _ _) sm.e2⟩
theorem Small.free (sm:Small s) (k:Nat):Small (CY s k):=
 ⟨sm.n,by show(zQ s.L k 0 0).length<=_;unfold zQ;rw[aN];exact sm.l,sm.e1,dv (zJ _ _) sm.e2⟩
def Sm (s:CF):Prop:= ∀k∈keys s.E2,∃z∈s.L,(z.num:Int)=k
theorem Sm.rem (H:Sm s) (k:Int):Sm (PH s k):=λj hj=>by
 unfold keys at hj;obtain⟨e,he,rfl⟩:=bn.1 hj;obtain⟨h1,h2⟩:=aY.1 he;have kA:e.1≠k:=by simpa using h2
 obtain⟨z,hz,e2⟩:=H e.1 (bB h1);exact⟨z,aY.2 ⟨hz,by simp[e2,kA]⟩,e2⟩
theorem aaQ (L:List Cp) (n:Nat) (a:Int) (b:Nat) {z:Cp} (hz:z∈L): ∃y∈zQ L n a b,y.num=z.num:=by
 unfold zQ;refine⟨_,bB hz,?_⟩;split<;>rfl
theorem Ct.anS (H:Ct h t X s) (sm:Small s) (now:Int) (hk: ∀h' X' p' c',Ct h' t X' { s with E1:=cp.rest s.E1 now } ->bM X h X' h'->iR h' p' (cp.due s.E1 now).length c' 1 (kc (cp.due s.E1 now))->(∀y,aQ p' y->h.size<=y/\¬X'.M y)->R (.slice p' (cp.due s.E1 now).length c') h'):
  ∃(u:bU),ak h (AA t 5)=some (.pointer u)/\Cl F.iO #[.pointer u,.U now] h R:=by
 obtain⟨m,xs,a1,S1,a2,S2,fX,H⟩:=H;have:=sm.e1;refine⟨_,af H.dE rfl,cp.Po H.U5 (by omega) now λh1 p1 c1 A1 o1 g1 f1=> ?_⟩;obtain⟨X',kr,H',st,hM⟩:=H.U7 (s':= { s with E1:=cp.rest s.E1 now }) A1 (λc hc=> .inl hc) f1 rfl rfl rfl ⟨rfl,rfl,rfl,rfl⟩;refine hk h1 X' p1 c1 ⟨_,_,_,_,_,_,_,H'⟩ st o1 (λy hy=>⟨g1 y hy,λhm=> ?_⟩);have hy:=g1 y hy;rcases hM y hm with h2|h2
 ·have:=H.QP y ((H.mm y).1 h2);omega
 ·have:=H.U5.lt h2;omega
theorem Ct.anT (H:Ct h t X s) (sm:Small s) (now:Int) (hk: ∀h' X' p' c',Ct h' t X' { s with E2:=cp.rest s.E2 now } ->bM X h X' h'->iR h' p' (cp.due s.E2 now).length c' 1 (kc (cp.due s.E2 now))->(∀y,aQ p' y->h.size<=y/\¬X'.M y)->R (.slice p' (cp.due s.E2 now).length c') h'):
  ∃(u:bU),ak h (AA t 6)=some (.pointer u)/\Cl F.iO #[.pointer u,.U now] h R:=by
 obtain⟨m,xs,a1,S1,a2,S2,fX,H⟩:=H;have:=sm.e2;refine⟨_,af H.dE rfl,cp.Po H.TQ (by omega) now λh1 p1 c1 A1 o1 g1 f1=> ?_⟩;obtain⟨X',kr,H',st,hM⟩:=H.U6 (s':= { s with E2:=cp.rest s.E2 now }) A1 (λc hc=> .inl hc) f1 rfl rfl rfl ⟨rfl,rfl,rfl,rfl⟩;refine hk h1 X' p1 c1 ⟨_,_,_,_,_,_,_,H'⟩ st o1 (λy hy=>⟨g1 y hy,λhm=> ?_⟩);have hy:=g1 y hy;rcases hM y hm with h2|h2
 ·have:=H.QP y ((H.mm y).1 h2);omega
 ·have:=H.TQ.lt h2;omega
structure FO (h:aj) (X:Ft) (p:bU) (n c:Nat) (ks:List Int):Prop where
 own:iR h p n c 1 (ks.map jJ)
 len:n=ks.length
 ap: ∀y,aQ p y->¬X.M y
theorem FO.step {X':Ft} {ks:List Int} (N:FO h X p n c ks) (st:bM X h X' h'):FO h' X' p n c ks:=
 ⟨N.own.frame st.fr N.ap,N.len,λy hy hm=>by
  rcases st.re y hm with h1|h1
  ·exact N.ap y hy h1
  ·have:=N.own.gm hy;omega⟩
theorem FO.at {K:Int->Prop} {ks:List Int} {i:Nat} {k:Int} (N:FO h X p n c ks) (hi:ks[i]? =some k) (hk:K k):
  ((0:Int)<=(i:Int)/\(i:Int)<(n:Int))/\aP p λa=> ∃t:Int,ak h (a.add (Int.toNat (i:Int)*1))=some (.I t)/\K t:=by
 have hl:=(aG.1 hi).1;have hn:=N.len;obtain⟨ab,ao,e⟩:=N.own.addr (by omega);subst e;refine⟨⟨by omega,by omega⟩,aB.2 ⟨k,?_,hk⟩⟩;rw[aL,cN];exact N.own.cell (by rw[aO,hi];rfl)
theorem yy {f:CF->Int->CF} (hf: ∀s k,Small s->Small (f s k)): ∀(ks:List Int) (s:CF),Small s->Small (ks.foldl f s)
 | [],_,h=>h
 |k::ks,s,h=>yy hf ks (f s k) (hf s k h)
theorem NA: ∀(ks:List Int) (s:CF),(ks.foldl tL s).over=s.over+ks.length
 | [],_=>rfl
 |k::ks,s=>by rw[List.foldl_cons,NA ks,bj];show s.over+1+ks.length=_;omega
theorem NB: ∀(ks:List Int) (s:CF),(ks.foldl AR s).gone=s.gone+ks.length
 | [],_=>rfl
 |k::ks,s=>by rw[List.foldl_cons,NB ks,bj];show s.gone+1+ks.length=_;omega
theorem NC: ∀(ks:List Int) (s:CF),Sm s->Sm (ks.foldl tL s)
 | [],_,h=>h
 |k::ks,s,h=>NC ks (tL s k) (h.rem k)
theorem EH {f:CF->Int->CF} {ks:List Int} {i:Nat} {k:Int} (hi:ks[i]? =some k) (s:CF):(ks.take (i+1)).foldl f s=f ((ks.take i).foldl f s) k:=by
 rw[bY,hi,List.foldl_append];rfl
def oH (s:CF) (now:Int):CF:=
 let s1:=(keys (cp.due s.E1 now)).foldl tL { s with E1:=cp.rest s.E1 now }
 (keys (cp.due s1.E2 now)).foldl (λs k=>CY s k.toNat) { s1 with E2:=cp.rest s1.E2 now }
theorem ND: ∀(ks:List Int) (s:CF) (z:Cp),z∈s.L->∃y∈(ks.foldl (λs k=>CY s k.toNat) s).L,y.num=z.num
 | [],s,z,hz=>⟨z,hz,rfl⟩
 |k::ks,s,z,hz=>by
  obtain⟨y,hy,e⟩:=aaQ s.L k.toNat 0 0 hz;obtain⟨u,hu,e2⟩:=ND ks (CY s k.toNat) y hy;exact⟨u,hu,e2.trans e⟩
theorem K3 (L:List E) (now:Int):(cp.rest L now).length<=L.length:=(List.dropWhile_sublist _).length_le
theorem AN (H:Ct h t X s) (sm:Small s) (ho:s.over<=40000) (hE:Sm s) (now:Int)
  (hk: ∀h' X' p' c',Ct h' t X' (oH s now)->bM X h X' h'->FO h' X' p' (cp.due s.E1 now).length c' (keys (cp.due s.E1 now))->(∀y,aQ p' y->h.size<=y)->R (.slice p' (cp.due s.E1 now).length c') h'):
  Cl F.mS #[.P t 0,.U now] h R:=by
 have hdl:(cp.due s.E1 now).length<=s.E1.length:=(List.takeWhile_sublist _).length_le;have e1b:=sm.e1;have hm: ∀ {R:iI},R (.bool true) h->Cl F.gv #[.P t 0] h R:=λhk=>by
  obtain⟨m,xs,a1,S1,a2,S2,fX,H⟩:=H;exact ji H hk
 refine mS.walk (hm ⟨_,rfl,?_⟩);rw[dL];refine H.anS sm now λh2 X2 p2 c2 H2 AF o2 g2=>⟨_,_,_,rfl,?_⟩
 have sm2:Small { s with E1:=cp.rest s.E1 now } :=⟨sm.n,sm.l,dv (K3 _ _) sm.e1,sm.e2⟩;have kl:(keys (cp.due s.E1 now)).length=(cp.due s.E1 now).length:=by unfold keys;rw[aN]
 have N2:FO h2 X2 p2 (cp.due s.E1 now).length c2 (keys (cp.due s.E1 now)):=⟨o2,kl.symm,λy hy=>(g2 y hy).2⟩;have smR: ∀(s:CF) k,Small s->Small (tL s k):=λs k h=>⟨(h.rem k).n,(h.rem k).l,(h.rem k).e1,(h.rem k).e2⟩
 refine⟨λu g=> ∃(i:Nat) (Xg:Ft),u=(i:Int)/\i<=(cp.due s.E1 now).length/\Ct g t Xg (((keys (cp.due s.E1 now)).take i).foldl tL { s with E1:=cp.rest s.E1 now })/\bM X h Xg g/\FO g Xg p2 (cp.due s.E1 now).length c2 (keys (cp.due s.E1 now)),λu _=>(cp.due s.E1 now).length - u.toNat,⟨0,X2,rfl,cj _,H2,AF,N2⟩,?_⟩;rintro _ g ⟨i,Xg,rfl,hi,Hg,stg,Ng⟩;have smg:=yy smR ((keys (cp.due s.E1 now)).take i) _ sm2;by_cases jc:i<(cp.due s.E1 now).length
 ·rw[jy];have Q4:(keys (cp.due s.E1 now))[i]? =some ((keys (cp.due s.E1 now))[i]'(by omega)):=au _;generalize (keys (cp.due s.E1 now))[i]'(by omega)=k at Q4;refine Ng.at Q4 (zO Hg smg k λg3 X3 H3 Gj=>⟨rfl,H3.anQ ?_ λg4 H4 Vg=> ?_⟩)
  ·show(((keys (cp.due s.E1 now)).take i).foldl tL { s with E1:=cp.rest s.E1 now }).over<=100000;rw[NA,bQ];show s.over+_<=100000;omega
  ·rw[bK (by omega) (by omega)];refine⟨⟨i+1,X3,by omega,by omega,?_,stg.trans (Gj.trans Vg),(Ng.step Gj).step Vg⟩,by show(cp.due s.E1 now).length - Int.toNat ((i:Int)+1)<(cp.due s.E1 now).length - i;omega⟩;rw[EH Q4];exact H4
 ·rw[ai (by simp;omega)];obtain rfl:i=(cp.due s.E1 now).length:=by omega
  have ta:(keys (cp.due s.E1 now)).take (cp.due s.E1 now).length=keys (cp.due s.E1 now):=bR (by omega);rw[ta] at Hg smg;have hE1:Sm ((keys (cp.due s.E1 now)).foldl tL { s with E1:=cp.rest s.E1 now }):=NC _ _ hE;generalize EY:(keys (cp.due s.E1 now)).foldl tL { s with E1:=cp.rest s.E1 now } =s1 at Hg smg hE1;refine Hg.anT smg now λh6 X6 p6 c6 H6 TP o6 g6=>⟨_,_,_,rfl,?_⟩
  have kl6:(keys (cp.due s1.E2 now)).length=(cp.due s1.E2 now).length:=by unfold keys;rw[aN]
  have sm6:Small { s1 with E2:=cp.rest s1.E2 now } :=⟨smg.n,smg.l,smg.e1,dv (K3 _ _) smg.e2⟩;have N6:FO h6 X6 p6 (cp.due s1.E2 now).length c6 (keys (cp.due s1.E2 now)):=⟨o6,kl6.symm,λy hy=>(g6 y hy).2⟩;have hd6:=smg.e2;have arS:(cp.due s1.E2 now).length<=s1.E2.length:=(List.takeWhile_sublist _).length_le;refine⟨λu g=> ∃(i:Nat) (Xg:Ft),u=(i:Int)/\i<=(cp.due s1.E2 now).length/\Ct g t Xg (((keys (cp.due s1.E2 now)).take i).foldl (λs k=>CY s k.toNat) { s1 with E2:=cp.rest s1.E2 now })/\bM X h Xg g/\FO g Xg p6 (cp.due s1.E2 now).length c6 (keys (cp.due s1.E2 now))/\FO g Xg p2 (cp.due s.E1 now).length c2 (keys (cp.due s.E1 now)),λu _=>(cp.due s1.E2 now).length - u.toNat,⟨0,X6,rfl,cj _,H6,stg.trans TP,N6,Ng.step TP⟩,?_⟩;rintro _ g7 ⟨j,X7,rfl,hj,H7,st7,N7,M7⟩;have sm7:=yy (f:=λs k=>CY s k.toNat) (λs k h=>h.free k.toNat) ((keys (cp.due s1.E2 now)).take j) _ sm6;by_cases jc:j<(cp.due s1.E2 now).length
  ·rw[jy];have Q4:(keys (cp.due s1.E2 now))[j]? =some ((keys (cp.due s1.E2 now))[j]'(by omega)):=au _;generalize (keys (cp.due s1.E2 now))[j]'(by omega)=k at Q4;have hkm:k∈keys s1.E2:=by
    have h1:=bt Q4;unfold keys at h1⊢;obtain⟨e,he,rfl⟩:=bn.1 h1;exact bB ((List.takeWhile_sublist _).subset he)
   obtain⟨z,hz,ez⟩:=hE1 k hkm;obtain⟨y,hy,ey⟩:=ND ((keys (cp.due s1.E2 now)).take j) { s1 with E2:=cp.rest s1.E2 now } z hz;have eyk:k=(y.num:Int):=by rw[ey];exact ez.symm
   refine N7.at Q4 ?_;rw[eyk];refine Xs H7 sm7 hy λg8 X8 H8 st8=>⟨rfl,?_⟩
   rw[bK (by omega) (by omega)];refine⟨⟨j+1,X8,by omega,by omega,?_,st7.trans st8,N7.step st8,M7.step st8⟩,by show(cp.due s1.E2 now).length - Int.toNat ((j:Int)+1)<(cp.due s1.E2 now).length - j;omega⟩;rw[EH Q4,eyk,aL];exact H8
  ·rw[ai (by simp;omega)];obtain rfl:j=(cp.due s1.E2 now).length:=by omega
   rw[bR (by omega)] at H7;refine hk g7 X7 p2 c2 ?_ st7 M7 (λy hy=>(g2 y hy).1);unfold oH;rw[EY];exact H7
def Ii (s:CF) (x:Ev):CF:=((vp s.L x).map (λz=>(z.num:Int))).foldl AR s
theorem agh (H:Cm h t X s m xs a1 S1 a2 S2 fX) (x:Ev):tW (xs.filter (λy=>decide (y.e=x)))=(vp s.L x).map (λz=>(z.num:Int)):=by
 unfold vp tW;rw[<-H.abs,eK,fG];rfl
theorem AJ (H:Ct h t X s) (sm:Small s) (ho:s.gone<=40000) (x:Ev)
  (hk: ∀h' X' p' c',Ct h' t X' (Ii s x)->bM X h X' h'->FO h' X' p' (vp s.L x).length c' ((vp s.L x).map (λz=>(z.num:Int)))->(∀y,aQ p' y->h.size<=y)->R (.slice p' (vp s.L x).length c') h'):
  Cl F.mV #[.P t 0,uG x] h R:=by
 have H0:=H;obtain⟨m,xs,a1,S1,a2,S2,fX,H⟩:=H;have sl:=sm.l;have xl:=H.len;refine mV.walk (az.box λb h1 eb hb f1=>az.ld hb (Ns (H.on f1) x (by omega) λh2 p2 c2 o2 g2 f2=>⟨_,_,_,rfl,?_⟩));have F2:=f1.tt f2;have z1:=f1.1;rw[Vf H x,agh H x] at o2;rw[Vf H x];have ol:(vp s.L x).length<=s.L.length:=cI _ _;have kl:((vp s.L x).map (λz=>(z.num:Int))).length=(vp s.L x).length:=aN _;have N2:FO h2 X p2 (vp s.L x).length c2 ((vp s.L x).map (λz=>(z.num:Int))):=⟨o2,kl.symm,λy hy hm=>by
  have h1:=g2 y hy;have:=H.QP y ((H.mm y).1 hm);omega⟩
 have smR: ∀(s:CF) k,Small s->Small (AR s k):=λs k h=>⟨(h.rem k).n,(h.rem k).l,(h.rem k).e1,(h.rem k).e2⟩
 refine⟨λu g=> ∃(i:Nat) (Xg:Ft),u=(i:Int)/\i<=(vp s.L x).length/\Ct g t Xg ((((vp s.L x).map (λz=>(z.num:Int))).take i).foldl AR s)/\bM X h Xg g/\FO g Xg p2 (vp s.L x).length c2 ((vp s.L x).map (λz=>(z.num:Int))),λu _=>(vp s.L x).length - u.toNat,⟨0,X,rfl,cj _,H0.on F2,bM.nI F2,N2⟩,?_⟩;rintro _ g ⟨i,Xg,rfl,hi,Hg,stg,Ng⟩;have smg:=yy smR (((vp s.L x).map (λz=>(z.num:Int))).take i) _ sm;by_cases jc:i<(vp s.L x).length
 ·rw[jy];have Q4:((vp s.L x).map (λz=>(z.num:Int)))[i]? =some (((vp s.L x).map (λz=>(z.num:Int)))[i]'(by omega)):=au _;generalize ((vp s.L x).map (λz=>(z.num:Int)))[i]'(by omega)=k at Q4;refine Ng.at Q4 (zO Hg smg k λg3 X3 H3 Gj=>⟨rfl,H3.anR ?_ λg4 H4 Vg=> ?_⟩)
  ·show((((vp s.L x).map (λz=>(z.num:Int))).take i).foldl AR s).gone<=100000;rw[NB,bQ];omega
  ·rw[bK (by omega) (by omega)];refine⟨⟨i+1,X3,by omega,by omega,?_,stg.trans (Gj.trans Vg),(Ng.step Gj).step Vg⟩,by show(vp s.L x).length - Int.toNat ((i:Int)+1)<(vp s.L x).length - i;omega⟩;rw[EH Q4];exact H4
 ·rw[ai (by simp;omega)];obtain rfl:i=(vp s.L x).length:=by omega
  rw[bR (by omega)] at Hg;exact hk g Xg p2 c2 Hg stg Ng (λy hy=>by have:=g2 y hy;omega)
abbrev adv:Value:=.agg #[.int .i64 0,.bool false,.int .u64 0,.int .u64 0,.string ⟨#[]⟩,.string ⟨#[]⟩,.slice none 0 0,.int .u64 0,.int .i64 0,.int .u64 0]
abbrev Cp.val (z:Cp) (p:bU) (c:Nat):Value:=.agg #[.int .i64 (z.num:Int),.bool z.e.vD,.int .u64 z.e.node,.int .u64 z.e.l6,.string z.e.host,.string z.e.sM,.slice p z.d.length c,.int .u64 (z.cF:Int),.int .i64 z.ses,.int .u64 (z.dl:Int)]
def DL (ses:Int) (dl:Nat):Prop:=1<=ses/\ses<=1099511627776/\dl<=1099511627776
def tM (L:List Cp) (x:Ev):Option Cp:=(vp L x).find? (λz=>decide (z.ses=0))
def xx (s:CF) (z:Cp) (ses:Int) (dl:Nat):CF:= { s with L:=zQ s.L z.num ses dl,E2:=Kw s.E2 (z.num:Int) (dl:Int) }
theorem Vh {k:Int} (hk:R (.bool (decide (1<=k/\k<=1099511627776))) h):Cl F.od #[.I k] h R:=by
 refine od.walk ?_;by_cases q:1<=k
 ·have q':k≥1:=q;simp only[q',decide_true,bA];simp only[q,true_and] at hk;exact hk
 ·have q': ¬k≥1:=q;simp only[q',decide_false,aA,aU];simp only[q,false_and,decide_false] at hk;exact hk
theorem aaR (H:Ct h t X s) (sm:Small s) (hb: ∀z∈s.L,1<=z.num/\z.num<s.next/\z.d.length<=600) (x:Ev) (ses:Int) (dl:Nat) {k:Int} (Mi:k=(dl:Int))
  (k1: ¬DL ses dl->∀h',Fr No h h'->R (.tuple #[adv,.I 1]) h')
  (k2:DL ses dl->tM s.L x=none->∀h',Fr No h h'->R (.tuple #[adv,.I 4]) h')
  (k3:DL ses dl->∀z,tM s.L x=some z->∀h' X' p' c',Ct h' t X' (xx s z ses dl)->bM X h X' h'->Row h' p' (bc z.d)->z.d.length<=c'->(∀y,aQ p' y->h.size<=y/\¬(X'.M y\/X'.D y))->R (.tuple #[({ z with ses:=ses,dl:=dl } :Cp).val p' c',.I 0]) h'):
  Cl F.iG #[.P t 0,uG x,.I ses,.U k] h R:=by
 subst Mi;obtain⟨m,xs,a1,S1,a2,S2,fX,H⟩:=H;have sn:=sm.n;have sl:=sm.l;have se:=sm.e2;have xl:=H.len;refine iG.walk (az.box λb h1 e1 dw f1=>aJ.box λb2 h2 e2 fI f2=> ?_);have z1:=aI dw;have z2:=aI fI;have f12:=f1.tt f2;have dw:=f2.get dw id;refine ji (H.on f12) ⟨_,rfl,?_⟩;rw[dL];have EY:=f1.1;have fin: ∀g (e:Int),Fr No h2 g->(∀h',Fr No h h'->R (.tuple #[adv,.I e]) h')->aJ.ST g (AA b2 0) 0 false 0 0 j9 j9 none 0 0 0 0 0 λg2=>aJ.LD g2 (AA b2 0) λr_0 r_1 r_2 r_3 r_4 r_5 anU anV anW r_7 r_8 r_9=>
   R (.tuple #[.agg #[.I r_0,.bool r_1,.U r_2,.U r_3,.string r_4,.string r_5,.slice anU anV anW,.U r_7,.I r_8,.U r_9],.I e]) g2:=λg e fg hk=>
  aJ.set (fg.get fI id) λg2 a2 s2 o2=>aJ.ld a2 (hk g2 ((f12.tt fg).fresh (S:=λy=>y=b2) ⟨by omega,λy _ hn=>o2 y hn⟩ (λy e=>by omega)))
 refine aK.of λJ hJ=>Vh ⟨_,rfl,?_⟩
 have bad: ¬DL ses dl->J true h2:=λhn=>by
  subst hJ;simp only[bA];exact fin h2 1 (Fr.refl _ _) (k1 hn)
 by_cases q1:1<=ses/\ses<=1099511627776
 ·rw[ay q1,dL];by_cases q2:(dl:Int)>1099511627776
  ·rw[ay q2];exact bad (λhm=>by have:=hm.2.2;omega)
  ·rw[decide_eq_false q2];clear bad;subst hJ;simp only[aA,aU];have hm:DL ses dl:=⟨q1.1,q1.2,by omega⟩;refine az.ld dw (Ns (H.on f12) x (by omega) λh7 p7 c7 o7 g7 f7=>⟨_,_,_,rfl,?_⟩);have F7:=f12.tt f7;have H7:=H.on F7;have anX:=f7.get fI id;have hF:(xs.filter (λy=>decide (y.e=x))).map CV.abs=vp s.L x:=by unfold vp;rw[<-H.abs,eK];rfl
   generalize hxf:xs.filter (λy=>decide (y.e=x))=xf at o7 hF;have nl:(tW xf).length=xf.length:=by unfold tW;rw[aN]
   have fl:xf.length<=xs.length:=by rw[<-hxf];exact cI _ _
   refine⟨λu g=>g=h7/\∃i:Nat,u=(i:Int)/\i<=xf.length/\∀j y,j<i->xf[j]? =some y->y.ses≠0,λu _=>xf.length - u.toNat,⟨rfl,0,rfl,cj _,λj y hj=>by omega⟩,?_⟩;rintro _ h7 ⟨rfl,i,rfl,hi,kz⟩;by_cases jc:i<xf.length
   ·rw[jy];have hy:xf[i]? =some xf[i]:=au jc;generalize xf[i]=y at hy;have hym:y∈xs:=by
     have:=bt hy;rw[<-hxf] at this;exact(aY.1 this).1
    obtain⟨ab,ao,rfl⟩:=o7.addr (by omega);have cc:=o7.cell (j:=i) (v:=jJ (y.num:Int)) (by rw[aO];unfold tW;rw[aO,hy];rfl);have L7:=look H7 hym;have ca:=H7.Sj y hym;simp only[aL,cN];refine⟨⟨by omega,by omega⟩,aB.2 ⟨_,cc,_,af H7.dE rfl,_,L7,aB.2 ⟨_,af ca rfl,?_⟩⟩⟩;by_cases hs0:y.ses=0
    ·rw[ag (by simpa using hs0)];have anY:tM s.L x=some y.abs:=by
      unfold tM;rw[<-hF,List.find?_map];have:xf.find? ((λz:Cp=>decide (z.ses=0)) ∘ CV.abs)=some y:=by
       rw[List.find?_eq_some_iff_getElem];refine⟨by simp[CV.abs,hs0],i,jc,(aG.1 hy).2,λj hj=> ?_⟩;have hz:=kz j (xf[j]'(by omega)) hj (au (by omega));have hz':decide ((xf[j]'(by omega)).abs.ses=0)=false:=decide_eq_false hz;show(!decide ((xf[j]'(by omega)).abs.ses=0))=true;rw[hz'];rfl
      rw[this];rfl
     have ako:=hb y.abs (by rw[<-H.abs];exact bB hym);have hn1:1<=y.num:=ako.1;have hn2:y.num<s.next:=ako.2.1;have hn3:y.v.b.length<=600:=ako.2.2;refine aB.2 (H7.Ny (ses:=ses) (dl:=dl) hym λvj H10 aqA=>⟨_,af H10.dE rfl,?_⟩);have acY:may (y.num:Int) (dl:Int)=true:=vU.2 ⟨by omega,by omega,by omega⟩;refine cp.UE H10.TQ (by show s.E2.length<_;omega) (y.num:Int) (dl:Int) (by omega) (λ_ yi S11 A11 g11 f11=>⟨_,rfl,?_⟩) (λhx=>absurd acY (by rw[hx];simp));obtain⟨X11,arJ,H11,agi,_⟩:=H10.U6 (s':=xx s y.abs ses dl) A11 g11 f11 rfl rfl rfl ⟨rfl,rfl,rfl,rfl⟩;have hy':({ y with ses:=ses,dl:=dl } :CV)∈xs.map (λz=>if z.num=y.num then({ y with ses:=ses,dl:=dl } :CV) else z):=bn.2 ⟨y,hym,ag rfl⟩;have anZ:=H11.Sj _ hy';have aqB:=H11.PA _ hy';refine aB.2 (aJ.ld anZ (aJ.new λb3 GP e13 qu f13=>aB.2 ⟨_,_,_,af (f13.get anZ id) rfl,my ((aqB.row).frame f13 (λ_ _=>id)) rfl (by show y.v.b.length<=_;omega) λp14 c14 Dv o14 f14 g14=>⟨_,_,_,rfl,?_⟩⟩));have DH:=aqA.trans agi;have z11:h7.size<=yi.size:=DH.fr.1;have z13:=f13.1;refine bL (f14.get qu id) (by simp) λGY c15 s15 Mq=> ?_
     have FM:aJ.at GY b3 (y.num:Int) y.e.vD y.e.node y.e.l6 y.e.host y.e.sM p14 y.v.b.length c14 (y.cF:Int) ses (dl:Int):=c15;refine aJ.ld FM ?_;have nM: ∀y,y<h7.size->h.size<=y->¬X11.M y:=λy y1 y2 hm=>by
      rcases DH.re y hm with h3|h3
      ·have:=H.QP y ((H.mm y).1 h3);omega
      ·omega
     have zb2:b2<h7.size:=aI anX;have b2x: ¬X.M b2:=λhm=>by have:=H.QP b2 ((H.mm b2).1 hm);omega
     have an0:aJ.at GY b2 0 false 0 0 ⟨#[]⟩ ⟨#[]⟩ none 0 0 0 0 0:=by
      have h3:=DH.fr.get anX b2x;have h4:=(f13.tt f14).get h3 id;have:b2≠b3:=by omega
      unfold aJ.at;rw[Mq b2 this];exact h4
     refine aJ.set an0 λvY c16 s16 o16=>aJ.ld c16 ?_
     have arT: ∀y,aQ p14 y->GP.size<=y:=g14;have fA:Fr (λy=>y=b3) Dv GY:=⟨by omega,λy _ hn=>Mq y hn⟩;have fB:Fr (λy=>y=b2) GY vY:=⟨by omega,λy _ hn=>o16 y hn⟩;have arU:b3<GP.size:=aI qu;have an1:Row vY p14 (bc y.v.b):=((o14.pZ).frame fA (λa ea hm=>by have:=g14 a.block ⟨a,ea,rfl⟩;have hm:a.block=b3:=hm;omega)).frame fB (λa ea hm=>by have:=g14 a.block ⟨a,ea,rfl⟩;have hm:a.block=b2:=hm;omega);have T11:Ct yi t X11 (xx s y.abs ses dl):=⟨_,_,_,_,_,_,_,H11⟩;have an2:=λy (hy:X11.M y\/X11.D y)=>T11.lt y hy
     have T14:=T11.on (f13.tt f14);have T15:=T14.frame fA (λy hy e=>by have:=an2 y hy;omega);have d2: ¬(X11.M b2\/X11.D b2):=λhm=>by
      rcases hm with hm|hm
      ·exact nM b2 zb2 (by omega) hm
      ·rcases DH.wK b2 hm with h3|h3
       ·have:=(H.dd b2 h3).2;omega
       ·omega
     have T16:=T15.frame fB (λy hy e=>d2 (e▸hy));have stC:=bM.no F7 DH;have stB:bM X h X11 vY:=by
      refine⟨⟨by have:=f14.1;have:=stC.fr.1;omega,λy hy hn=> ?_⟩,stC.re,stC.wK,stC.Iw⟩;have:=stC.fr.1;rw[o16 y (by omega),Mq y (by omega),(f13.tt f14).2 y (by omega) id];exact stC.fr.2 y hy hn
     exact k3 hm y.abs anY vY X11 p14 c14 T16 stB an1 o14.le (λy hy=>⟨by have:=g14 y hy;have:=F7.1;omega,λhx=>by have:=an2 y hx;have:=g14 y hy;omega⟩)
    ·rw[ai (by simpa using hs0),bK (by omega) (by omega)];refine⟨⟨by first|trivial|rfl,i+1,by omega,by omega,λj z hj hz=> ?_⟩,by show xf.length - Int.toNat ((i:Int)+1)<xf.length - i;omega⟩;by_cases ej:j=i
     ·subst ej;rw[hy] at hz;cases hz;exact hs0
     ·exact kz j z (by omega) hz
   ·rw[ai (by simp;omega)];refine fin h7 4 f7 (k2 hm ?_);unfold tM;rw[<-hF,List.find?_map];have:xf.find? ((λz:Cp=>decide (z.ses=0)) ∘ CV.abs)=none:=by
     rw[List.find?_eq_none];intro y hy;obtain⟨j,hj⟩:=bG hy;have:=kz j y (by have:=(aG.1 hj).1;omega) hj;have h2:decide (y.abs.ses=0)=false:=decide_eq_false this;show¬(decide (y.abs.ses=0)=true);rw[h2];decide
    rw[this];rfl
 ·rw[decide_eq_false q1,jy];exact bad (λhm=>q1 ⟨hm.1,hm.2.1⟩)
end hU
end
section
open Go.rN
namespace hU
open qI cp vf
variable {h:aj} {t:Nat} {X:Ft} {s s':CF} {n:Nat} {now:Int}
structure Ord (s:CF):Prop where
 nd:(s.L.map Cp.num).Nodup
 o1:pF s.E1
 o2:pF s.E2
 n1:(keys s.E1).Nodup
 n2:(keys s.E2).Nodup
theorem Ct.ord (H:Ct h t X s):Ord s:=by
 obtain⟨m,xs,a1,S1,a2,S2,fX,H⟩:=H;refine⟨?_,H.U5.sorted,H.TQ.sorted,H.U5.nodup,H.TQ.nodup⟩;rw[<-H.abs,fG];exact H.so.imp (λh=>Nat.ne_of_lt h)
structure BP (s:CF):Prop where
 bd: ∀z∈s.L,1<=z.num/\z.num<s.next/\z.d.length<=600
 sp: ∀z∈s.L,0<=z.ses
 e1: ∀e,e∈s.E1↔ ∃z∈s.L,e=((z.num:Int),(z.cF:Int))
 e2: ∀e,e∈s.E2↔ ∃z∈s.L,z.ses≠0/\e=((z.num:Int),(z.dl:Int))
 KD:s.next=1+s.L.length+s.iQ+s.over+s.gone
theorem Ord.inj (O:Ord s) {z y:Cp} (hz:z∈s.L) (hy:y∈s.L) (e:z.num=y.num):z=y:=by
 obtain⟨i,hi⟩:=bG hz;obtain⟨j,hj⟩:=bG hy;have li:=(aG.1 hi).1;by_cases hij:i=j
 ·subst hij;rw[hi] at hj;exact bz hj
 ·exfalso;have h1:(s.L.map Cp.num)[i]? =some z.num:=by rw[aO,hi];rfl
  have h2:(s.L.map Cp.num)[j]? =some y.num:=by rw[aO,hj];rfl
  have:i=j:=(fU (by rw[aN];exact li) O.nd).1 (h1.trans ((bp some e).trans h2.symm));exact hij this
theorem Dz {L:List E} {k:Int} {e:E} :e∈iH L k↔e∈L/\e.1≠k:=by unfold iH;simp[aY]
theorem Sn {L:List E} {k v:Int} {e:E} :e∈Kw L k v↔e=(k,v)\/(e∈L/\e.1≠k):=by
 unfold Kw;rw[(vT _ _).mem_iff,bP,Dz]
theorem xy {L:List Cp} {k:Int} {z:Cp} :z∈K1 L k↔z∈L/\(z.num:Int)≠k:=by unfold K1;simp[aY]
theorem xz {L:List Cp} {n:Nat} {a:Int} {b:Nat} {z:Cp} :z∈zQ L n a b↔ ∃y∈L,z=if y.num=n then { y with ses:=a,dl:=b } else y:=by
 unfold zQ;rw[bn];exact⟨λ⟨y,h1,h2⟩=>⟨y,h1,h2.symm⟩,λ⟨y,h1,h2⟩=>⟨y,h1,h2.symm⟩⟩
theorem adw (L:List Cp) (n:Nat) (a:Int) (b:Nat):(zQ L n a b).length=L.length:=by unfold zQ;rw[aN]
theorem FJ: ∀ {L:List Cp},(L.map Cp.num).Nodup->∀ {z:Cp},z∈L->(K1 L (z.num:Int)).length+1=L.length
 | [],_,z,hz=>by cases hz
 |y::l,nd,z,hz=>by
  rw[cA,gu] at nd;unfold K1;rw[cC];rcases bP.1 hz with rfl|hz
  ·rw[ai (by simp),cH.2 (λx hx=> ?_),bj];have:x.num≠z.num:=λe=>nd.1 (by rw[<-e];exact bB hx)
   simp;omega
  ·have kA:y.num≠z.num:=λe=>nd.1 (by rw[e];exact bB hz)
   rw[ag (by simp;omega),bj,bj];have:=FJ nd.2 hz;unfold K1 at this;omega
theorem BP.add (ok:BP s) (x:Ev) (d:List UInt8) (cF:Nat):BP (si s x d cF):=by
 unfold si;by_cases he:ou s x d cF=0
 ·rw[ag he];have hd:d.length<=600:=by
   unfold ou at he;split at he
   ·rename_i hm;unfold FN at hm;simp only[aW,bf] at hm;exact hm.2.2.2.1
   ·cases he
  refine⟨λz hz=> ?_,λz hz=> ?_,λe=> ?_,λe=> ?_,?_⟩
  ·rcases bT.1 hz with hz|hz
   ·have:=ok.bd z hz;exact⟨this.1,Nat.lt_succ_of_lt this.2.1,this.2.2⟩
   ·obtain rfl:=bV.1 hz;exact⟨by have:=ok.KD;show 1<=s.next;omega,Nat.lt_succ_self _,hd⟩
  ·rcases bT.1 hz with hz|hz
   ·exact ok.sp z hz
   ·obtain rfl:=bV.1 hz;exact ga _
  ·show e∈Kw s.E1 _ _↔ ∃z∈s.L++ [_],_;rw[Sn,ok.e1];constructor
   ·rintro(rfl|⟨⟨z,hz,rfl⟩,_⟩)
    ·exact⟨_,bT.2 (.inr (bV.2 rfl)),rfl⟩
    ·exact⟨z,bT.2 (.inl hz),rfl⟩
   ·rintro⟨z,hz,rfl⟩;rcases bT.1 hz with hz|hz
    ·exact .inr ⟨⟨z,hz,rfl⟩,by have:=(ok.bd z hz).2.1;show(z.num:Int)≠_;omega⟩
    ·obtain rfl:=bV.1 hz;exact .inl rfl
  ·show e∈s.E2↔ ∃z∈s.L++ [_],_;rw[ok.e2];constructor
   ·rintro⟨z,hz,h2⟩;exact⟨z,bT.2 (.inl hz),h2⟩
   ·rintro⟨z,hz,h2⟩;rcases bT.1 hz with hz|hz
    ·exact⟨z,hz,h2⟩
    ·obtain rfl:=bV.1 hz;exact absurd rfl h2.1
  ·have:=ok.KD;show s.next+1=1+(s.L++ [_]).length+s.iQ+s.over+s.gone;rw[aF,fj];omega
 ·rw[ai he];exact ok
theorem BP.rem (ok:BP s) (O:Ord s) {z:Cp} (hz:z∈s.L) (hL:s'.L=K1 s.L (z.num:Int)) (h1:s'.E1=iH s.E1 (z.num:Int)) (h2:s'.E2=iH s.E2 (z.num:Int)) (hn:s'.next=s.next) (hc:s'.iQ+s'.over+s'.gone=s.iQ+s.over+s.gone+1):BP s':=by
 refine⟨λy hy=> ?_,λy hy=> ?_,λe=> ?_,λe=> ?_,?_⟩
 ·rw[hL,xy] at hy;rw[hn];exact ok.bd y hy.1
 ·rw[hL,xy] at hy;exact ok.sp y hy.1
 ·rw[h1,Dz,ok.e1,hL];constructor
  ·rintro⟨⟨y,hy,rfl⟩,kA⟩;exact⟨y,xy.2 ⟨hy,kA⟩,rfl⟩
  ·rintro⟨y,hy,rfl⟩;have:=xy.1 hy;exact⟨⟨y,this.1,rfl⟩,this.2⟩
 ·rw[h2,Dz,ok.e2,hL];constructor
  ·rintro⟨⟨y,hy,hs,rfl⟩,kA⟩;exact⟨y,xy.2 ⟨hy,kA⟩,hs,rfl⟩
  ·rintro⟨y,hy,hs,rfl⟩;have:=xy.1 hy;exact⟨⟨y,this.1,hs,rfl⟩,this.2⟩
 ·have:=FJ O.nd hz;have:=ok.KD;rw[hn,hL];omega
theorem Sp {L:List Cp} {k ses:Int} (h:pU L k ses=0): ∃z∈L,(z.num:Int)=k/\z.ses=ses/\ses≠0:=by
 unfold pU at h;cases hg:GU L k with
 |none=>rw[hg] at h;cases h
 |some z=>
  rw[hg] at h;dsimp only at h;split at h
  ·cases h
  ·rename_i hn;obtain⟨h1,h2⟩:=GV hg;refine⟨z,h1,h2,?_,?_⟩<;>(simp only[not_or,Decidable.not_not] at hn)
   ·exact hn.2
   ·rw[<-hn.2];exact hn.1
theorem BP.ack (ok:BP s) (O:Ord s) (k ses:Int):BP (vX s k ses):=by
 unfold vX;by_cases he:pU s.L k ses=0
 ·rw[ag he];obtain⟨z,hz,rfl,_,_⟩:=Sp he;exact ok.rem O hz rfl rfl rfl rfl (by show s.iQ+1+s.over+s.gone=_;omega)
 ·rw[ai he];exact ok
theorem BP.set (ok:BP s) (O:Ord s) {z:Cp} (hz:z∈s.L) {a:Int} {b:Nat} (ha:0<=a) (hL:s'.L=zQ s.L z.num a b) (h1:s'.E1=s.E1) (h2: ∀e,e∈s'.E2↔(a≠0/\e=((z.num:Int),(b:Int)))\/(e∈s.E2/\e.1≠(z.num:Int))) (hn:s'.next=s.next) (hc:s'.iQ+s'.over+s'.gone=s.iQ+s.over+s.gone):BP s':=by
 refine⟨λy hy=> ?_,λy hy=> ?_,λe=> ?_,λe=> ?_,?_⟩
 ·rw[hL,xz] at hy;obtain⟨u,hu,rfl⟩:=hy;rw[hn];have:=ok.bd u hu;split<;>exact this
 ·rw[hL,xz] at hy;obtain⟨u,hu,rfl⟩:=hy;split
  ·exact ha
  ·exact ok.sp u hu
 ·rw[h1,ok.e1,hL];constructor
  ·rintro⟨y,hy,rfl⟩;refine⟨_,xz.2 ⟨y,hy,rfl⟩,?_⟩;split<;>rfl
  ·rintro⟨y,hy,rfl⟩;obtain⟨u,hu,rfl⟩:=xz.1 hy;refine⟨u,hu,?_⟩;split<;>rfl
 ·rw[h2,ok.e2,hL];constructor
  ·rintro(⟨h3,rfl⟩|⟨⟨y,hy,h4,rfl⟩,h5⟩)
   ·refine⟨_,xz.2 ⟨z,hz,rfl⟩,?_⟩;rw[ag rfl];exact⟨h3,rfl⟩
   ·refine⟨_,xz.2 ⟨y,hy,rfl⟩,?_⟩;rw[ai (λe=>h5 (by rw[e]))];exact⟨h4,rfl⟩
  ·rintro⟨y,hy,h4,rfl⟩;obtain⟨u,hu,rfl⟩:=xz.1 hy;by_cases e:u.num=z.num
   ·rw[ag e] at h4⊢;exact .inl ⟨h4,by rw[<-e]⟩
   ·rw[ai e] at h4⊢;exact .inr ⟨⟨u,hu,h4,rfl⟩,by show(u.num:Int)≠_;omega⟩
 ·have:=ok.KD;rw[hn,hL,adw];omega
theorem BP.rel (ok:BP s) (O:Ord s) (k ses:Int):BP (IS s k ses):=by
 unfold IS;by_cases he:pU s.L k ses=0
 ·rw[ag he];obtain⟨z,hz,rfl,_,_⟩:=Sp he;rw[aL];refine ok.set O hz (ga 0) rfl rfl (λe=> ?_) rfl rfl;show e∈iH _ _↔_;rw[Dz];simp
 ·rw[ai he];exact ok
theorem Vj {L:List Cp} {x:Ev} {z:Cp} (h:tM L x=some z):z∈L/\z.e=x/\z.ses=0:=by
 unfold tM vp at h;have h1:=List.mem_of_find?_eq_some h;have h2:=List.find?_some h;rw[aY] at h1;exact⟨h1.1,by simpa using h1.2,by simpa using h2⟩
theorem BP.Ny (ok:BP s) (O:Ord s) {z:Cp} (hz:z∈s.L) {ses:Int} {dl:Nat} (hm:DL ses dl):BP (xx s z ses dl):=by
 have h1:=hm.1;refine ok.set O hz (by omega) rfl rfl (λe=> ?_) rfl rfl;show e∈Kw _ _ _↔_;rw[Sn];have:ses≠0:=by omega
 simp[this]
theorem jj: ∀ {L:List E},pF L->cp.due L now=L.filter (pR now)/\cp.rest L now=L.filter (λe=> !pR now e)
 | [],_=>⟨rfl,rfl⟩
 |e::r,hs=>by
  have DC:=fi.1 hs;obtain⟨i1,i2⟩:=jj (L:=r) DC.2;unfold cp.due at i1⊢;unfold cp.rest at i2⊢;by_cases he:pR now e=true
  ·rw[List.takeWhile_cons,List.dropWhile_cons,cC,cC,he];simp only[bA,dW,aA,aU];rw[i1,i2];exact⟨rfl,rfl⟩
  ·have I6:pR now e=false:=by simpa using he
   have all: ∀x∈r,pR now x=false:=by
    intro x hx;have h1:=DC.1 x hx;unfold pR at I6⊢;have h2:=of_decide_eq_false I6;apply decide_eq_false
    rcases h1 with h1|h1<;>omega
   rw[List.takeWhile_cons,List.dropWhile_cons,cC,cC,I6];simp only[aA,aU,gL,bA];refine⟨?_,?_⟩
   ·symm;rw[List.filter_eq_nil_iff];intro x hx;rw[all x hx];simp
   ·congr 1;symm;rw[cH];intro x hx;rw[all x hx];rfl
def EI (L:List Cp) (ks:List Int):List Cp:=L.filter (λz=> !decide ((z.num:Int)∈ks))
def zR (L:List E) (ks:List Int):List E:=L.filter (λe=> !decide (e.1∈ks))
theorem K4 (L:List Cp):EI L []=L:=by unfold EI;exact cH.2 (λ_ _=>by simp)
theorem CZ (L:List E):zR L []=L:=by unfold zR;exact cH.2 (λ_ _=>by simp)
theorem GZ (L:List Cp) (k:Int) (ks:List Int):EI (K1 L k) ks=EI L (k::ks):=by
 unfold EI K1;rw[List.filter_filter];apply fF
 intro x _;by_cases h1:(x.num:Int)=k
 ·simp[h1]
 ·by_cases h2:(x.num:Int)∈ks<;>simp[h1,h2]
theorem zS (L:List E) (k:Int) (ks:List Int):zR (iH L k) ks=zR L (k::ks):=by
 unfold zR iH;rw[List.filter_filter];apply fF
 intro x _;by_cases h1:x.1=k
 ·simp[h1]
 ·by_cases h2:x.1∈ks<;>simp[h1,h2]
theorem NF: ∀(ks:List Int) (s:CF),ks.foldl tL s= { s with L:=EI s.L ks,E1:=zR s.E1 ks,E2:=zR s.E2 ks,over:=s.over+ks.length }
 | [],s=>by rw[K4,CZ,CZ];rfl
 |k::ks,s=>by
  rw[List.foldl_cons,NF ks];unfold tL PH;dsimp only;rw[GZ,zS,zS,bj];congr 1;omega
theorem G0: ∀(ks:List Int) (s:CF),ks.foldl AR s= { s with L:=EI s.L ks,E1:=zR s.E1 ks,E2:=zR s.E2 ks,gone:=s.gone+ks.length }
 | [],s=>by rw[K4,CZ,CZ];rfl
 |k::ks,s=>by
  rw[List.foldl_cons,G0 ks];unfold AR PH;dsimp only;rw[GZ,zS,zS,bj];congr 1;omega
def xA (L:List Cp) (ks:List Int):List Cp:=L.map (λz=>if(z.num:Int)∈ks then { z with ses:=0,dl:=0 } else z)
theorem NG: ∀(ks:List Int) (s:CF),(∀k∈ks,0<=k)->ks.foldl (λs k=>CY s k.toNat) s= { s with L:=xA s.L ks,E2:=zR s.E2 ks }
 | [],s,_=>by
  rw[CZ];have:xA s.L []=s.L:=by unfold xA;simp
  rw[this];rfl
 |k::ks,s,hp=>by
  rw[List.foldl_cons,NG ks _ (λj hj=>hp j (cM _ hj))];have hk:=hp k (by simp);unfold CY;dsimp only;have e:(k.toNat:Int)=k:=by omega
  rw[e,zS];have:xA (zQ s.L k.toNat 0 0) ks=xA s.L (k::ks):=by
   unfold xA zQ;rw[fG];apply fV
   intro x _;show(λz:Cp=>if(z.num:Int)∈ks then({ z with ses:=0,dl:=0 } :Cp) else z) (if x.num=k.toNat then({ x with ses:=0,dl:=0 } :Cp) else x)=_;by_cases h1:x.num=k.toNat
   ·have h1':(x.num:Int)=k:=by omega
    rw[ag h1,ag (show(x.num:Int)∈k::ks by rw[h1'];simp)];dsimp only;split<;>rfl
   ·have h1':(x.num:Int)≠k:=by omega
    rw[ai h1];dsimp only;by_cases h2:(x.num:Int)∈ks
    ·rw[ag h2,ag (cM _ h2)]
    ·rw[ai h2,ai (by simp[h1',h2])]
  rw[this]
theorem Xt: ∀(ks:List Int) (L:List Cp),(L.map Cp.num).Nodup->ks.Nodup->(∀k∈ks,∃z∈L,(z.num:Int)=k)->(EI L ks).length+ks.length=L.length
 | [],L,_,_,_=>by rw[K4];rfl
 |k::ks,L,nd,nk,hk=>by
  obtain⟨z,hz,rfl⟩:=hk k (by simp);rw[<-GZ,bj];have h1:=FJ nd hz;have nk':=gu.1 nk;have h2:=Xt ks (K1 L (z.num:Int)) (gM (iD _ cU) nd) nk'.2 (λj hj=>by
   obtain⟨y,hy,e⟩:=hk j (cM _ hj);exact⟨y,xy.2 ⟨hy,λe2=>nk'.1 (by rw[<-e2,e];exact hj)⟩,e⟩)
  omega
theorem xB {L:List Cp} {ks:List Int} {z:Cp} :z∈EI L ks↔z∈L/\(z.num:Int)∉ks:=by unfold EI;simp[aY]
theorem K5 {L:List E} {ks:List Int} {e:E} :e∈zR L ks↔e∈L/\e.1∉ks:=by unfold zR;simp[aY]
theorem aaS {L:List Cp} {ks:List Int} {z:Cp} :z∈xA L ks↔ ∃y∈L,z=if(y.num:Int)∈ks then { y with ses:=0,dl:=0 } else y:=by
 unfold xA;rw[bn];exact⟨λ⟨y,h1,h2⟩=>⟨y,h1,h2.symm⟩,λ⟨y,h1,h2⟩=>⟨y,h1,h2.symm⟩⟩
theorem adx (O:Ord s) (x:Ev):((vp s.L x).map (λz=>(z.num:Int))).Nodup:=by
 have:((vp s.L x).map Cp.num).Nodup:=gM (iD _ cU) O.nd;have e:(vp s.L x).map (λz=>(z.num:Int))=((vp s.L x).map Cp.num).map (λn:Nat=>(n:Int)):=by rw[fG];rfl
 rw[e];exact List.Pairwise.map _ (λa b h=>by omega) this
theorem BP.outs (ok:BP s) (O:Ord s) {ks:List Int} (nk:ks.Nodup) (hk: ∀k∈ks,∃z∈s.L,(z.num:Int)=k) (hL:s'.L=EI s.L ks) (h1:s'.E1=zR s.E1 ks) (h2:s'.E2=zR s.E2 ks) (hn:s'.next=s.next) (hc:s'.iQ+s'.over+s'.gone=s.iQ+s.over+s.gone+ks.length):BP s':=by
 refine⟨λy hy=> ?_,λy hy=> ?_,λe=> ?_,λe=> ?_,?_⟩
 ·rw[hL,xB] at hy;rw[hn];exact ok.bd y hy.1
 ·rw[hL,xB] at hy;exact ok.sp y hy.1
 ·rw[h1,K5,ok.e1,hL];constructor
  ·rintro⟨⟨y,hy,rfl⟩,kA⟩;exact⟨y,xB.2 ⟨hy,kA⟩,rfl⟩
  ·rintro⟨y,hy,rfl⟩;have:=xB.1 hy;exact⟨⟨y,this.1,rfl⟩,this.2⟩
 ·rw[h2,K5,ok.e2,hL];constructor
  ·rintro⟨⟨y,hy,hs,rfl⟩,kA⟩;exact⟨y,xB.2 ⟨hy,kA⟩,hs,rfl⟩
  ·rintro⟨y,hy,hs,rfl⟩;have:=xB.1 hy;exact⟨⟨y,this.1,hs,rfl⟩,this.2⟩
 ·have:=Xt ks s.L O.nd nk hk;have:=ok.KD;rw[hn,hL];omega
theorem BP.drop (ok:BP s) (O:Ord s) (x:Ev):BP (Ii s x):=by
 unfold Ii;rw[G0];refine ok.outs O (adx O x) (λk hk=> ?_) rfl rfl rfl rfl (by show s.iQ+s.over+(s.gone+_)=_;omega);obtain⟨z,hz,e⟩:=bn.1 hk;exact⟨z,(aY.1 hz).1,e⟩
theorem Jf (O:Ord s) {e:E} :e∈cp.due s.E1 now↔e∈s.E1/\e.2<=now:=by
 rw[(jj O.o1).1,aY];unfold pR;simp
theorem aaT (O:Ord s) (now:Int):(keys (cp.due s.E1 now)).Nodup:=by
 unfold keys;exact gM (iD _ (List.takeWhile_sublist _)) O.n1
theorem PJ (ok:BP s) (O:Ord s) {z:Cp} (hz:z∈s.L):(z.num:Int)∈keys (cp.due s.E1 now)↔(z.cF:Int)<=now:=by
 unfold keys;rw[bn];constructor
 ·rintro⟨e,he,e1⟩;obtain⟨h1,h2⟩:=(Jf O).1 he;obtain⟨y,hy,rfl⟩:=(ok.e1 e).1 h1;obtain rfl:=O.inj hy hz (Int.ofNat.inj e1);exact h2
 ·intro h;exact⟨(z.num,z.cF),(Jf O).2 ⟨(ok.e1 _).2 ⟨z,hz,rfl⟩,h⟩,rfl⟩
theorem akp (ok:BP s) (O:Ord s) {k:Int} (hk:k∈keys (cp.due s.E1 now)): ∃z∈s.L,(z.num:Int)=k:=by
 unfold keys at hk;obtain⟨e,he,rfl⟩:=bn.1 hk;obtain⟨z,hz,rfl⟩:=(ok.e1 e).1 ((Jf O).1 he).1;exact⟨z,hz,rfl⟩
theorem aaU (O:Ord s):zR (cp.rest s.E1 now) (keys (cp.due s.E1 now))=zR s.E1 (keys (cp.due s.E1 now)):=by
 rw[(jj O.o1).1,(jj O.o1).2];unfold zR keys;rw[List.filter_filter];apply fF
 intro e he;by_cases hd:pR now e=true
 ·have:e.1∈(s.E1.filter (pR now)).map (·.1):=bB (aY.2 ⟨he,hd⟩);simp only[this,decide_true,dW,gK]
 ·simp[hd]
def uk (now:Int) (z:Cp):Cp:=if z.ses≠0/\(z.dl:Int)<=now then { z with ses:=0,dl:=0 } else z
def ady (s:CF) (now:Int):CF:= { L:=EI s.L (keys (cp.due s.E1 now)),next:=s.next,iQ:=s.iQ,over:=s.over+(keys (cp.due s.E1 now)).length,gone:=s.gone,E1:=zR s.E1 (keys (cp.due s.E1 now)),E2:=zR s.E2 (keys (cp.due s.E1 now)) }
def adz (s1:CF) (now:Int):CF:=(keys (cp.due s1.E2 now)).foldl (λs k=>CY s k.toNat) { s1 with E2:=cp.rest s1.E2 now }
theorem adA (O:Ord s):oH s now=adz (ady s now) now:=by
 unfold oH adz ady;dsimp only;rw[NF];dsimp only;rw[aaU O]
theorem NH (ok:BP s) (O:Ord s) (now:Int):BP (oH s now)/\(∀z,z∈(oH s now).L↔ ∃y∈s.L,now<(y.cF:Int)/\z=uk now y)/\(oH s now).next=s.next/\(oH s now).E1.length<=s.E1.length/\(oH s now).E2.length<=s.E2.length/\(oH s now).L=(s.L.filter (λy=>decide (now<(y.cF:Int)))).map (uk now)/\(oH s now).iQ=s.iQ/\(oH s now).over=s.over+(cp.due s.E1 now).length/\(oH s now).gone=s.gone:=by
 rw[adA O];generalize EY:ady s now=s1;have ok1:BP s1:=by
  subst EY;exact ok.outs O (aaT O now) (λk hk=>akp ok O hk) rfl rfl rfl rfl (by show s.iQ+(s.over+_)+s.gone=_;omega)
 have O1:Ord s1:=by
  subst EY;exact⟨gM (iD _ cU) O.nd,iK _ O.o1,iK _ O.o2,gM (iD _ cU) O.n1,gM (iD _ cU) O.n2⟩
 have m1: ∀z,z∈s1.L↔z∈s.L/\now<(z.cF:Int):=λz=>by
  subst EY;show z∈EI _ _↔_;rw[xB];constructor
  ·rintro⟨h1,h2⟩;exact⟨h1,Int.not_le.1 (λe=>h2 ((PJ ok O h1).2 e))⟩
  ·rintro⟨h1,h2⟩;exact⟨h1,λe=>absurd ((PJ ok O h1).1 e) (Int.not_le.2 h2)⟩
 have n1:s1.next=s.next:=by subst EY;rfl
 have l1:s1.E1.length<=s.E1.length:=by subst EY;exact cI _ _
 have l2:s1.E2.length<=s.E2.length:=by subst EY;exact cI _ _
 have c1:s1.iQ=s.iQ/\s1.over=s.over+(cp.due s.E1 now).length/\s1.gone=s.gone:=by subst EY;exact⟨rfl,by show s.over+(keys _).length=_;unfold keys;rw[aN],rfl⟩
 have L1:s1.L=s.L.filter (λy=>decide (now<(y.cF:Int))):=by
  subst EY;show EI _ _=_;unfold EI;refine fF λz hz=> ?_
  have:=PJ (now:=now) ok O hz;by_cases hd:(z.cF:Int)<=now
  ·rw[ay (this.2 hd),decide_eq_false (Int.not_lt.2 hd)];rfl
  ·rw[decide_eq_false (λe=>hd (this.1 e)),ay (Int.not_le.1 hd)];rfl
 clear EY;have dm: ∀e,e∈cp.due s1.E2 now↔e∈s1.E2/\e.2<=now:=λe=>by
  rw[(jj O1.o2).1,aY];unfold pR;simp
 have dn: ∀z∈s1.L,((z.num:Int)∈keys (cp.due s1.E2 now)↔z.ses≠0/\(z.dl:Int)<=now):=λz hz=>by
  unfold keys;rw[bn];constructor
  ·rintro⟨e,he,e1⟩;obtain⟨h1,h2⟩:=(dm e).1 he;obtain⟨y,hy,hs,rfl⟩:=(ok1.e2 e).1 h1;obtain rfl:=O1.inj hy hz (Int.ofNat.inj e1);exact⟨hs,h2⟩
  ·rintro⟨h1,h2⟩;exact⟨(z.num,z.dl),(dm _).2 ⟨(ok1.e2 _).2 ⟨z,hz,h1,rfl⟩,h2⟩,rfl⟩
 have dp: ∀k∈keys (cp.due s1.E2 now),0<=k:=λk hk=>by
  unfold keys at hk;obtain⟨e,he,rfl⟩:=bn.1 hk;obtain⟨z,hz,_,rfl⟩:=(ok1.e2 e).1 ((dm e).1 he).1;show(0:Int)<=(z.num:Int);omega
 unfold adz;rw[NG _ _ dp];have fz: ∀z∈s1.L,(if(z.num:Int)∈keys (cp.due s1.E2 now) then({ z with ses:=0,dl:=0 } :Cp) else z)=uk now z:=λz hz=>by
  unfold uk;by_cases hd:z.ses≠0/\(z.dl:Int)<=now
  ·rw[ag hd,ag ((dn z hz).2 hd)]
  ·rw[ai hd,ai (λe=>hd ((dn z hz).1 e))]
 have fm: ∀z,z∈xA s1.L (keys (cp.due s1.E2 now))↔ ∃y∈s1.L,z=uk now y:=λz=>by
  rw[aaS];constructor
  ·rintro⟨y,hy,rfl⟩;exact⟨y,hy,fz y hy⟩
  ·rintro⟨y,hy,rfl⟩;exact⟨y,hy,(fz y hy).symm⟩
 have akq: ∀y,(uk now y).num=y.num:=λy=>by unfold uk;split<;>rfl
 have ait: ∀y,(uk now y).cF=y.cF:=λy=>by unfold uk;split<;>rfl
 have fd: ∀y,(uk now y).d=y.d:=λy=>by unfold uk;split<;>rfl
 refine⟨⟨λz hz=> ?_,λz hz=> ?_,λe=> ?_,λe=> ?_,?_⟩,λz=> ?_,n1,l1,?_,?_,c1⟩
 ·obtain⟨y,hy,rfl⟩:=(fm z).1 hz;rw[akq,fd];exact ok1.bd y hy
 ·obtain⟨y,hy,rfl⟩:=(fm z).1 hz;unfold uk;split
  ·exact ga _
  ·exact ok1.sp y hy
 ·show e∈s1.E1↔ ∃z∈xA _ _,_;rw[ok1.e1];constructor
  ·rintro⟨y,hy,rfl⟩;exact⟨_,(fm _).2 ⟨y,hy,rfl⟩,by rw[akq,ait]⟩
  ·rintro⟨z,hz,rfl⟩;obtain⟨y,hy,rfl⟩:=(fm z).1 hz;exact⟨y,hy,by rw[akq,ait]⟩
 ·show e∈zR (cp.rest s1.E2 now) _↔ ∃z∈xA _ _,_;rw[K5,(jj O1.o2).2,aY];constructor
  ·rintro⟨⟨h1,h2⟩,h3⟩;obtain⟨y,hy,hs,rfl⟩:=(ok1.e2 e).1 h1;have hd: ¬(y.ses≠0/\(y.dl:Int)<=now):=λhd=>h3 ((dn y hy).2 hd)
   refine⟨_,(fm _).2 ⟨y,hy,rfl⟩,?_⟩;unfold uk;rw[ai hd];exact⟨hs,rfl⟩
  ·rintro⟨z,hz,hs,rfl⟩;obtain⟨y,hy,rfl⟩:=(fm z).1 hz;unfold uk at hs⊢;by_cases hd:y.ses≠0/\(y.dl:Int)<=now
   ·rw[ag hd] at hs;exact absurd rfl hs
   ·rw[ai hd] at hs⊢;refine⟨⟨(ok1.e2 _).2 ⟨y,hy,hs,rfl⟩,?_⟩,λhk=>hd ((dn y hy).1 hk)⟩;have: ¬(y.dl:Int)<=now:=λe=>hd ⟨hs,e⟩
    unfold pR;simpa using this
 ·have:=ok1.KD;show s1.next=1+(xA _ _).length+_+_+_;unfold xA;rw[aN];exact this
 ·show z∈xA _ _↔_;rw[fm];constructor
  ·rintro⟨y,hy,rfl⟩;have:=(m1 y).1 hy;exact⟨y,this.1,this.2,rfl⟩
  ·rintro⟨y,hy,hn,rfl⟩;exact⟨y,(m1 y).2 ⟨hy,hn⟩,rfl⟩
 ·refine dv (cI _ _) (dv (K3 _ _) l2)
 ·show xA _ _=_;rw[<-L1];exact fV fz
end hU
end
section
variable {h:aj} {R:iI}
theorem Co.walk {w9:Bool} {xa:Int} {x_2:Int} {Ka:ByteArray} {x_4:ByteArray} (hv:aV h (.cells #[.bool w9,.U xa,.U x_2,.string Ka,.string x_4] T.az) λb aR=>Hs aR b 3 λt4=>(((⟨#[47,47]⟩:ByteArray).size+t4.size:Nat):Int)<=IntKind.max .i64/\((((⟨#[47,47]⟩:ByteArray)++t4).size+(⟨#[47]⟩:ByteArray).size:Nat):Int)<=IntKind.max .i64/\Hs aR b 4 λt8=>(((((⟨#[47,47]⟩:ByteArray)++t4)++(⟨#[47]⟩:ByteArray)).size+t8.size:Nat):Int)<=IntKind.max .i64/\R (.string ((((⟨#[47,47]⟩:ByteArray)++t4)++(⟨#[47]⟩:ByteArray))++t8)) aR):Cl F.Co #[.agg #[.bool w9,.U xa,.U x_2,.string Ka,.string x_4]] h R:=aS (lq ll) Tryz.func136 hv
end
section
namespace qI
variable {h h':aj} {R:iI}
theorem DA (a b:List UInt8):str a++str b=str (a++b):=by
 unfold str;apply ByteArray.ext
 rw[ByteArray.data_append];simp
theorem C2 (a:List UInt8):(str a).size=a.length:=by unfold str;rfl
theorem FP (s:ByteArray):s=str s.data.toList:=(abO s).symm
theorem zT (s:ByteArray):s.data.toList.length=s.size:=by rw[fT];rfl
theorem aqC:IntKind.max .i64=9223372036854775807:=rfl
theorem agj (x:Ev) (h1:x.host.size<=1000) (h2:x.sM.size<=1000) (hk: ∀h',Fr No h h'->R (.string (str ([47,47]++x.host.data.toList++ [47]++x.sM.data.toList))) h'):Cl F.Co #[uG x] h R:=by
 refine Co.walk (az.box λb h3 eb hb f3=>⟨_,af hb rfl,?_⟩);have e1:(⟨#[47,47]⟩:ByteArray)=str [47,47]:=rfl;have e2:(⟨#[47]⟩:ByteArray)=str [47]:=rfl;have l1:=zT x.host;have l2:=zT x.sM;have K:=hk h3 f3;rw[e1,e2,aqC];refine⟨?_,?_,_,af hb rfl,?_,?_⟩
 ·rw[C2];simp;omega
 ·rw[FP x.host,DA,C2,C2];simp;omega
 ·rw[FP x.host,DA,DA,C2];simp;omega
 ·rw[FP x.host,FP x.sM,DA,DA,DA];exact K
def an3 (x:Ev):List UInt8:=
 if x=.zero then [100,116,110,58,110,111,110,101]
 else if x.vD=true then [105,112,110,58]++Lib.decDigits x.node.toNat++ [46]++Lib.decDigits x.l6.toNat
 else [100,116,110,58]++([47,47]++x.host.data.toList++ [47]++x.sM.data.toList)
end qI
end
section
open Go.jH Go.rN
namespace hU
open qI cp vf
variable {h h':aj} {R:iI} {t:Nat} {X:Ft} {s:CF} {m a1 a2:Nat} {xs:List CV} {S1 S2:Nat→Prop} {fX:Nat→Option Nat} {p:bU} {n:Nat}
structure okZ (z:Cp):Prop where
 r:dj z.e=true
 v:0<=z.e.l6
 d:z.d.length<=600
 n:z.num<=1000000
 t:z.cF<=1099511627776
 s0:0<=z.ses
 s1:z.ses<=1099511627776
 l:z.dl<=1099511627776
abbrev PK (y:CV):List Value:= [.int .i64 (y.num:Int),.bool y.e.vD,.int .u64 y.e.node,.int .u64 y.e.l6,.string y.e.host,.string y.e.sM,y.v.val,.int .u64 (y.cF:Int),.int .i64 y.ses,.int .u64 (y.dl:Int)]
theorem lh (y:CV):(PK y).length=10:=rfl
theorem akr (y:CV): ∀v∈PK y,jg v=true:=by
 intro v hv;simp only[PK,bP,List.not_mem_nil,or_false] at hv;rcases hv with rfl|rfl|rfl|rfl|rfl|rfl|rfl|rfl|rfl|rfl<;>rfl
theorem tA:Ao Tryz.prog T.rD T.aJ 10 112 (.agg #[.I 0,.bool false,.U 0,.U 0,.string ⟨#[]⟩,.string ⟨#[]⟩,.Z,.U 0,.I 0,.U 0]):=⟨by kernel_rfl,by kernel_rfl,rfl⟩
theorem uA:Tryz.prog.underlying T.rD=some (.slice T.aJ):=by kernel_rfl
theorem Xu (H:Ct h t X s) (sm:Small s) (hd: ∀z∈s.L,z.d.length<=600) (hk: ∀h' p' c' (ys:List CV),iR h' p' ys.length c' 10 (ys.flatMap PK)->ys.map CV.abs=s.L->(∀y∈ys,BV.ok h' (λz=>h.size<=z) y.v)->(∀y,aQ p' y->h.size<=y)->Fr No h h'->R (.slice p' ys.length c') h'):Cl F.lU #[.P t 0] h R:=by
 obtain⟨m,xs,a1,S1,a2,S2,fX,H⟩:=H;have sl:=sm.l;have xl:=H.len;refine lU.walk (K0 H (by omega) λh1 p1 c1 o1 n1 f1=>⟨_,_,_,rfl,?_⟩);refine⟨λop ol oc q g=> ∃(k:Nat) (ys:List CV),q=(k:Int)/\k<=xs.length/\ol=ys.length/\ys.length=k/\iR g op ol oc 10 (ys.flatMap PK)/\(∀y,aQ op y->h1.size<=y)/\ys.map CV.abs=s.L.take k/\(∀y∈ys,BV.ok g (λz=>h1.size<=z) y.v)/\(∀y∈ys,∀z,aQ y.v.p z->y.v.b≠ []->¬aQ op z)/\Fr No h1 g,λ_ _ _ q _=>xs.length - q.toNat,
  ⟨0, [],rfl,by omega,rfl,rfl,.nil rfl rfl rfl rfl,(λy ⟨a,e,_⟩=>by cases e),by simp,(λy hy=>by cases hy),(λy hy=>by cases hy),Fr.refl _ _⟩,?_⟩
 rintro op ol oc _ g ⟨k,ys,rfl,hkn,rfl,hyl,o,QJ,hab,K6,an4,fg⟩;have Gg:=H.on (f1.tt fg);by_cases jc:k<xs.length
 ·have q1:(k:Int)<(xs.length:Int):=by omega
  simp only[q1,decide_true,bA,aL];have hx:xs[k]? =some xs[k]:=au jc;generalize xs[k]=v at hx;have hLk:s.L[k]? =some v.abs:=by rw[<-H.abs,aO,hx];rfl
  have hv:=bt hx;have hvd:v.v.b.length<=600:=hd v.abs (bt hLk);have og:=o1.frame fg (λ_ _=>id);obtain⟨ab,AG,rfl⟩:=og.addr (by omega);have cn:=og.cell (j:=k) (v:=jJ (v.num:Int)) (by unfold tW;rw[fG,aO,hx];rfl);have aqD:=Gg.Sj v hv;refine⟨⟨by first|trivial|omega,by first|trivial|omega⟩,aB.2 ⟨_,by rw[cN];exact cn,_,af Gg.dE rfl,_,look Gg hv,aB.2 (aJ.ld aqD (aJ.new λb2 h2 e2 fI f2=>⟨_,_,_,af fI rfl,my ((Gg.PA v hv).row.frame f2 (λ_ _=>id)) rfl (by omega) λp3 c3 h3 o3 f3 n3=>⟨_,_,_,rfl,?_⟩⟩))⟩⟩;have kR:=f3.get fI id;refine bL kR (by simp) λh4 a4 s4 o4=> ?_
  have f4:Fr (λy=>y=b2) h3 h4:=⟨by omega,λy _ hn=>o4 y hn⟩;have lb2:=aI fI;have a4':aJ.at h4 b2 (v.num:Int) v.e.vD v.e.node v.e.l6 v.e.host v.e.sM p3 v.v.b.length c3 (v.cF:Int) v.ses (v.dl:Int):=a4;refine aJ.ld a4' ?_;have zg:=fg.1;have z2:=f2.1;have z3:=f3.1;have F4:Fr No g h4:=(f2.tt f3).fresh f4 (λy e=>by omega);have oo:=o.frame F4 (λ_ _=>id);refine qa tA uA oo rfl (λw hw=>akr ({ v with v:=⟨p3,c3,v.v.b⟩ } :CV) w (by simpa using hw)) (by omega) (by omega) λp5 c5 h5 o5 f5 g5=>⟨_,_,_,rfl,?_⟩
  have z4:=F4.1;have z5:=f5.1;rw[bK (by omega) (by omega)];have o3':iR h4 p3 v.v.b.length c3 1 (bc v.v.b):=o3.frame f4 (λy hy e=>by have:=n3 y hy;omega);have n3': ∀y,aQ p3 y->g.size<=y/\y<h4.size:=λy hy=>⟨by have:=n3 y hy;omega,o3'.gm hy⟩
  have opl: ∀y,aQ op y->y<g.size:=λy hy=>o.gm hy
  refine⟨⟨k+1,ys++ [{ v with v:=⟨p3,c3,v.v.b⟩ }],by omega,by omega,by rw[aF];rfl,by rw[aF];show ys.length+1=_;omega,?_,λy hy=>(g5 y hy).elim (QJ y) (λh1=>by omega),?_,?_,?_,(fg.tt F4).fresh f5 QJ⟩,by show xs.length - Int.toNat ((k:Int)+1)<xs.length - k;omega⟩
  ·rw[dI];simpa using o5
  ·rw[bm,hab,bY,hLk];rfl
  ·intro y hy;rcases bT.1 hy with hy|hy
   ·have r1:=(K6 y hy).row.frame F4 (λ_ _=>id);refine⟨?_,(K6 y hy).own,(K6 y hy).cap⟩;by_cases kA:y.v.b= []
    ·rw[kA];exact Row.nil
    ·exact r1.frame f5 (λa ea hq=>an4 y hy a.block ⟨a,ea,rfl⟩ kA hq)
   ·obtain rfl:=bV.1 hy;exact BV.wL (o3'.frame f5 (λy hy hq=>by have:=n3' y hy;have:=opl y hq;omega)) (λy hy=>by have:=n3' y hy;omega)
  ·intro y hy z hz kA hq;rcases bT.1 hy with hy|hy
   ·rcases g5 z hq with h1|h1
    ·exact an4 y hy z hz kA h1
    ·have:=qN (K6 y hy).row (by intro e;apply kA;have:=bp List.length e;rw[sU] at this;exact List.length_eq_zero_iff.1 this) hz;omega
   ·obtain rfl:=bV.1 hy;rcases g5 z hq with h1|h1
    ·have:=(n3' z hz).1;have:=opl z h1;omega
    ·have:=(n3' z hz).2;omega
 ·have q1: ¬(k:Int)<(xs.length:Int):=by omega
  simp only[q1,decide_false,aA,aU];rw[bR (by omega)] at hab;have z1:=f1.1;exact hk g op oc ys o hab (λy hy=>⟨(K6 y hy).row,λe z hz=>by have:=(K6 y hy).own e z hz;omega,(K6 y hy).cap⟩) (λy hy=>by have:=QJ y hy;omega) (f1.tt fg)
theorem PL (H:Ct h t X s) (sm:Small s) (hd: ∀z∈s.L,z.d.length<=600) (hk: ∀h' p' c' (ys:List CV),iR h' p' ys.length c' 10 (ys.flatMap PK)->ys.map CV.abs=s.L->(∀y∈ys,Row h' y.v.p (bc y.v.b))->Fr No h h'->R (.slice p' ys.length c') h'):Cl F.lU #[.P t 0] h R:=
 Xu H sm hd λh' p' c' ys o e r _ f=>hk h' p' c' ys o e (λy hy=>(r y hy).row) f
def Vk (L:List Cp) (x:Ev):Nat:=((vp L x).filter (λz=>decide (z.ses=0))).length
theorem adB (H:Ct h t X s) (sm:Small s) (x:Ev) (hk: ∀h',Fr No h h'->R (.I (Vk s.L x:Int)) h'):Cl F.mj #[.P t 0,uG x] h R:=by
 obtain⟨m,xs,a1,S1,a2,S2,fX,H⟩:=H;have sl:=sm.l;have xl:=H.len;refine mj.walk (az.box λb h1 eb hb f1=>az.ld hb (Ns (H.on f1) x (by omega) λh2 p2 c2 o2 n2 f2=>⟨_,_,_,rfl,?_⟩));have F2:=f1.tt f2;generalize hys:xs.filter (λy=>decide (y.e=x))=ys at o2⊢;have qY: ∀y∈ys,y∈xs:=λy hy=>by rw[<-hys] at hy;exact(aY.1 hy).1
 have hab:ys.map CV.abs=vp s.L x:=by unfold vp;rw[<-H.abs,eK,<-hys];rfl
 have yl:ys.length<=50000:=by rw[<-hys];exact dv (cI _ _) (by omega)
 refine⟨λn q g=> ∃k:Nat,q=(k:Int)/\k<=ys.length/\n=((((ys.take k).map CV.abs).filter (λz=>decide (z.ses=0))).length:Int)/\g=h2,λ_ q _=>ys.length - q.toNat,⟨0,rfl,by omega,by simp,rfl⟩,?_⟩;rintro _ _ _ ⟨k,rfl,hkn,rfl,rfl⟩;have hle:(((ys.take k).map CV.abs).filter (λz=>decide (z.ses=0))).length<=k:=dv (cI _ _) (by rw[aN,bQ];omega);have Gg:=H.on F2;by_cases jc:k<ys.length
 ·have q1:(k:Int)<(ys.length:Int):=by omega
  simp only[q1,decide_true,bA,aL];have hx:ys[k]? =some ys[k]:=au jc;generalize ys[k]=v at hx;have hv:=qY v (bt hx);obtain⟨ab,AG,rfl⟩:=o2.addr (by omega);have cn:=o2.cell (j:=k) (v:=jJ (v.num:Int)) (by unfold tW;rw[fG,aO,hx];rfl);have e1:(((ys.take (k+1)).map CV.abs).filter (λz=>decide (z.ses=0))).length=(((ys.take k).map CV.abs).filter (λz=>decide (z.ses=0))).length+if v.ses=0 then 1 else 0:=by
   rw[bY,hx,bm,iE,aF];congr 1
   by_cases hs:v.ses=0
   ·have:v.abs.ses=0:=hs;simp[hs,this]
   ·have: ¬v.abs.ses=0:=hs;simp[hs,this]
  refine aK.of λJ hJ=>⟨⟨by first|trivial|omega,by first|trivial|omega⟩,aB.2 ⟨_,by rw[cN];exact cn,_,af Gg.dE rfl,_,look Gg hv,aB.2 ⟨_,af (Gg.Sj v hv) rfl,aK.of λJ1 pA=> ?_⟩⟩⟩
  subst pA;subst hJ;dsimp only;rw[bK (n:=(k:Int)+1) (by omega) (by omega)];by_cases hs:v.ses=0
  ·rw[ag (by simpa using hs),bK (by omega) (by omega)];rw[ag hs] at e1;exact⟨⟨k+1,by omega,by omega,by omega,rfl⟩,by show ys.length - Int.toNat ((k:Int)+1)<ys.length - k;omega⟩
  ·rw[ai (by simpa using hs)];rw[ai hs] at e1;exact⟨⟨k+1,by omega,by omega,by omega,rfl⟩,by show ys.length - Int.toNat ((k:Int)+1)<ys.length - k;omega⟩
 ·have q1: ¬(k:Int)<(ys.length:Int):=by omega
  simp only[q1,decide_false,aA,aU];rw[bR (by omega),hab];exact hk _ F2
end hU
end
section
open Go.rN
namespace hU
open qI
structure OP where
 kind:Int
 num:Int
 ses:Int
 e:Ev
 p:bU
 c:Nat
 b:List UInt8
 cF:Nat
end hU
end
section
open Go.jH Go.rN
namespace hU
open qI cp vf
variable {s s':CF} {k:Nat} {f:OP}
theorem Xv {α:Type} [DecidableEq α]: ∀ {l1 l2:List α},l1.Nodup->(∀a∈l1,a∈l2)->l1.length<=l2.length
 | [],_,_,_=>cj _
 |a::l,l2,h,hs=>by
  obtain⟨h1,h2⟩:=gu.1 h;have:=Xv (l1:=l) (l2:=l2.erase a) h2 (λb hb=>(List.mem_erase_of_ne (λe=>h1 (by rw[<-e];exact hb))).2 (hs b (cM _ hb)));have h3:=List.length_erase_of_mem (hs a (by simp));have h4:0<l2.length:=List.length_pos_of_mem (hs a (by simp));rw[bj];omega
theorem aks {α:Type} [DecidableEq α] {l1 l2:List α} (h1:l1.Nodup) (h2:l2.Nodup) (hs: ∀a,a∈l1↔a∈l2):l1.length=l2.length:=
 Nat.le_antisymm (Xv h1 (λa ha=>(hs a).1 ha)) (Xv h2 (λa ha=>(hs a).2 ha))
theorem K7 (ok:BP s) (O:Ord s):s.E2.length=(s.L.filter (λz=>decide (z.ses≠0))).length:=by
 have e:((s.L.filter (λz=>decide (z.ses≠0))).map (λz=>(((z.num:Int),(z.dl:Int)):E))).length=(s.L.filter (λz=>decide (z.ses≠0))).length:=aN ..;rw[<-e];refine aks ?_ ?_ λa=> ?_
 ·have:=O.n2;unfold keys at this;exact(gi.1 this).imp (λh e=>h (bp _ e))
 ·have h1:((s.L.filter (λz=>decide (z.ses≠0))).map Cp.num).Nodup:=gM (iD _ cU) O.nd;exact gi.2 ((gi.1 h1).imp (λh e=>h (Int.ofNat.inj (bp Prod.fst e))))
 ·rw[ok.e2,bn];constructor
  ·rintro⟨z,hz,hs,rfl⟩;exact⟨z,aY.2 ⟨hz,ay hs⟩,rfl⟩
  ·rintro⟨z,hz,rfl⟩;obtain⟨h1,h2⟩:=aY.1 hz;exact⟨z,h1,of_decide_eq_true h2,rfl⟩
theorem okZ.free {z:Cp} (k:okZ z):okZ { z with ses:=0,dl:=0 } :=⟨k.r,k.v,k.d,k.n,k.t,by show(0:Int)<=0;omega,by show(0:Int)<=1099511627776;omega,by show 0<=1099511627776;omega⟩
theorem okZ.Ny {z:Cp} (k:okZ z) {ses:Int} {dl:Nat} (hm:DL ses dl):okZ { z with ses:=ses,dl:=dl } :=⟨k.r,k.v,k.d,k.n,k.t,by have:=hm.1;show 0<=ses;omega,hm.2.1,hm.2.2⟩
structure Good (s:CF) (k:Nat):Prop where
 ok:BP s
 all: ∀z∈s.L,okZ z
 may: ∀z∈s.L,FN z.e z.d.length (z.cF:Int)=true
 fr: ∀z∈s.L,z.ses=0->z.dl=0
 full: ∀e,(vp s.L e).length<=16
 len:s.next<=k+1
theorem Good.nil:Good ⟨[],1,0,0,0, [], []⟩ 0:=⟨⟨(λz hz=>by cases hz),(λz hz=>by cases hz),(λe=>by simp),(λe=>by simp),rfl⟩,(λz hz=>by cases hz),(λz hz=>by cases hz),(λz hz=>by cases hz),λ_=>cj _,bh _⟩
theorem Good.L (G:Good s k):s.L.length<=k/\s.iQ<=k/\s.over<=k/\s.gone<=k:=by
 have:=G.ok.KD;have:=G.len;omega
theorem Good.small (G:Good s k) (O:Ord s) (hk:k<=40000):Small s:=by
 have h1:=G.L;have h2:=G.len;have nd: ∀ {l:List E},(keys l).Nodup->l.Nodup:=fun {l} hn=>(gi.1 hn).imp (λh e=>h (bp _ e))
 have e1:s.E1.length<=s.L.length:=by
  have:=Xv (l2:=s.L.map (λz=>(((z.num:Int),(z.cF:Int)):E))) (nd O.n1) (λe he=>by
   obtain⟨z,hz,rfl⟩:=(G.ok.e1 e).1 he;exact bn.2 ⟨z,hz,rfl⟩)
  rwa[aN] at this
 have e2:s.E2.length<=s.L.length:=by
  rw[K7 G.ok O];exact cI _ _
 exact⟨by omega,by omega,by omega,by omega⟩
theorem Good.held (G:Good s k):Sm s:=λj hj=>by
 unfold keys at hj;obtain⟨e,he,rfl⟩:=bn.1 hj;obtain⟨z,hz,_,rfl⟩:=(G.ok.e2 e).1 he;exact⟨z,hz,rfl⟩
theorem Good.more (G:Good s k):Good s (k+1):=⟨G.ok,G.all,G.may,G.fr,G.full,by have:=G.len;omega⟩
theorem Good.sub (G:Good s k) (TR:BP s') (P:Cp->Bool) (g:Cp->Cp) (hg: ∀z,(g z).e=z.e/\(g z).d=z.d/\(g z).cF=z.cF) (hz: ∀z∈s.L,okZ (g z)/\((g z).ses=0->(g z).dl=0)) (hL:s'.L=(s.L.filter P).map g) (hn:s'.next=s.next):Good s' (k+1):=by
 have mem: ∀z∈s'.L,∃y∈s.L,z=g y:=λz hz=>by
  rw[hL] at hz;obtain⟨y,hy,rfl⟩:=bn.1 hz;exact⟨y,(aY.1 hy).1,rfl⟩
 refine⟨TR,λz h=> ?_,λz h=> ?_,λz h=> ?_,λe=> ?_,by have:=G.len;omega⟩
 ·obtain⟨y,hy,rfl⟩:=mem z h;exact(hz y hy).1
 ·obtain⟨y,hy,rfl⟩:=mem z h;rw[(hg y).1,(hg y).2.1,(hg y).2.2];exact G.may y hy
 ·obtain⟨y,hy,rfl⟩:=mem z h;exact(hz y hy).2
 ·have h1:vp s'.L e=(vp (s.L.filter P) e).map g:=by
   rw[hL];unfold vp;rw[eK];congr 1
   refine fF λz _=> ?_
   show decide ((g z).e=e)=decide (z.e=e);rw[(hg z).1]
  rw[h1,aN];exact dv ((List.Sublist.filter _ cU).length_le) (G.full e)
theorem aaV (L:List Cp):L.filter (λ_=>true)=L:=cH.2 λ_ _=>rfl
theorem Good.set (G:Good s k) (TR:BP s') {n:Nat} {ses:Int} {dl:Nat} (h0:DL ses dl\/(ses=0/\dl=0)) (hL:s'.L=zQ s.L n ses dl) (hn:s'.next=s.next):Good s' (k+1):=by
 refine G.sub TR (λ_=>true) (λx=>if x.num=n then { x with ses:=ses,dl:=dl } else x) (λz=>by split<;>exact⟨rfl,rfl,rfl⟩) (λz hz=> ?_) (by rw[aaV];exact hL) hn;split
 ·rcases h0 with h0|⟨rfl,rfl⟩
  ·exact⟨(G.all z hz).Ny h0,λe=>by have:=h0.1;dsimp only at e;omega⟩
  ·exact⟨(G.all z hz).free,λ_=>rfl⟩
 ·exact⟨G.all z hz,G.fr z hz⟩
theorem Good.out (G:Good s k) (TR:BP s') {P:Cp->Bool} (hL:s'.L=s.L.filter P) (hn:s'.next=s.next):Good s' (k+1):=
 G.sub TR P id (λ_=>⟨rfl,rfl,rfl⟩) (λz hz=>⟨G.all z hz,G.fr z hz⟩) (by rw[List.map_id];exact hL) hn
instance (ses : Int) (dl : Nat) : Decidable (DL ses dl) := by unfold DL; infer_instance
def doS (f:OP) (s:CF):CF:=
 if f.kind=0 then si s f.e f.b f.cF
 else if f.kind=1 then(if DL f.ses f.cF then(match tM s.L f.e with|none=>s|some z=>xx s z f.ses f.cF) else s)
 else if f.kind=2 then vX s f.num f.ses
 else if f.kind=3 then IS s f.num f.ses
 else if f.kind=4 then oH s (f.cF:Int)
 else if f.kind=5 then Ii s f.e
 else s
theorem Good.do (G:Good s k) (O:Ord s) (hsv:0<=f.e.l6) (hk:k<=30000):Good (doS f s) (k+1):=by
 unfold doS;split
 ·
  have TR:=G.ok.add f.e f.b f.cF;by_cases h0:ou s f.e f.b f.cF=0
  ·have eF:si s f.e f.b f.cF= { s with L:=s.L++ [⟨s.next,f.e,f.b,f.cF,0,0⟩],next:=s.next+1,E1:=Kw s.E1 (s.next:Int) (f.cF:Int) } :=ag h0;have hm:FN f.e f.b.length (f.cF:Int)=true/\(vp s.L f.e).length<16:=by
    unfold ou at h0;split at h0
    ·rename_i hm;refine⟨hm,?_⟩;split at h0
     ·cases h0
     ·omega
    ·cases h0
   have hp:dj f.e=true/\f.b.length<=600/\f.cF<=1099511627776:=by
    have:=hm.1;unfold FN at this;simp only[aW,Bool.not_eq_true',bf,decide_eq_false_iff_not] at this;exact⟨this.1,by omega,by omega⟩
   have ln:=G.len;rw[eF] at TR⊢;have mem: ∀ {Q:Cp->Prop},(∀z∈s.L,Q z)->Q ⟨s.next,f.e,f.b,f.cF,0,0⟩->∀z∈s.L++ [⟨s.next,f.e,f.b,f.cF,0,0⟩],Q z:=λh1 h2 z hz=>by
    rcases bT.1 hz with hz|hz
    ·exact h1 z hz
    ·obtain rfl:=bV.1 hz;exact h2
   refine⟨TR,mem G.all ⟨hp.1,hsv,hp.2.1,by show s.next<=1000000;omega,hp.2.2,by show(0:Int)<=0;omega,by show(0:Int)<=1099511627776;omega,by show 0<=1099511627776;omega⟩,mem G.may hm.1,mem G.fr (λ_=>rfl),λe=> ?_,by show s.next+1<=_;omega⟩;show(vp (s.L++ [⟨s.next,f.e,f.b,f.cF,0,0⟩]) e).length<=16;unfold vp;rw[iE,aF];have g1:=G.full e;have g2:=hm.2;unfold vp at g1 g2;by_cases he:f.e=e
   ·subst he;simp;omega
   ·simp[he];exact g1
  ·have eF:si s f.e f.b f.cF=s:=ai h0;rw[eF];exact G.more
 split
 ·
  split
  ·rename_i hm;cases hl:tM s.L f.e with
   |none=>exact G.more
   |some z=>exact G.set (G.ok.Ny O (Vj hl).1 hm) (.inl hm) rfl rfl
  ·exact G.more
 split
 ·
  have TR:=G.ok.ack O f.num f.ses;unfold vX at TR⊢;split
  ·rename_i h0;rw[ag h0] at TR;exact G.out TR (P:=λx=> !decide ((x.num:Int)=f.num)) rfl rfl
  ·exact G.more
 split
 ·
  have TR:=G.ok.rel O f.num f.ses;unfold IS at TR⊢;split
  ·rename_i h0;rw[ag h0] at TR;exact G.set TR (.inr ⟨rfl,rfl⟩) rfl rfl
  ·exact G.more
 split
 ·
  obtain⟨h1,_,h3,_,_,h6,_⟩:=NH G.ok O (f.cF:Int);refine G.sub h1 _ (uk (f.cF:Int)) (λz=>by unfold uk;split<;>exact⟨rfl,rfl,rfl⟩) (λz hz=> ?_) h6 h3;unfold uk;split
  ·exact⟨(G.all z hz).free,λ_=>rfl⟩
  ·exact⟨G.all z hz,G.fr z hz⟩
 split
 ·
  have e:=G0 ((vp s.L f.e).map (λz=>(z.num:Int))) s;refine G.out (G.ok.drop O f.e) (P:=λz=> !decide ((z.num:Int)∈(vp s.L f.e).map (λz=>(z.num:Int)))) ?_ ?_
  ·unfold Ii;rw[e];rfl
  ·unfold Ii;rw[e]
 ·exact G.more
end hU
end
end Go.Proofs.YtlenamcfacpheaaGreatDoor
namespace Go.Den
def PM:List Value->Nat->List Value->List Value
 |cs,_, []=>cs
 |cs,p,v::vs=>PM (cs.set p v) (p+1) vs
theorem iR.gY {a:Addr} {len cap sz p:Nat} {K:aj->Prop} : ∀(vs:List Value) (k:Nat) (h:aj) (cs:List Value),iR h (.some a) len cap sz cs->(∀v∈vs,jg v=true)->p+k+vs.length<=cs.length->
  (∀h',iR h' (.some a) len cap sz (PM cs (p+k) vs)->h'.size=h.size->(∀x,¬aQ (.some a) x->h'[x]? =h[x]?)->K h')->Den.gY (a.add p) vs k h K
 | [],k,h,cs,o,_,_,hk=>hk h o rfl (λ_ _=>rfl)
 |v::vs,k,h,cs,o,hv,hl,hk=>by
  rw[bj] at hl;unfold Den.gY;rw[hv v dX];dsimp only;rw[add_add];refine o.store (by omega) λh1 o1 s1 q1=> ?_
  refine iR.gY vs (k+1) h1 _ o1 (λu hu=>hv u (cM _ hu)) (by rw[eU];omega) λh2 o2 s2 q2=>hk h2 ?_ (by omega) (λx hx=>by rw[q2 x hx,q1 x hx])
  unfold PM;rw[show p+k+1=p+(k+1) by omega];exact o2
end Go.Den
namespace Go.Proofs.YtlenamcfacpheaaGreatDoor
open Go.Den
open IntKind (wrap)
open Int (toNat)
section
open Go.jH
namespace j4
open qI vf
variable {r:Rg}
structure okR (r:Rg):Prop where
 rt:nA r=true
 sv:0<=r.e.l6
theorem okR.e (k:okR r):dj r.e=true/\0<=r.uE/\r.uE<=2/\1<=r.own/\r.own<=1099511627776:=by
 have:=k.rt;unfold nA at this;simp only[aW,Bool.not_eq_true',bf,decide_eq_false_iff_not] at this;exact⟨this.1,this.2.2.1.1,this.2.2.1.2,this.2.2.2.1,this.2.2.2.2⟩
end j4
end
section
open Go.jH
namespace j4
open qI vf
variable {L:List Rg}
structure TO (L:List Rg):Prop where
 len:L.length<=8
 all: ∀r∈L,okR r
theorem TO.add (k:TO L) (r:Rg) (hs:0<=r.e.l6):TO (IM L r):=by
 unfold IM;rcases KZ L r with⟨_,e⟩|⟨_,_,e⟩|⟨_,_,_,e⟩|⟨h1,_,h3,e⟩<;>rw[e]
 ·exact k
 ·exact k
 ·exact k
 ·rw[ag rfl];exact⟨by rw[ac6];omega,λz hz=>(Sc.1 hz).elim (λe=>e▸⟨h1,hs⟩) (k.all z)⟩
theorem TO.rem (k:TO L) (x:Ev) (o:Int):TO (KY L x o):=by
 unfold KY;split
 ·exact⟨dv (cI _ _) k.len,λz hz=>k.all z (aY.1 hz).1⟩
 ·exact k
theorem TO.uE (k:TO L) (x:Ev) (o q:Int):TO (Sd L x o q):=by
 unfold Sd;split
 ·rename_i he;have hq:0<=q/\q<=2:=by
   unfold aaJ at he;split at he
   ·assumption
   ·cases he
  refine⟨by unfold U2;rw[aN];exact k.len,λz hz=> ?_⟩;obtain⟨y,hy,rfl⟩:=bn.1 hz;have ky:=k.all y hy;split
  ·refine⟨?_,ky.sv⟩;have h1:=ky.rt;unfold nA at h1⊢;simp only[aW,Bool.not_eq_true',bf,decide_eq_false_iff_not] at h1⊢;exact⟨h1.1,h1.2.1,⟨hq.1,hq.2⟩,h1.2.2.2⟩
  ·exact ky
 ·exact k
end j4
end
section
namespace gJ
open lH (It)
open qI (Ev dj)
variable {σ:SS} {k:Nat}
structure Good (σ:SS) (k:Nat):Prop where
 a:gU.Dw σ.A
 g:j4.TO σ.G
 c:hU.Good σ.C k
 b:σ.B.next<=k+1
 v:σ.B.over<=k
 q:σ.Q=σ.B.items
 ok:DZ σ.Q
 n:σ.now<=1099511627776
 e:dj σ.e=true/\σ.e≠Ev.zero/\0<=σ.e.l6
 t:σ.tm<=1099511627776/\σ.sq<=1099511627776
 r:σ.rf<=k
def G5 (e:Ev):SS:=⟨[], [],⟨[],1,0,0,0, [], []⟩,⟨[],1,0,0,0⟩, [],e,0,0,0,0⟩
theorem Good.new {e:Ev} (h1:dj e=true) (h2:e≠Ev.zero) (h3:0<=e.l6):Good (G5 e) 0:=
 ⟨gU.Dw.nil,⟨cj _,λ_ h=>(by cases h)⟩,hU.Good.nil,bh _,bh _,rfl,DZ.nil,cj _,⟨h1,h2,h3⟩,⟨cj _,cj _⟩,bh _⟩
def Ea (s:lH.BS) (now:Nat):lH.BS:= { s with items:=s.items.filter (λx=>decide ((now:Int)<(x.cF:Int))),over:=s.over+(s.items.filter (λx=>decide ((x.cF:Int)<=(now:Int)))).length }
def C4 (σ:SS) (now:Nat):Int:=if now>1099511627776 then 1 else if now<σ.now then 18 else 0
def NI (σ:SS) (now:Nat):SS:= { σ with C:=hU.oH σ.C (now:Int),B:=Ea σ.B now,Q:=(Ea σ.B now).items,now:=now }
def Sq (σ:SS) (now:Nat):SS:=if C4 σ now=0 then NI σ now else σ
theorem DZ.filter {l:List It} (ok:DZ l) (P:It->Bool):DZ (l.filter P):=by
 induction l with
 |nil=>exact ok
 |cons x l ih=>
  rw[cC];split
  ·obtain⟨a,b,c,d,e,f⟩:=ok;have t1:Hn (l.filter P)<=Hn l:=by
    clear ih f e d;induction l with
    |nil=>exact ga _
    |cons y l ih=>rw[cC,qt];split<;>(try rw[qt])<;>omega
   have t2: ∀o,own (l.filter P) o<=own l o:=λo=>by
    clear ih f e d t1;induction l with
    |nil=>exact ga _
    |cons y l ih=>rw[cC,xm];split<;>(try rw[xm])<;>(try split)<;>omega
   rw[qt] at d e;have n1:=UI (l:=l.filter P);refine⟨a,b,c,by rw[qt];omega,by rw[qt];omega,λk=>⟨UJ,?_⟩⟩;have:=(f k).2;have:=t2 k;rw[xm] at*;omega
  ·exact ih ok.sub
theorem adC {s:hU.CF} (G:hU.Good s k) (O:hU.Ord s) (hk:k<=30000) (now:Nat):hU.Good (hU.oH s (now:Int)) (k+1):=by
 have h:=G.do (f:=⟨4,0,0,Ev.zero,none,0, [],now⟩) O (ga 0) hk;unfold hU.doS at h;exact h
theorem agk {s:hU.CF} (G:hU.Good s k) (O:hU.Ord s) (hk:k<=30000) (e:Ev) (he:0<=e.l6) (d:List UInt8) (cF:Nat):hU.Good (hU.si s e d cF) (k+1):=by
 have h:=G.do (f:=⟨0,0,0,e,none,0,d,cF⟩) O he hk;unfold hU.doS at h;exact h
theorem Good.more (G:Good σ k):Good σ (k+1):=⟨G.a,G.g,G.c.more,by have:=G.b;omega,by have:=G.v;omega,G.q,G.ok,G.n,G.e,G.t,by have:=G.r;omega⟩
theorem Good.pass (G:Good σ k) (O:hU.Ord σ.C) (L:List Go.rN.E) (ok:lH.okB σ.B L) (hk:k<=30000) (now:Nat):Good (Sq σ now) (k+1):=by
 unfold Sq;split
 ·rename_i h;have hn:now<=1099511627776:=by
   unfold C4 at h;split at h
   ·cases h
   ·omega
  have hc:=ok.KD;have hb:=G.b;have hl:(σ.B.items.filter (λx=>decide ((x.cF:Int)<=(now:Int)))).length<=σ.B.items.length:=cI _ _;refine⟨G.a,G.g,adC G.c O hk now,by show σ.B.next<=_;omega,by show σ.B.over+_<=_;omega,rfl,?_,hn,G.e,G.t,by have:=G.r;show σ.rf<=_;omega⟩;show DZ (σ.B.items.filter _);rw[<-G.q];exact G.ok.filter _
 ·exact G.more
abbrev yz (l:List It) (owner:Int) (n:Nat):Bool:=vM.fits 4800 1600 (Hn l) (own l) owner (n:Int)
def IT (σ:SS) (owner:Int) (d:List UInt8) (cF:Nat):Int:=if σ.B.items.length≥16\/yz σ.Q owner d.length=false then 15 else lH.ou σ.B owner d cF
def Vm (σ:SS) (owner:Int) (d:List UInt8) (cF:Nat):Int:=if σ.B.items.length≥16\/yz σ.Q owner d.length=false then 0 else lH.Ml σ.B owner d cF
def zU (σ:SS) (owner:Int) (d:List UInt8) (cF:Nat):SS:=if IT σ owner d cF=0 then { σ with B:=lH.R6 σ.B owner d cF,Q:=(lH.R6 σ.B owner d cF).items } else σ
def NJ (σ:SS) (num owner:Int):SS:= { σ with B:=lH.xp σ.B num owner,Q:=(lH.xp σ.B num owner).items }
theorem DZ.add {l:List It} {x:It} (ok:DZ l) (hf:yz l x.owner x.d.length=true):DZ (l++ [x]):=by
 have h:=vM.Ok.take ok hf;rw[WB,show Hn l+(x.d.length:Int)=Hn (x::l) by rw[qt];omega] at h;exact DZ.perm h (fx _ _).symm
theorem NK {owner:Int} {d:List UInt8} {cF:Nat} (h:IT σ owner d cF=0):yz σ.Q owner d.length=true/\lH.ou σ.B owner d cF=0:=by
 unfold IT at h;split at h
 ·cases h
 ·rename_i h1;cases hf:yz σ.Q owner d.length with
  |false=>exact absurd (.inr hf) h1
  |true=>exact⟨rfl,h⟩
theorem Good.put (G:Good σ k) (owner:Int) (d:List UInt8) (cF:Nat):Good (zU σ owner d cF) (k+1):=by
 unfold zU;split
 ·rename_i h;obtain⟨h1,h2⟩:=NK h;have e:lH.R6 σ.B owner d cF= { σ.B with items:=σ.B.items++ [⟨σ.B.next,owner,d,cF⟩],next:=σ.B.next+1 } :=ag h2;rw[e];refine⟨G.a,G.g,G.c.more,by show σ.B.next+1<=_;have:=G.b;omega,by show σ.B.over<=_;have:=G.v;omega,rfl,?_,G.n,G.e,G.t,by show σ.rf<=_;have:=G.r;omega⟩;show DZ (σ.B.items++ [_]);rw[<-G.q];exact DZ.add G.ok h1
 ·exact G.more
theorem Vn {s:lH.BS} {num owner:Int} : ∃P:It->Bool,(lH.xp s num owner).items=s.items.filter P/\(lH.xp s num owner).next=s.next/\(lH.xp s num owner).over=s.over:=by
 unfold lH.xp;split
 ·exact⟨_,rfl,rfl,rfl⟩
 ·exact⟨λ_=>true,(cH.2 λ_ _=>rfl).symm,rfl,rfl⟩
theorem Good.EE (G:Good σ k) (num owner:Int):Good (NJ σ num owner) (k+1):=by
 obtain⟨P,h1,h2,h3⟩:=Vn (s:=σ.B) (num:=num) (owner:=owner);refine⟨G.a,G.g,G.c.more,by show(lH.xp σ.B num owner).next<=_;rw[h2];have:=G.b;omega,by show(lH.xp σ.B num owner).over<=_;rw[h3];have:=G.v;omega,rfl,?_,G.n,G.e,G.t,by show σ.rf<=_;have:=G.r;omega⟩;show DZ (lH.xp σ.B num owner).items;rw[h1,<-G.q];exact G.ok.filter _
theorem Good.vo (G:Good σ k) (token:Nat):Good { σ with A:=gU.vo σ.A token } (k+1):=
 ⟨G.a.open token,G.g,G.c.more,by show σ.B.next<=_;have:=G.b;omega,by show σ.B.over<=_;have:=G.v;omega,G.q,G.ok,G.n,G.e,G.t,by show σ.rf<=_;have:=G.r;omega⟩
theorem Good.akt (G:Good σ k) (O:hU.Ord σ.C) (hk:k<=30000) (e:Ev) (he:0<=e.l6) (d:List UInt8) (cF:Nat):Good { σ with C:=hU.si σ.C e d cF } (k+1):=
 ⟨G.a,G.g,agk G.c O hk e he d cF,by show σ.B.next<=_;have:=G.b;omega,by show σ.B.over<=_;have:=G.v;omega,G.q,G.ok,G.n,G.e,G.t,by show σ.rf<=_;have:=G.r;omega⟩
end gJ
end
end Go.Proofs.YtlenamcfacpheaaGreatDoor
namespace Go.jH
structure RD where
 id:Nat
 err:Int
 num:Int
 count:Int
 token:Nat
 b:List UInt8
def RD.zero:RD:=⟨0,0,0,0,0, []⟩
def RD.xC (x:RD):Prop:=x.id<=1099511627776/\(0<=x.err/\x.err<=99)/\(0<=x.num/\x.num<=1099511627776)/\(0<=x.count/\x.count<=1099511627776)/\x.token<=2147483648/\x.b.length<=600/\(x.err≠0->x.num=0/\x.count=0/\x.token=0/\x.b= [])
instance (x : RD) : Decidable x.xC := by unfold RD.xC; infer_instance
def RD.same (x y:RD):Prop:=x.id=y.id/\x.err=y.err/\x.num=y.num/\x.count=y.count/\x.token=y.token/\x.b=y.b
instance (x y : RD) : Decidable (x.same y) := by unfold RD.same; infer_instance
def RD.enc (x:RD):List UInt8:=lD x.id++lD (pP x.err)++lD (pP x.num)++lD (pP x.count)++lD x.token++AB x.b
structure RdS where
 x:RD
 e:Int
 rest:List UInt8
def rdR (top:Nat) (mo:Nat->Int->List UInt8->Nat×Int×List UInt8) (bs:List UInt8):RdS:=
 let a:=gz 0 bs
 let b:=mo top a.2.1 a.2.2
 let c:=mo 1099511627776 b.2.1 b.2.2
 let d:=mo 1099511627776 c.2.1 c.2.2
 let f:=gz d.2.1 d.2.2
 let g:=rH f.2.1 f.2.2
 ⟨⟨a.1,(b.1:Int),(c.1:Int),(d.1:Int),f.1,g.1⟩,g.2.1,g.2.2⟩
def Ij (s:RdS):Option RD:=if Fl s.e s.rest=0/\s.x.xC then some s.x else none
def PN (bs:List UInt8):Option RD:=Ij (rdR 1099511627776 mZ bs)
theorem adD {x:RD} (hr:x.xC):PN x.enc=some x:=by
 obtain⟨h1,⟨h2,h2'⟩,⟨h3,h3'⟩,⟨h4,h4'⟩,h5,h6,_⟩:=id hr;have key:rdR 1099511627776 mZ x.enc=⟨x,0, []⟩:=by
  unfold rdR RD.enc;have e2:pP x.err<=1099511627776:=by unfold pP;omega
  have e3:pP x.num<=1099511627776:=by unfold pP;omega
  have e4:pP x.count<=1099511627776:=by unfold pP;omega
  simp only[dU];rw[ye (by omega)];dsimp only;rw[AD e2 (by omega)];dsimp only;rw[AD e3 (by omega)];dsimp only;rw[AD e4 (by omega)];dsimp only;rw[ye (by omega)];dsimp only;have:=Pd (t:=x.b) (by omega) [];rw[List.append_nil] at this;rw[this];cases x;unfold pP at*;simp only[RdS.mk.injEq,RD.mk.injEq,and_true,true_and] at*;omega
 unfold PN Ij;rw[key];simp[hr,Fl]
theorem rW {x:RD} (hb:x.b.length<=600):x.enc.length<=700:=by
 have a1:=(j0 x.id).2;have a2:=(j0 (pP x.err)).2;have a3:=(j0 (pP x.num)).2;have a4:=(j0 (pP x.count)).2;have a5:=(j0 x.token).2;have a6:=(j0 x.b.length).2;unfold RD.enc AB;simp only[aF];omega
end Go.jH
namespace Go.Proofs.YtlenamcfacpheaaGreatDoor
open Go.Den
open IntKind (wrap)
open Int (toNat)
section
namespace Ask
open qI (Ev dj)
open gJ (SS Good)
open Bn (oY BO Prim xU LO vc Fh IE vz)
open Go.jH (RD)
variable {V:List UInt8→Bool} {σ:SS} {k:Nat} {ses:Int} {q:Rq}
def uC (now gI:Nat):Nat:=min (now+gI) 1099511627776
def zV (σ:SS):Option (Nat×Nat):=if σ.tm<σ.now then some (σ.now,0) else if 1099511627776<=σ.sq then none else some (σ.tm,σ.sq+1)
structure Ot where
 σ:SS
 e:Int
 num:Int
 KD:Int
 d:List UInt8
def bad (σ:SS) (e:Int):Ot:=⟨σ,e,0,0, []⟩
def BK (σ:SS) (ses:Int) (d:List UInt8) (cF:Nat) (n:Nat×Nat):Ot:=
 if gJ.IT σ ses d cF=0 then⟨{ gJ.zU σ ses d cF with tm:=n.1,sq:=n.2 },0,gJ.Vm σ ses d cF,d.length, []⟩ else⟨σ,gJ.IT σ ses d cF,gJ.Vm σ ses d cF,d.length, []⟩
def vA (V:List UInt8->Bool) (σ:SS) (ses:Int) (b:BO) (n:Nat×Nat):Ot:=match vc V b with
 |none=>bad σ 3
 |some d=>BK σ ses d (uC σ.now b.p.gI) n
def vq (q:Rq) (n:Nat×Nat):BO:=⟨⟨if q.on=true then 131072 else 0,0,q.dest,if q.on=true then q.ep else .zero,⟨q.ep,n.1,n.2⟩,q.gI⟩, [⟨1,1,0,0,q.Be⟩]⟩
def FQ (V:List UInt8->Bool) (σ:SS) (ses:Int) (q:Rq):Ot:=
 if j4.oR σ.G q.ep ses=0 then(match zV σ with
  |none=>bad σ 5
  |some n=>vA V σ ses (vq q n) n)
 else bad σ (j4.oR σ.G q.ep ses)
def Vo (V:List UInt8->Bool) (d:List UInt8):Nat:=match Fh V d with| .ok b=>(IE b).length| .error _=>0
def dlN (σ:SS) (q:Rq):Nat:=uC σ.now q.kq.toNat
def Eb (V:List UInt8->Bool) (σ:SS) (ses:Int) (q:Rq):Ot:=
 if j4.oR σ.G q.ep ses=0 then
  if hU.DL ses (dlN σ q) then(match hU.tM σ.C.L q.ep with
   |none=>bad σ 4
   |some z=>⟨{ σ with C:=hU.xx σ.C z ses (dlN σ q) },0,(z.num:Int),(Vo V z.d:Int),z.d⟩)
  else bad σ 1
 else bad σ (j4.oR σ.G q.ep ses)
def adE (n m:Int):Bool:=IntKind.wrap .u64 ((BitVec.ofInt (IntKind.bits .u64) n &&& BitVec.ofInt (IntKind.bits .u64) m).toNat:Int)==0
def Ik (p:Prim):Bool:= !adE (p.fl:Int) 131072 && adE (p.fl:Int) 2
def qM (V:List UInt8->Bool) (σ:SS) (ses:Int) (d:List UInt8):SS×Int:=match Fh V d with
 | .error _=>(σ,0)
 | .ok b=>if Ik b.p=true then(match zV σ with
  |none=>(σ,0)
  |some n=>(match vz V ⟨false,true,false,0,σ.now,b.p.id⟩ b.p.rep ⟨σ.e,n.1,n.2⟩ b.p.gI with
   |none=>(σ,0)
   |some r=>((vA V σ ses r n).σ,if(vA V σ ses r n).e=0 then 1 else 0)))
  else(σ,0)
def Mr (V:List UInt8->Bool) (σ:SS) (ses:Int) (num:Int):Ot:=
 if hU.pU σ.C.L num ses=0 then(match hU.GU σ.C.L num with
  |none=>bad { σ with C:=hU.vX σ.C num ses } 0
  |some z=>⟨(qM V { σ with C:=hU.vX σ.C num ses } ses z.d).1,0,0,(qM V { σ with C:=hU.vX σ.C num ses } ses z.d).2, []⟩)
 else bad σ (hU.pU σ.C.L num ses)
def G8 (σ:SS) (ses:Int) (on:Bool):Ot:=
 if gU.GO σ.A ses=0 then⟨{ σ with A:=gU.Nr (gU.qS σ.A ses on) ses },gU.acW (gU.qS σ.A ses on) ses,0,gU.WI (gU.qS σ.A ses on) ses,gU.Nq (gU.qS σ.A ses on) ses⟩
 else bad σ (gU.GO σ.A ses)
def C6 (V:List UInt8->Bool) (σ:SS) (ses:Int) (q:Rq):Ot:=
 if q.kind=1 then bad { σ with G:=j4.IM σ.G ⟨q.ep,q.uE,ses⟩ } (j4.ou σ.G ⟨q.ep,q.uE,ses⟩)
 else if q.kind=2 then(if j4.oR σ.G q.ep ses=0 then⟨{ σ with G:=j4.KY σ.G q.ep ses,C:=hU.Ii σ.C q.ep },0,0,((hU.vp σ.C.L q.ep).length:Int), []⟩ else bad σ (j4.oR σ.G q.ep ses))
 else if q.kind=3 then bad { σ with G:=j4.Sd σ.G q.ep ses q.uE } (j4.aaJ σ.G q.ep ses q.uE)
 else if q.kind=4 then FQ V σ ses q
 else if q.kind=5 then bad (gJ.NJ σ q.num ses) (lH.yw σ.B q.num ses)
 else if q.kind=6 then⟨σ,j4.oR σ.G q.ep ses,(hU.Vk σ.C.L q.ep:Int),0, []⟩
 else if q.kind=7 then Eb V σ ses q
 else if q.kind=8 then Mr V σ ses q.num
 else if q.kind=9 then bad { σ with C:=hU.IS σ.C q.num ses } (hU.pU σ.C.L q.num ses)
 else if q.kind=10 then G8 σ ses q.on
 else bad σ 3
def vB (id:Nat) (o:Ot):RD:=if o.e=0 then⟨id,0,o.num,o.KD,0,o.d⟩ else⟨id,o.e,0,0,0, []⟩
def wrR (x:RD):List UInt8:=if x.xC then x.enc else []
def C7 (id:Nat) (e:Int):RD:=⟨id,e,0,0,0, []⟩
def AS (V:List UInt8->Bool) (σ:SS) (ses:Int) (q:Rq):SS×RD:=
 if pC q=true/\q.kind<11 then
  if gU.UO σ.A ses=true then(match gU.xo σ.A ses q.id with
   |some b=>(σ,(Go.jH.PN b).getD RD.zero)
   |none=>({ (C6 V σ ses q).σ with A:=gU.tH (C6 V σ ses q).σ.A ses q.id (wrR (vB q.id (C6 V σ ses q))) },vB q.id (C6 V σ ses q)))
  else(σ,C7 q.id 16)
 else(σ,C7 q.id 3)
theorem Good.zQ {C:hU.CF} (G:gJ.Good σ k) (c:hU.Good C (k+1)):gJ.Good { σ with C:=C } (k+1):=
 ⟨G.a,G.g,c,by show σ.B.next<=_;have:=G.b;omega,by show σ.B.over<=_;have:=G.v;omega,G.q,G.ok,G.n,G.e,G.t,by show σ.rf<=_;have:=G.r;omega⟩
theorem Good.yO {A:List gU.gU} (G:gJ.Good σ k) (a:gU.Dw A):gJ.Good { σ with A:=A } k:=⟨a,G.g,G.c,G.b,G.v,G.q,G.ok,G.n,G.e,G.t,G.r⟩
theorem Good.aku {L:List j4.Rg} (G:gJ.Good σ k) (a:j4.TO L):gJ.Good { σ with G:=L } k:=⟨G.a,a,G.c,G.b,G.v,G.q,G.ok,G.n,G.e,G.t,G.r⟩
theorem Good.mk {t s:Nat} (G:gJ.Good σ k) (ht:t<=1099511627776) (hs:s<=1099511627776):gJ.Good { σ with tm:=t,sq:=s } k:=⟨G.a,G.g,G.c,G.b,G.v,G.q,G.ok,G.n,G.e,⟨ht,hs⟩,G.r⟩
theorem K8 (G:gJ.Good σ k) {n:Nat×Nat} (h:zV σ=some n):n.1<=1099511627776/\n.2<=1099511627776:=by
 unfold zV at h;have:=G.n;have:=G.t;split at h
 ·cases h;exact⟨by assumption,by show 0<=_;omega⟩
 split at h
 ·cases h
 ·cases h;exact⟨G.t.1,by show σ.sq+1<=_;omega⟩
theorem Good.BK (G:gJ.Good σ k) (ses:Int) (d:List UInt8) (cF:Nat) {n:Nat×Nat} (h:n.1<=1099511627776/\n.2<=1099511627776):gJ.Good (BK σ ses d cF n).σ (k+1):=by
 unfold Ask.BK;split
 ·exact Good.mk (gJ.Good.put G ses d cF) h.1 h.2
 ·exact gJ.Good.more G
theorem Good.vA (G:gJ.Good σ k) (ses:Int) (b:BO) {n:Nat×Nat} (h:n.1<=1099511627776/\n.2<=1099511627776):gJ.Good (vA V σ ses b n).σ (k+1):=by
 unfold Ask.vA;split
 ·exact gJ.Good.more G
 ·exact Good.BK G _ _ _ h
theorem Good.tell (G:gJ.Good σ k) (ses:Int) (d:List UInt8):gJ.Good (qM V σ ses d).1 (k+1):=by
 unfold qM;split
 ·exact gJ.Good.more G
 split
 ·split
  ·exact gJ.Good.more G
  ·rename_i n hn;split
   ·exact gJ.Good.more G
   ·exact Good.vA G _ _ (K8 G hn)
 ·exact gJ.Good.more G
theorem Good.doC (G:gJ.Good σ k) (O:hU.Ord σ.C) (hk:k<=30000) (f:hU.OP) (hs:0<=f.e.l6):gJ.Good { σ with C:=hU.doS f σ.C } (k+1):=Good.zQ G (G.c.do O hs hk)
theorem Good.C6 (G:gJ.Good σ k) (O:hU.Ord σ.C) (hk:k<=30000) (hs:0<=q.ep.l6):gJ.Good (C6 V σ ses q).σ (k+2):=by
 unfold Ask.C6;split
 ·exact gJ.Good.more (gJ.Good.more (Good.aku G (G.g.add _ hs)))
 split
 ·split
  ·have h:=Good.doC G O hk ⟨5,0,0,q.ep,none,0, [],0⟩ hs;exact gJ.Good.more (Good.aku h (G.g.rem _ _))
  ·exact gJ.Good.more (gJ.Good.more G)
 split
 ·exact gJ.Good.more (gJ.Good.more (Good.aku G (G.g.uE _ _ _)))
 split
 ·unfold FQ;split
  ·split
   ·exact gJ.Good.more (gJ.Good.more G)
   ·rename_i n hn;exact gJ.Good.more (Good.vA G _ _ (K8 G hn))
  ·exact gJ.Good.more (gJ.Good.more G)
 split
 ·exact gJ.Good.more (gJ.Good.EE G _ _)
 split
 ·exact gJ.Good.more (gJ.Good.more G)
 split
 ·unfold Eb;split
  ·split
   ·rename_i hm;have h:=Good.doC G O hk ⟨1,0,ses,q.ep,none,0, [],dlN σ q⟩ hs;unfold hU.doS at h;rw[ai (show¬(1:Int)=0 by decide),ag (show(1:Int)=1 from rfl),ag hm] at h;dsimp only at h;split
    ·exact gJ.Good.more (gJ.Good.more G)
    ·rename_i z hz;rw[hz] at h;exact gJ.Good.more h
   ·exact gJ.Good.more (gJ.Good.more G)
  ·exact gJ.Good.more (gJ.Good.more G)
 split
 ·unfold Mr;have h:=Good.doC G O hk ⟨2,q.num,ses,.zero,none,0, [],0⟩ (ga 0);split
  ·split
   ·exact gJ.Good.more h
   ·exact Good.tell h _ _
  ·exact gJ.Good.more (gJ.Good.more G)
 split
 ·have h:=Good.doC G O hk ⟨3,q.num,ses,.zero,none,0, [],0⟩ (ga 0);exact gJ.Good.more h
 split
 ·unfold G8;split
  ·exact gJ.Good.more (gJ.Good.more (Good.yO G ((G.a.watch _ _).read _)))
  ·exact gJ.Good.more (gJ.Good.more G)
 ·exact gJ.Good.more (gJ.Good.more G)
theorem Good.AS (G:gJ.Good σ k) (O:hU.Ord σ.C) (hk:k<=30000) (hs:0<=q.ep.l6):gJ.Good (AS V σ ses q).1 (k+2):=by
 have h:=Good.C6 (V:=V) (ses:=ses) G O hk hs;have m:=gJ.Good.more (gJ.Good.more G);unfold Ask.AS;split
 ·split
  ·split
   ·exact m
   ·exact Good.yO h (h.a.vV _ _ _)
  ·exact m
 ·exact m
section
open gU
variable {A : List gU.gU} {m n : Int}
theorem K9 {s s':gU.gU} (hs:vm A n=some s):vm (yO A n s') m=if m=n then some s' else vm A m:=by
 obtain⟨i,rfl,hi⟩:=GN hs;have hl:=(aG.1 hi).1;unfold vm gU.yO;rw[show((i:Int)+1 - 1).toNat=i by omega];by_cases e:m=(i:Int)+1
 ·subst e;rw[jy,ag rfl,show((i:Int)+1 - 1).toNat=i by omega,List.getElem?_set_self hl]
 ·rw[ai e];split
  ·rw[List.getElem?_set_ne (by omega)]
  ·rfl
theorem PO {id:Nat} {d:List UInt8} :UO (tH A n id d) m=UO A m:=by
 unfold tH;split
 ·rfl
 ·rename_i s hs;split
  ·rfl
  ·unfold UO;rw[K9 hs];by_cases e:m=n
   ·subst e;rw[ag rfl,hs]
   ·rw[ai e]
theorem Vq {l:List (Nat×List UInt8)} {id j:Nat} {d:List UInt8} (hj:j≠id) (h:Ic l j=none):Ic (nK l id d) j=none:=by
 unfold Ic at h⊢;rw[Option.map_eq_none_iff,List.find?_eq_none] at h⊢;have h2: ∀x∈l.filter (λa=>decide (a.1≠id))++ [(id,d)],¬decide (x.1=j)=true:=λx hx=>by
  rcases bT.1 hx with hx|hx
  ·exact h x (aY.1 hx).1
  ·simp at hx;subst hx;simpa using λe=>hj e.symm
 intro x hx;unfold nK at hx;split at hx
 ·exact h2 x (List.mem_of_mem_drop hx)
 ·exact h2 x hx
theorem aaW {id j:Nat} {d:List UInt8} (hj:m≠n\/j≠id) (h:xo A m j=none):xo (tH A n id d) m j=none:=by
 unfold tH;split
 ·exact h
 ·rename_i s hs;split
  ·exact h
  ·unfold xo at h⊢;rw[K9 hs];by_cases e:m=n
   ·subst e;rw[ag rfl];rw[hs] at h;exact Vq (hj.resolve_left (λf=>f rfl)) h
   ·rw[ai e];exact h
end
end Ask
end
section
open Go.jH Go.rN
namespace lH
open vf
variable {h h' h0:aj} {b:Nat} {X:Ft} {R:iI} {p:bU} {c:Nat} {L:List E} {s:BS}
def IL (h0 h:aj) (p:bU) (l c:Nat) (items:List It):Prop:=
 ∃(ys:List IV) (D:Nat->Prop),l=ys.length/\iR h p l c 4 (ys.flatMap jJ)/\ys.map IV.abs=items/\(∀y∈ys,y.v.ok h D)/\(∀y,D y->h0.size<=y/\y<h.size/\¬aQ p y)/\∀y,aQ p y->h0.size<=y
theorem IL.len {l:Nat} {items:List It} (H:IL h0 h p l c items):l=items.length:=by
 obtain⟨ys,D,h1,_,h3,_⟩:=H;rw[h1,<-h3,aN]
theorem PL (H:Nt h b X s) (hk: ∀h' p' l' c',IL h h' p' l' c' s.items->Fr No h h'->R (.slice p' l' c') h'):Cl F.mf #[.P b 0] h R:=by
 obtain⟨L,⟨lp,lc,xs,a,S,H⟩,ok⟩:=H;obtain⟨hL,hxl⟩:=H.TO ok;refine mf.walk (ji H ⟨_,rfl,aK.of λJ hJ=> ?_⟩);simp only[bA];refine⟨_,_,_,af H.dE rfl,?_⟩;refine⟨λop ol oc t g=> ∃k:Nat,t=(k:Int)/\k<=xs.length/\IL h g op ol oc (s.items.take k)/\Fr No h g,λ_ _ _ t _=>xs.length - t.toNat,⟨0,rfl,by omega,⟨[],λ_=>False,rfl,.nil rfl rfl rfl rfl,by simp,(λy hy=>by cases hy),(λy hy=>hy.elim),λy ⟨a,e,_⟩=>by cases e⟩,Fr.refl _ _⟩,?_⟩;rintro op ol oc _ g ⟨k,rfl,hkn,I,fg⟩;have Mg:=H.on fg;by_cases jc:k<xs.length
 ·have q1:(k:Int)<(xs.length:Int):=by omega
  simp only[q1,decide_true,bA,aL];have hx:xs[k]? =some xs[k]:=au jc;generalize xs[k]=x at hx;obtain⟨ab,AG,rfl⟩:=Mg.own.addr (by omega);refine⟨⟨by first|trivial|omega,by first|trivial|omega⟩,aB.2 (aM.TM (Mg.own.lj mz hx) (aM.new λb1 h8 uf dw f8=>aM.ld dw ?_))⟩;have xit:s.items[k]? =some x.abs:=by rw[<-H.abs,aO,hx];rfl
  have hxd:=ok.it x.abs (bt xit);have dl:x.v.b.length<=600:=hxd.2.2.2.1;have aqE:=((Mg.PA x (bt hx)).row).frame f8 (λ_ _=>id);refine Du aqE rfl (by omega) λh9 p9 c9 o9 f9 g9=>⟨_,_,_,_,_,_,rfl,?_⟩
  have F9:Fr No g h9:=f8.tt f9;obtain⟨ys,D,y1,y2,y3,y4,y5,y6⟩:=I;have yl:ys.length<=16:=by
   have:=bp List.length y3;rw[aN,bQ] at this;omega
  have z9:=F9.1;have zg:=fg.1;have z8:=f8.1;refine qa tI uI (y2.frame F9 (λ_ _=>id)) rfl (λw hw=>by simp at hw;rcases hw with rfl|rfl|rfl|rfl<;>rfl) (by omega) (by omega) λp11 c11 yi o11 f11 g11=>⟨_,_,_,rfl,?_⟩
  rw[bK (by omega) (by omega)];have p9y: ∀y,aQ p9 y->g.size<=y/\y<h9.size:=λy hy=>⟨by have:=g9 y hy;omega,o9.gm hy⟩
  have z11:=f11.1;refine⟨⟨k+1,by omega,by omega,⟨ys++ [⟨x.num,x.owner,⟨p9,c9,x.v.b⟩,x.cF⟩],λy=>D y\/aQ p9 y,by rw[aF,y1];rfl,?_,?_,?_,?_,?_⟩,?_⟩,by show xs.length - Int.toNat ((k:Int)+1)<xs.length - k;omega⟩
  ·rw[dI];simpa using o11
  ·rw[bm,y3,bY,xit];rfl
  ·intro w hw;rcases bT.1 hw with hw|hw
   ·exact(((y4 w hw).frame F9 (λ_ _=>id)).frame f11 (λy hy=>(y5 y hy).2.2)).mono (λy=> .inl)
   ·obtain rfl:=bV.1 hw;exact BV.wL (o9.frame f11 (λy hy hq=>by have:=p9y y hy;have:=y2.gm hq;omega)) (λy=> .inr)
  ·rintro y (hy|hy)
   ·have a:=y5 y hy;exact⟨a.1,by omega,λhq=>(g11 y hq).elim a.2.2 (λh2=>by omega)⟩
   ·have a:=p9y y hy;exact⟨by omega,by omega,λhq=>(g11 y hq).elim (λh2=>by have:=y2.gm h2;omega) (λh2=>by omega)⟩
  ·intro y hy;rcases g11 y hy with h2|h2
   ·exact y6 y h2
   ·omega
  ·exact(fg.tt F9).fresh f11 y6
 ·have q1: ¬(k:Int)<(xs.length:Int):=by omega
  simp only[q1,decide_false,aA,aU];subst hJ;have hlen:=H.len;rw[bR (by omega)] at I;exact hk g op ol oc I fg
end lH
end
section
variable {h:aj} {R:iI}
theorem wu.walk {adF:Bool} {adG:Int} {adH:Int} {adI:ByteArray} {adJ:ByteArray} (hv:aV h (.cells #[.bool adF,.U adG,.U adH,.string adI,.string adJ] T.az) λb aR=>az.LD aR (AA b 0) λMn GR Mo ac0 ac1=>Cl F.wv #[.agg #[.bool Mn,.U GR,.U Mo,.string ac0,.string ac1]] aR λv aZ=> ∃IN IP,v=.tuple #[.pointer IN,.I IP]/\if(IP !=0) then R (.tuple #[.pointer none,.I IP]) aZ else Cl F.y9 #[.I 4800,.I 1600] aZ λeJ bJ=> ∃vL rO,eJ=.tuple #[.pointer vL,.I rO]/\if(rO !=0) then R (.tuple #[.pointer none,.I rO]) bJ else Cl F.sV #[] bJ λgR cB=>Vp gR λt22=>Cl F.Cn #[] cB λkU cJ=>Vp kU λt23=>Cl F.wQ #[] cJ λot cQ=>Vp ot λt24=>Cl F.wR #[] cQ λxu cW=>Vp xu λt25=>aV cW (.cells #[.pointer t22,.pointer t23,.pointer t24,.pointer t25,.pointer vL,.pointer IN,.U 0,.I 0] T.sI) λcD dA=>R (.tuple #[.P cD 0,.I 0]) dA):Cl F.wu #[.agg #[.bool adF,.U adG,.U adH,.string adI,.string adJ]] h R:=aS (lq (lq (sq (lq (cq ll lf)) (lq (sq (lq (cq ll lf)) ll))))) Tryz.func8 hv
theorem jW.walk {s:Nat} (hv: ∃t9,ak h (AA s 0)=some (.pointer t9)/\if(!t9.isNone) then∃t16,ak h (AA s 1)=some (.pointer t16)/\if(!t16.isNone) then∃t23,ak h (AA s 2)=some (.pointer t23)/\if(!t23.isNone) then∃t30,ak h (AA s 3)=some (.pointer t30)/\if(!t30.isNone) then∃t37,ak h (AA s 4)=some (.pointer t37)/\if(!t37.isNone) then∃t44,ak h (AA s 5)=some (.pointer t44)/\R (.bool (!t44.isNone)) h else R (.bool false) h else R (.bool false) h else R (.bool false) h else R (.bool false) h else R (.bool false) h):Cl F.jW #[.P s 0] h R:=aS (lq ll) Tryz.func52 hv
theorem lS.walk {s:Nat} {now:Int} (hv:Cl F.jW #[.P s 0] h λv aR=> ∃t9,v=.bool t9/\if(!t9) then R (.I 6) aR else if(decide (now>1099511627776)) then R (.I 1) aR else∃t19,ak aR (AA s 6)=some (.U t19)/\if(decide (now<t19)) then R (.I 18) aR else aH aR (AA s 6) (.U now) λaZ=>Hp aZ s 2 λt28=>Cl F.mS #[.pointer t28,.U now] aZ λeJ bJ=>Vl eJ λo0 nJ pM=>Hp bJ s 3 λt34=>Cl F.oU #[.pointer t34,.U now] bJ λgR cB=>Vl gR λSr NL Xw=> ∃(I:Int->aj->Prop) (mu:Int->aj->Nat),I 0 cB/\∀(t38:Int) (cJ:aj),I t38 cJ->if(decide (t38<(NL:Int))) then Bd t38 NL/\aP Sr λa=>aM.LD cJ (a.add (toNat t38*4)) λxg xh PQ PR PS Xx=>aV cJ (.cells #[.I 0,.I 0,.Z,.U 0] T.aM) λb cQ=>aM.ST cQ (AA b 0) xg xh PQ PR PS Xx λcW=>Hp cW s 4 λt45=>Hi cW b 1 λt47=>Hl cW b 2 λNl KJ RZ=>Cl F.jq #[.pointer t45,.I t47,.I (KJ:Int)] cW λkU dA=>Vi kU λt51=>ak dA (AA b 2)=some (.slice Nl KJ RZ)/\(I (wrap .i64 (t38+1)) dA/\mu (wrap .i64 (t38+1)) dA<mu t38 cJ) else R (.I 0) cJ):Cl F.lS #[.P s 0,.U now] h R:=aS (lq (sq (bq (lq (cq ll (lq (cq ll (lq (cq ll lf))))))) (lq (lq (sq (lq (bq (.loop [(38,.one (.int .i64))] (lq (sq (cq lf lf) (sq (bq (lq (pN 10))) lf)))))) ll))))) Tryz.func16 hv
theorem oW.walk {s:Nat} {owner:Int} {hH:bU} {fS hN:Nat} {pS:Int} (hv:Cl F.jW #[.P s 0] h λv aR=> ∃t14,v=.bool t14/\if(!t14) then R (.tuple #[.I 0,.I 6]) aR else aK (λ(t16:Bool) (aZ:aj)=>if t16 then R (.tuple #[.I 0,.I 15]) aZ else Hp aZ s 3 λt39=>Cl F.qm #[.pointer t39,.I owner,.slice hH fS hN,.U pS] aZ λeJ bJ=> ∃Xy CE,eJ=.tuple #[.I Xy,.I CE]/\aK (λ(cB:aj)=>R (.tuple #[.I Xy,.I CE]) cB) (λjo=>if(CE==0) then Hp bJ s 4 λt51=>Cl F.lX #[.pointer t51,.I owner,.I (fS:Int)] bJ λgR cJ=> ∃t55,gR=.I t55/\jo cJ else jo bJ)) (λJ=>Hp aR s 3 λt20=>Cl F.mf #[.pointer t20] aR λkU cQ=> ∃vd ua vF,kU=.slice vd ua vF/\if(decide ((ua:Int)≥16)) then J true cQ else Hp cQ s 4 λt28=>Cl F.oh #[.pointer t28,.I owner,.I (fS:Int)] cQ λot cW=> ∃t32,ot=.bool t32/\J (!t32) cW)):Cl F.oW #[.P s 0,.I owner,.slice hH fS hN,.U pS] h R:=aS (lq (sq (bq (lq (cq ll (sq (.join [(16,.one (.bool))] lf) (cq ll lf))))) (lq (sq (lq (.join [] (cq lf lf))) ll)))) Tryz.func191 hv
theorem mi.walk {s:Nat} {num:Int} {owner:Int} (hv:aV h (.cells #[.I num] T.int) λb aR=>Cl F.jW #[.P s 0] aR λv aZ=> ∃t11,v=.bool t11/\if(!t11) then R (.I 6) aZ else Hp aZ s 3 λt16=>Cl F.mf #[.pointer t16] aZ λeJ bJ=>Vl eJ λXz XA aiu=>Hp bJ s 3 λt21=>Hi bJ b 0 λt22=>Cl F.mX #[.pointer t21,.I t22,.I owner] bJ λgR cB=>Vi gR λt24=>Cl F.cv #[.slice Xz XA aiu,.func (.func F.gw) #[] #[.P b 0]] cB λkU cJ=>Vi kU λt27=>aK (λ(t33:Bool) (cQ:aj)=>aK (λ(cW:aj)=>R (.I t24) cW) (λjo=>if t33 then Hp cQ s 4 λt37=>Bd t27 XA/\aP Xz λa=>L3 cQ ((a.add (toNat t27*4)).add 2) λadK XB aiv=>Cl F.jq #[.pointer t37,.I owner,.I (XB:Int)] cQ λot dA=>Vi ot λt45=>ak dA ((a.add (toNat t27*4)).add 2)=some (.slice adK XB aiv)/\jo dA else jo cQ)) (λJ=>if(t24==0) then J (decide (t27≥0)) cJ else J false cJ)):Cl F.mi #[.P s 0,.I num,.I owner] h R:=aS (lq (sq (lq (cq ll lf)) (lq (sq (pN 8) (sq (lq (sq (.join [(33,.one (.bool))] lf) (.join [] (cq (pN 12) lf)))) ll))))) Tryz.func102 hv
theorem gw.walk {w9:Int} {xa:Int} {nf:bU} {nh ni:Nat} {Ka:Int} {c0:Nat} (hv:aV h (.cells #[.I w9,.I xa,.slice nf nh ni,.U Ka] T.aM) λb aR=>Hi aR b 0 λt5=> ∃t6,ak aR (AA c0 0)=some (.I t6)/\R (.bool (t5==t6)) aR):Cl F.gw #[.agg #[.I w9,.I xa,.slice nf nh ni,.U Ka],.P c0 0] h R:=aS (lq ll) Tryz.func154 hv
theorem wv.walk {Ss:Bool} {St:Int} {Su:Int} {Sv:ByteArray} {Sw:ByteArray} (hv:aV h (.cells #[.bool Ss,.U St,.U Su,.string Sv,.string Sw] T.az) λb aR=>aK (λ(t11:Bool) (aZ:aj)=>if t11 then R (.tuple #[.pointer none,.I 3]) aZ else az.LD aZ (AA b 0) λCJ xi an5 acy an6=>aV aZ (.cells #[.bool CJ,.U xi,.U an5,.string acy,.string an6,.U 0,.U 0,.bool true] T.HL) λcD bJ=>R (.tuple #[.P cD 0,.I 0]) bJ) (λJ=>az.LD aR (AA b 0) λO4 O5 Un Uo Uq=>Cl F.kC #[.agg #[.bool O4,.U O5,.U Un,.string Uo,.string Uq]] aR λv cB=> ∃t5,v=.bool t5/\if(!t5) then J true cB else az.LD cB (AA b 0) λMn GR Mo ac0 ac1=> ∃(eq:Bool),Ho Tryz.prog T.az (.agg #[.bool Mn,.U GR,.U Mo,.string ac0,.string ac1]) (.agg #[.bool false,.U 0,.U 0,.string j9,.string j9]) eq/\J eq cB)):Cl F.wv #[.agg #[.bool Ss,.U St,.U Su,.string Sv,.string Sw]] h R:=aS (lq (sq (sq (.join [(11,.one (.bool))] lf) (cq ll lf)) ll)) Tryz.func33 hv
theorem gP.walk {m:Nat} (hv:aV h (.cells #[.bool false,.U 0,.U 0,.string j9,.string j9,.U 0,.U 0] T.ah) λb aR=>aK (λ(t11:Bool) (aZ:aj)=>if t11 then ah.ST aZ (AA b 0) false 0 0 j9 j9 0 0 λbJ=>ah.LD bJ (AA b 0) λoP ia oS pG yQ KS UQ=>R (.agg #[.bool oP,.U ia,.U oS,.string pG,.string yQ,.U KS,.U UQ]) bJ else ah.LD aZ (AA m 0) λvL rO Nu HX Nv an7 an8=>ah.ST aZ (AA b 0) vL rO Nu HX Nv an7 an8 λcB=>ah.LD cB (AA b 0) λnF nG uB xr xt AO KT=>R (.agg #[.bool nF,.U nG,.U uB,.string xr,.string xt,.U AO,.U KT]) cB) (λJ=> ∃t9,ak aR (AA m 7)=some (.bool t9)/\J (!t9) aR)):Cl F.gP #[.P m 0] h R:=aS (lq (sq (sq (.join [(11,.one (.bool))] lf) (cq ll lf)) ll)) Tryz.func74 hv
theorem cv.cancel.walk {oB:bU} {mF qJ:Nat} {RV:Nat} (hv: ∃(I:Int->aj->Prop) (mu:Int->aj->Nat),I 0 h/\∀(t8:Int) (aR:aj),I t8 aR->if(decide (t8<(mF:Int))) then Bd t8 mF/\aP oB λa=>aM.LD aR (a.add (toNat t8*4)) λBu ue FB FC FD acC=>Cl F.gw #[.agg #[.I Bu,.I ue,.slice FB FC FD,.U acC],.P RV 0] aR λv aZ=> ∃t16,v=.bool t16/\if t16 then R (.I t8) aZ else(I (wrap .i64 (t8+1)) aZ/\mu (wrap .i64 (t8+1)) aZ<mu t8 aR) else R (.I (-1)) aR):Cl F.cv #[.slice oB mF qJ,.func (.func F.gw) #[] #[.P RV 0]] h R:=aS (lq (sq (lq (bq (.loop [(8,.one (.int .i64))] (lq (sq (cq lf lf) (sq (bq (lq (lq (cq ll lf)))) lf)))))) ll)) Tryz.func153 hv
end
section
namespace gJ
open lH (It)
open qI (Ev dj uG)
variable {h h':aj} {R:iI} {s k:Nat} {X:Ft} {I:GW} {σ:SS}
theorem ji {n r:Nat} (B:Bk h s I n r) (hk:R (.bool true) h):Cl F.jW #[pt s] h R:=by
 refine jW.walk ?_;repeat (first|exact hk|refine⟨_,af B rfl,?_⟩|rw[ag rfl])
theorem Pt.put {n r:Nat} (H:Pt h s X I σ) (b:Bk h' s I n r) (hs:h'.size=h.size) (ho: ∀x,x≠s->h'[x]? =h[x]?): ∃X',Pt h' s X' I { σ with now:=n,rf:=r } /\bM X h X' h':=by
 obtain⟨Z,⟨hb,on⟩,zm,zd,go⟩:=H.use 6;obtain⟨X',H',st,_,_⟩:=go h' Z { σ with now:=n,rf:=r } ⟨b,on⟩ (bM.E0 (Fr.of_eq hs λc hc=>ho c (λe=>hc ((on c).1.2 e)))) (λi hi=>akn _ _ hi);exact⟨X',H',st⟩
theorem Pt.an9 {n o:Int} {x:It} {l:List It} (H:Pt h s X I σ) (e:σ.Q.Perm (x::l)) (ok:DZ σ.Q) (kx:okI x) (hn:n=(x.d.length:Int)) (ho:o=x.owner)
  (hk: ∀h' X',Pt h' s X' I { σ with Q:=l } ->bM X h X' h'->R (.I 0) h'):Cl F.jq #[pt I.p,.I o,.I n] h R:=by
 subst ho;obtain⟨Z,⟨m,P,on⟩,zm,zd,go⟩:=H.use 4;refine amA (P.perm e) (DZ.perm ok e) kx hn λh' P' f'=> ?_
 obtain⟨X',H',st,_,_⟩:=go h' Z { σ with Q:=l } ⟨m,P',on⟩ (bM.E0 (f'.mono λy _ hy=>(on y).1.2 hy)) (λi hi=>Ve _ hi);exact hk h' X' H' st
theorem Pt.perm {l:List It} (H:Pt h s X I σ) (e:σ.Q.Perm l):Pt h s X I { σ with Q:=l } :=by
 obtain⟨Y,hp,r⟩:=H;refine⟨Y,λi=> ?_,r⟩;by_cases hi:i=4
 ·subst hi;obtain⟨m,P,on⟩:=hp 4;exact⟨m,P.perm e,on⟩
 ·rw[Ve _ hi];exact hp i
theorem Sx {l r:List It} (ok:DZ (l++r)): ∀j,DZ (l.drop j++r)
 |0=>ok
 |j+1=>by
  have h:=Sx ok j;rcases Nat.lt_or_ge j l.length with q|q
  ·rw[da q] at h;exact DZ.sub h
  ·rw[List.drop_eq_nil_of_le q] at h;rw[List.drop_eq_nil_of_le (by omega)];exact h
theorem Pt.okB (H:Pt h s X I σ): ∃L,lH.okB σ.B L:=by
 obtain⟨Z,L,B,ok⟩:=H.box;exact⟨L,ok⟩
theorem Pt.ord (H:Pt h s X I σ):hU.Ord σ.C:=by
 obtain⟨Y,hp,_⟩:=H;exact hU.Ct.ord (hp 2)
theorem adL {L:List Go.rN.E} {B:lH.BS} (ok:lH.okB B L) {x:It} (hx:x∈B.items):okI x:=by
 have:=ok.it x hx;exact⟨this.2.2.1,this.2.2.2.1,this.2.2.2.2.1,this.2.2.2.2.2.1⟩
theorem Good.small (G:Good σ k) (O:hU.Ord σ.C) (hk:k<=40000):hU.Small σ.C:=G.c.small O hk
theorem aaX {B:lH.BS} {L:List Go.rN.E} (ok:lH.okB B L) {P:It->Bool} {ys:List It} (hm: ∀y∈ys,y∈B.items) (hp:(ys.map It.kv).Perm ((B.items.filter P).map It.kv)):ys.Perm (B.items.filter P):=by
 have nd: ∀ {l:List It},l.Sublist B.items->(l.map It.num).Nodup:=λhs=>((ok.inc.sublist (hs.map It.num))).imp λh=>Nat.ne_of_lt h
 have n1:((ys.map It.kv).map (λe=>e.1)).Nodup:=by
  refine(hp.map _).nodup_iff.2 ?_;rw[fG];have:=nd (cU (l:=B.items) (p:=P));unfold List.Nodup at this⊢;rw[gi] at this⊢;exact this.imp λh e=>h (by have e:(_:Int)=(_:Int):=e;exact Int.ofNat.inj e)
 have n2:ys.Nodup:=by
  rw[fG] at n1;unfold List.Nodup at n1⊢;rw[gi] at n1;exact n1.imp λh e=>h (by rw[e])
 have n3:(B.items.filter P).Nodup:=by
  have:=nd (cU (l:=B.items) (p:=P));unfold List.Nodup at this⊢;rw[gi] at this;exact this.imp λh e=>h (by rw[e])
 rw[List.perm_ext_iff_of_nodup n2 n3];have inj: ∀x∈B.items,∀y∈B.items,x.kv=y.kv->x=y:=λx hx y hy e=>lH.uniq ok.inc hx hy (by have e:(x.num:Int)=(y.num:Int):=bp Prod.fst e;exact Int.ofNat.inj e)
 intro x;constructor
 ·intro hx;obtain⟨y,hy,e⟩:=bn.1 (hp.mem_iff.1 (bn.2 ⟨x,hx,rfl⟩));rw[inj x (hm x hx) y (aY.1 hy).1 e.symm];exact hy
 ·intro hx;obtain⟨y,hy,e⟩:=bn.1 (hp.mem_iff.2 (bn.2 ⟨x,hx,rfl⟩));rw[inj x (aY.1 hx).1 y (hm y hy) e.symm];exact hy
theorem Vr (l:List It) (now:Nat):l.Perm (l.filter (λx=>decide ((x.cF:Int)<=(now:Int)))++l.filter (λx=>decide ((now:Int)<(x.cF:Int)))):=by
 have h:=(List.filter_append_perm (λx:It=>decide ((x.cF:Int)<=(now:Int))) l).symm;have e:(λx:It=> !decide ((x.cF:Int)<=(now:Int)))=λx:It=>decide ((now:Int)<(x.cF:Int)):=funext λx=>by
  by_cases q:(x.cF:Int)<=(now:Int)
  ·rw[ay q,decide_eq_false (by omega)];rfl
  ·rw[decide_eq_false q,ay (by omega)];rfl
 rw[e] at h;exact h
theorem AN {n:Int} (now:Nat) (hn:n=(now:Int)) (H:Pt h s X I σ) (G:Good σ k) (hk8:k<=30000)
  (hk: ∀h' X',Pt h' s X' I (Sq σ now)->bM X h X' h'->R (.I (C4 σ now)) h'):Cl F.lS #[pt s,.U n] h R:=by
 subst hn;have B:=H.dE;refine lS.walk (ji B ⟨_,rfl,?_⟩);rw[dL];unfold Sq at hk;by_cases h1:now>1099511627776
 ·have e:C4 σ now=1:=ag h1;rw[e,dL] at hk;rw[jy];exact hk h X H (bM.refl _ _)
 rw[ai (λe=>h1 (by have:=of_decide_eq_true e;omega))];refine⟨_,af B rfl,?_⟩;by_cases h2:now<σ.now
 ·have e:C4 σ now=18:=by unfold C4;rw[ai h1,ag h2]
  rw[e,dL] at hk;rw[jy];exact hk h X H (bM.refl _ _)
 rw[ai (λe=>h2 (by have:=of_decide_eq_true e;omega))];have e:C4 σ now=0:=by unfold C4;rw[ai h1,ai h2]
 rw[e,ag rfl] at hk;refine bL B (by simp) λh2 a1 a2 a3=> ?_
 obtain⟨X2,H2,AF⟩:=H.put (n:=now) (r:=σ.rf) a1 a2 a3;have O:=H.ord;have sm:=G.small O (by omega);obtain⟨Z,hz,zm,zd,go⟩:=H2.use 2;refine⟨_,af H2.dE rfl,hU.AN hz sm (by have:=G.c.L;show σ.C.over<=_;omega) (hU.Good.held G.c) (now:Int) λh3 Z3 p3 c3 C3 s3 N3 g3=>⟨_,_,_,rfl,?_⟩⟩;obtain⟨X3,H3,Gj,_,_⟩:=go h3 Z3 { σ with now:=now,C:=hU.oH σ.C (now:Int) } C3 s3 (λi hi=>GX (σ:= { σ with now:=now }) _ hi);obtain⟨Z,hz,zm,zd,go⟩:=H3.use 3;obtain⟨L,okB⟩:=H.okB;refine⟨_,af H3.dE rfl,lH.AN now rfl hz (by have:=G.b;show σ.B.next<=_;omega) λh4 Z4 p4 c4 ys D B4 s4 o4 d4 n4 e4 so4 pm4 m4=>⟨_,_,_,rfl,?_⟩⟩;have yp:(ys.map lH.IV.abs).Perm (σ.B.items.filter (λx=>decide ((x.cF:Int)<=(now:Int)))):=aaX okB (λy hy=>by obtain⟨z,hz,rfl⟩:=bn.1 hy;exact m4 z hz) (by rw[e4];exact pm4);have yl:ys.length=(σ.B.items.filter (λx=>decide ((x.cF:Int)<=(now:Int)))).length:=by rw[<-yp.length_eq,aN]
 have eB:({ σ.B with items:=σ.B.items.filter (λx=>decide ((now:Int)<(x.cF:Int))),over:=σ.B.over+ys.length } :lH.BS)=Ea σ.B now:=by unfold Ea;rw[yl]
 rw[eB] at B4;obtain⟨X4,H4,Vg,dd4,nn4⟩:=go h4 Z4 { σ with now:=now,C:=hU.oH σ.C (now:Int),B:=Ea σ.B now } B4 s4 (λi hi=>Vd (σ:= { σ with now:=now,C:=hU.oH σ.C (now:Int) }) _ hi);have st:=AF.trans (Gj.trans Vg);have nX4: ∀y,aQ p4 y->¬(X4.M y\/X4.D y)/\h3.size<=y:=λy hy=>⟨λhm=>(n4 y hy).2 (nn4 y (n4 y hy).1 hm),(n4 y hy).1⟩
 have hq:(σ.Q).Perm (ys.map lH.IV.abs++(Ea σ.B now).items):=by
  rw[G.q];exact(Vr _ now).trans (yp.symm.append_right _)
 have Dw:DZ (ys.map lH.IV.abs++(Ea σ.B now).items):=DZ.perm G.ok hq;refine⟨λi g=> ∃(j:Nat) (Xg:Ft),i=(j:Int)/\j<=ys.length/\Pt g s Xg I { σ with now:=now,C:=hU.oH σ.C (now:Int),B:=Ea σ.B now,Q:=(ys.map lH.IV.abs).drop j++(Ea σ.B now).items } /\bM X4 h4 Xg g/\iR g p4 ys.length c4 4 (ys.flatMap lH.jJ),λi _=>ys.length - i.toNat,
  ⟨0,X4,rfl,cj _,H4.perm hq,bM.refl _ _,o4⟩,?_⟩
 rintro _ g ⟨j,Xg,rfl,hj,Hg,sg,og⟩;have l16:ys.length<=16:=by rw[yl];exact dv (cI _ _) okB.le
 by_cases hl:j<ys.length
 ·rw[jy];have hy:ys[j]? =some ys[j]:=au hl;obtain⟨pb,po,rfl⟩:=og.addr (by omega);refine⟨⟨by omega,by omega⟩,aB.2 (aM.TM (by rw[aL];exact og.lj lH.mz hy) (aM.new λb g1 eb hb f1=> ?_))⟩;have H1:=Hg.on f1;have ed:(ys.map lH.IV.abs).drop j=ys[j].abs::(ys.map lH.IV.abs).drop (j+1):=by
   rw[da (by rw[aN];exact hl),List.getElem_map]
  have okj:=Sx Dw j;refine⟨_,af H1.dE rfl,_,af hb rfl,_,_,_,af hb rfl,H1.an9 (x:=ys[j].abs) (l:=(ys.map lH.IV.abs).drop (j+1)++(Ea σ.B now).items) (by show((ys.map lH.IV.abs).drop j++_).Perm _;rw[ed];exact .refl _) okj (adL okB (m4 _ (fw hl))) rfl rfl λg2 X2 H2 AF=>⟨_,rfl,?_,?_⟩⟩
  ·have lb:=aI hb;exact AF.fr.cell (af hb rfl) (λhm=>by have:=Hg.lt b (.inl hm);omega)
  ·rw[bK (by omega) (by omega)];have s2:=sg.on f1|>.trans AF
   refine⟨⟨j+1,X2,by omega,by omega,H2,s2,(og.frame f1 (λ_ _=>id)).frame AF.fr (λy hy hm=> ?_)⟩,by show ys.length - Int.toNat ((j:Int)+1)<ys.length - Int.toNat (j:Int);omega⟩;rcases sg.re y hm with a|a
   ·exact(nX4 y hy).1 (.inl a)
   ·have:=o4.gm hy;omega
 ·rw[ai (λe=>hl (by have:=of_decide_eq_true e;omega))];refine hk g Xg ?_ (st.trans sg);rw[List.drop_eq_nil_of_le (by rw[aN];omega)] at Hg;exact Hg
end gJ
end
section
open Go.jH
namespace gU
open vf
variable {h h':aj} {t:Nat} {X:Ft} {R:iI} {p:bU} {c i:Nat} {fX:Lab} {D:Nat→Prop} {L:List SC} {A:List gU}
theorem QO.on (TB:QO h t fX D L) (f:Fr No h h'):QO h' t fX D L:=by
 obtain⟨p,c,hb,own,hp⟩:=TB.dE;refine⟨⟨p,c,f.get hb id,own.frame f (λ_ _=>id),hp⟩,TB.lt0,λi s hs=>(TB.ses i s hs).frame f (λ_ _ _ _ _=>id) (λ_ _=>id),?_,?_,TB.ap⟩
 ·intro c r hr;exact cS (TB.llt c r hr) f.1
 ·intro c hd;exact cS (TB.RX c hd) f.1
theorem Vs (xs:List AV) (id:Nat):(xs.filter (λx=>decide (x.id≠id))).map AV.abs=(xs.map AV.abs).filter (λa=>decide (a.1≠id)):=by
 rw[eK];rfl
theorem adM {B:List Nat} {num:Int} {k:Int} (id:Nat) (Mi:k=(id:Int)) {b:List UInt8} {n m:Nat} (H:DK h t X A B) (ok:Dw A) (hr:Row h p (bc b)) (hn:n=b.length) (hp:b≠ []->∀x,aQ p x->¬X.M x)
  (hk: ∀h' X',DK h' t X' (tH A num id b) B->bM X h X' h'->R (.I (acV A num id b)) h'):
  Cl F.iT #[.P t 0,.I num,.U k,.slice p n m] h R:=by
 subst Mi hn;have H0:=H;obtain⟨fX,L,TB,rfl,rfl,hS⟩:=H;have hl:=ok.le;rw[aN] at hl;refine iT.walk (cX ?_);have f1:Fr No h (h.push (.cells #[.U (id:Int)] T.uint64)):=Fr.push _ _;have id1:CU (h.push (.cells #[.U (id:Int)] T.uint64)) h.size id:=cz;have sz1:(h.push (.cells #[.U (id:Int)] T.uint64)).size=h.size+1:=fO _;generalize h.push (.cells #[.U (id:Int)] T.uint64)=h1 at f1 id1 sz1⊢;have TT:=TB.on f1;have st1:bM X h X h1:=bM.nI f1;unfold tH acV at hk;refine oQ TT (λi s e hs=>⟨_,_,rfl,?_⟩) (λhn=>⟨_,_,rfl,?_⟩) (by omega)
 ·rw[ai (by simp)];subst e;rw[Dx,yP hs] at hk;dsimp only at hk;refine aK.of λJ hJ=> ?_
  have jt:(id>1099511627776\/b.length>1000)->J true h1:=by
   intro hh;subst hJ;simp only[bA];simp only[hh,bA] at hk;exact hk h1 X (H0.frame f1 (λ_ _ x=>x)) st1
  have jf: ¬(id>1099511627776\/b.length>1000)->J false h1:=by
   intro hh;subst hJ;simp only[aA,aU];simp only[hh,aU] at hk;have SA:=TT.ses i s hs;have Gr:=ok.at_ i _ (yP hs);have kl:s.kept.length<=6:=by have:=Gr.kl;rwa[show s.abs.kept.length=s.kept.length from aN _] at this
   have nbk: ∀c,aQ s.kp c->c≠s.b:=λc hc e=>by have h1:=SA.kl c hc;rw[e,SA.lb] at h1;simp at h1
   have nbn: ∀c,aQ s.np c->c≠s.b:=λc hc e=>by have h1:=SA.nl c hc;rw[e,SA.lb] at h1;simp at h1
   have nkn: ∀c,aQ s.kp c->¬aQ s.np c:=λc hc h2=>by have h1:=SA.kl c hc;rw[SA.nl c h2] at h1;simp at h1
   have kS: ∀c,aQ s.kp c->X.M c:=λc hc=>(hS c).2 ⟨_,SA.kl c hc⟩
   have bS:X.M s.b:=(hS s.b).2 ⟨_,SA.lb⟩;have idb: ¬aQ s.kp h.size:=λhx=>by have:=(H0.lt _ (.inl (kS _ hx)));omega
   have aqF:h.size≠s.b:=λe=>by have:=H0.lt _ (.inl bS);omega
   have kD: ∀c,X.D c->¬(c=s.b\/aQ s.kp c):=λc hc hx=>hx.elim (λe=>TB.ap c _ (e▸SA.lb) hc) (λhx=>TB.ap c _ (SA.kl c hx) hc)
   refine aB.2 ⟨_,_,_,af SA.dE rfl,UN SA.CT rfl (by omega) id1 idb λh4 o4 f4 id4=>⟨_,_,_,rfl,aB.2 ?_⟩⟩;have aqG:=f4.get SA.dE (λhx=>nbk _ hx rfl);refine bL aqG (by simp) λh5 k1 k2 k3=>aB.2 ?_
   have f5:Fr (λx=>x=s.b) h4 h5:=Fr.of_eq k2 k3;have id5:CU h5 h.size id:=f5.get id4 aqF;have F5:Fr (λx=>x=s.b\/aQ s.kp x) h1 h5:=(f4.mono (λ_ _ hx=> .inr hx)).tt (f5.mono (λ_ _ hx=> .inl hx));have aqH:Row h5 p (bc b):=by
    by_cases hb:b= []
    ·rw[hb];exact .inl rfl
    ·refine(hr.frame f1 (λ_ _ x=>x)).frame F5 (λa e hx=> ?_);have:=hp hb a.block ⟨a,e,rfl⟩;exact hx.elim (λe=>this (e▸bS)) (λhx=>this (kS _ hx))
   refine⟨_,_,_,af k1 rfl,_,af id5 rfl,my aqH rfl (by omega) λp6 c6 h6 o6 f6 g6=>⟨_,_,_,rfl,af (f6.get id5 (λx=>x)) rfl,af (f6.get k1 (λx=>x)) rfl,?_⟩⟩;refine cX ?_;have f7:Fr No h6 (h6.push (.cells #[.U (id:Int),.slice p6 b.length c6] T.bF)):=Fr.push _ _;have aoa:Row (h6.push (.cells #[.U (id:Int),.slice p6 b.length c6] T.bF)) (some (AA h6.size 0)) (AV.enc ⟨id,⟨p6,c6,b⟩⟩):=rV (cs:=AV.enc ⟨id,⟨p6,c6,b⟩⟩);have sz7:(h6.push (.cells #[.U (id:Int),.slice p6 b.length c6] T.bF)).size=h6.size+1:=fO _;generalize h6.push (.cells #[.U (id:Int),.slice p6 b.length c6] T.bF)=h7 at f7 aoa sz7⊢;have f67:=f6.tt f7;have id7:CU h7 h.size id:=f67.get id5 (λx=>x);have k17:=f67.get k1 (λx=>x);refine⟨af id7 rfl,af k17 rfl,?_⟩;have o5:=o4.frame f5 (λx hx e=>nbk x hx e);have o7:=o5.frame f67 (λ_ _ x=>x);have fl:=cI (λx:AV=>decide (x.id≠id)) s.kept;refine fQ tA uA o7 aoa rfl (λv hv=>by simp at hv;rcases hv with rfl|rfl<;>rfl) (by omega) (by omega) ?_;intro p8 c8 h8 o8 _ f8 g8;have id8:CU h8 h.size id:=f8.get id7 idb;have k18:=f8.get k17 (λhx=>nbk _ hx rfl);refine⟨_,_,_,rfl,af id8 rfl,aB.2 ?_⟩;refine bL k18 (by simp) λh9 q1 q2 q3=>aB.2 ⟨_,_,_,af q1 rfl,?_⟩
   have f9:Fr (λx=>x=s.b) h8 h9:=Fr.of_eq q2 q3;have z5:h1.size<=h5.size:=F5.1;have z6:=f6.1;have z8:=f8.1;have sb1:s.b<h1.size:=aI SA.dE;have kb1: ∀c,aQ s.kp c->c<h1.size:=λc hc=>SA.CT.gm hc
   have np8: ∀c,aQ p8 c->aQ s.kp c\/h7.size<=c:=g8;have n8b: ∀c,aQ p8 c->c≠s.b:=λc hc e=>(np8 c hc).elim (λhx=>nbk c hx e) (λhx=>by omega)
   have o9:=o8.frame f9 (λx hx e=>n8b x hx e);have F9:Fr (λx=>x=s.b\/aQ s.kp x) h1 h9:=F5.tt ((f67.mono (λ_ _=>False.elim)).tt ((f8.mono (λ_ _ hx=> .inr hx)).tt (f9.mono (λ_ _ hx=> .inl hx))));have b6: ∀c,aQ p6 c->h5.size<=c/\c<h6.size:=λc hc=>⟨g6 c hc,o6.gm hc⟩
   have o69:iR h9 p6 b.length c6 1 (bc b):=((o6.frame f7 (λ_ _ x=>x)).frame f8 (λc hc hx=>by have:=b6 c hc;have:=kb1 c hx;omega)).frame f9 (λc hc e=>by have:=b6 c hc;omega);have cat:(s.kept.filter (λx:AV=>decide (x.id≠id))).flatMap AV.enc++AV.enc ⟨id,⟨p6,c6,b⟩⟩=(s.kept.filter (λx:AV=>decide (x.id≠id))++ [(⟨id,⟨p6,c6,b⟩⟩:AV)]).flatMap AV.enc:=by rw[dI];simp
   rw[cat] at o9;have aqI:(s.kept.filter (λx:AV=>decide (x.id≠id))++ [(⟨id,⟨p6,c6,b⟩⟩:AV)]).map AV.abs=s.abs.kept.filter (λa=>decide (a.1≠id))++ [(id,b)]:=by
    rw[bm,Vs];rfl
   have adN:(s.kept.filter (λx:AV=>decide (x.id≠id))++ [(⟨id,⟨p6,c6,b⟩⟩:AV)]).length=(s.kept.filter (λx:AV=>decide (x.id≠id))).length+1:=by rw[aF];rfl
   have aqJ: ∀a∈s.kept.filter (λx:AV=>decide (x.id≠id))++ [(⟨id,⟨p6,c6,b⟩⟩:AV)],a.v.ok h9 (λc=>X.D c\/aQ p6 c):=by
    intro a ha;rcases bT.1 ha with ha|ha
    ·exact((SA.kd a (aY.1 ha).1).frame F9 kD).mono (λc=> .inl)
    ·simp at ha;subst ha;exact BV.wL o69 (λc=> .inr)
   generalize s.kept.filter (λx:AV=>decide (x.id≠id))++ [(⟨id,⟨p6,c6,b⟩⟩:AV)]=K at*;generalize (s.kept.filter (λx:AV=>decide (x.id≠id))).length=fl0 at*;refine aK.of λJ1 pA=> ?_
   have fin: ∀(mE:aj) (K':List AV) (kp':bU) (kc':Nat),(∃j,K'=K.drop j)->K'.map AV.abs=nK s.abs.kept id b->At mE { s with kept:=K',kp:=kp',kc:=kc' } ->iR mE kp' K'.length kc' 2 (K'.flatMap AV.enc)->
     (∀c,aQ kp' c->aQ s.kp c\/h7.size<=c)->Fr (λx=>x=s.b) h9 mE->J1 mE:=by
    intro mE K' kp' kc' ⟨j,hj⟩ hK ES adO hkp f12;subst pA;have PF:Fr (λx=>x=s.b\/aQ s.kp x) h1 mE:=F9.tt (f12.mono (λ_ _ hx=> .inl hx));obtain⟨X',HH,st⟩:=TT.upd (s':= { s with kept:=K',kp:=kp',kc:=kc' }) (E:=aQ p6) hS hs rfl PF (λc hx=>hx.elim (λe=>⟨_,e▸SA.lb,by omega,by omega⟩) (λhx=>⟨_,SA.kl c hx,by omega,by omega⟩)) ES adO
     (λc hc=>(hkp c hc).imp (SA.kl c) (λhx=>by omega)) (SA.II.frame PF (λc hc hx=>hx.elim (nbn c hc) (λhx=>nkn c hx hc))) (λc hc=> .inl (SA.nl c hc))
     (λc hc h2=>(hkp c hc).elim (λhx=>nkn c hx h2) (λhx=>by have:=SA.II.gm h2;omega))
     (λc hc=>⟨by have:=(b6 c hc).1;omega,by have:=(b6 c hc).2;have:=f9.1;have:=f12.1;omega,λhx=>(hkp c hx).elim (λh2=>by have:=kb1 c h2;have:=b6 c hc;omega) (λh2=>by have:=b6 c hc;omega),λhx=>by have:=SA.II.gm hx;have:=b6 c hc;omega⟩)
     (λa ha=>(aqJ a (by rw[hj] at ha;exact List.mem_of_mem_drop ha)).frame f12 (λc hc e=>hc.elim (λhc=>kD c hc (.inl e)) (λhc=>by have:=b6 c hc;omega)))
     (λn hn=>((SA.nd n hn).frame PF kD).mono (λc=> .inl))
    refine hk mE X' ?_ (st1.trans st);unfold yO;rw[show((i:Int)+1 - 1).toNat=i by omega];have:({ s with kept:=K',kp:=kp',kc:=kc' } :SC).abs= { s.abs with kept:=nK s.abs.kept id b } :=by
     unfold SC.abs;dsimp only;rw[hK];rfl
    rw[this] at HH;exact HH
   clear pA;unfold nK at fin;rw[<-aqI,aN,adN] at fin;by_cases h6':((fl0+1:Nat):Int)>6
   ·simp only[h6',decide_true,bA];rw[jy] at fin;refine aB.2 ⟨_,_,_,af q1 rfl,⟨by omega,by omega⟩,?_⟩;rw[<-adN] at o9;have adP:=o9.sub (l:=1) (u:=K.length) (by omega) (bh _);rw[<-gW AV.enc 2 lh K,iF,y7 AV.enc 2 lh] at adP;refine aaD adP.pZ (by rw[cf,<-adN];rfl) (by rw[cf];omega) λp11 c11 yi o11 f11 g11=>⟨_,_,_,rfl,aB.2 ?_⟩
    have q11:=f11.get q1 (λx=>x);refine bL q11 (by simp) λmE r1 r2 r3=> ?_
    have f12:Fr (λx=>x=s.b) yi mE:=Fr.of_eq r2 r3;have z9:=f9.1;refine fin mE (K.drop 1) p11 c11 ⟨1,rfl⟩ List.map_drop ?_ (o11.frame f12 (λc hc e=>by have:=g11 c hc;omega)) (λc hc=> .inr (by have:=g11 c hc;omega)) ((f11.mono (λ_ _=>False.elim)).tt f12);exact r1
   ·simp only[h6',decide_false,aA,aU];rw[dL] at fin;refine fin h9 K p8 c8 ⟨0,rfl⟩ rfl ?_ (by rw[adN];exact o9) np8 (Fr.refl _ _);show h9[s.b]? =_;rw[q1];dsimp only;rw[adN];rfl
  clear hJ;refine⟨_,af id1 rfl,?_⟩;by_cases c1:(id:Int)>1099511627776
  ·simp only[c1,decide_true,bA];exact jt (.inl (by omega))
  ·simp only[c1,decide_false,aA,aU];by_cases c2:(b.length:Int)>1000
   ·simp only[c2,decide_true];exact jt (.inr (by omega))
   ·simp only[c2,decide_false];exact jf (by omega)
 ·rw[ag (by rfl)];rw[wz (by rw[aN];exact hn)] at hk;exact hk h1 X (H0.frame f1 (λ_ _ x=>x)) st1
theorem agl {num:Int} {k:Int} (id:Nat) (Mi:k=(id:Int)) {b:List UInt8} {n m:Nat} (H:Has h t X A) (ok:Dw A) (hr:Row h p (bc b)) (hn:n=b.length) (hp:b≠ []->∀x,aQ p x->¬X.M x)
  (hk: ∀h' X',Has h' t X' (tH A num id b)->bM X h X' h'->R (.I (acV A num id b)) h'):
  Cl F.iT #[.P t 0,.I num,.U k,.slice p n m] h R:=by
 obtain⟨B,H⟩:=H;exact adM id Mi H ok hr hn hp λh' X' H' st=>hk h' X' ⟨B,H'⟩ st
theorem aaY (xs:List AV) (id:Nat):Ic (xs.map AV.abs) id=(xs.find? (λa=>decide (a.id=id))).map (λa=>a.v.b):=by
 unfold Ic;rw[List.find?_map,Option.map_map];rfl
theorem agm {num:Int} {k:Int} (id:Nat) (Mi:k=(id:Int)) (H:Has h t X A) (ok:Dw A)
  (k1: ∀b,xo A num id=some b->∀h' p' c',iR h' p' b.length c' 1 (bc b)->Fr No h h'->(∀x,aQ p' x->h.size<=x)->R (.tuple #[.slice p' b.length c',.bool true]) h')
  (k2:xo A num id=none->∀h',Fr No h h'->R (.tuple #[.Z,.bool false]) h'):
  Cl F.kY #[.P t 0,.I num,.U k] h R:=by
 subst Mi;obtain⟨_,fX,L,TB,rfl,_,hS⟩:=H;have hl:=ok.le;rw[aN] at hl;refine kY.walk (cX ?_);have f1:Fr No h (h.push (.cells #[.U (id:Int)] T.uint64)):=Fr.push _ _;have id1:CU (h.push (.cells #[.U (id:Int)] T.uint64)) h.size id:=cz;generalize h.push (.cells #[.U (id:Int)] T.uint64)=h1 at f1 id1⊢;have TT:=TB.on f1;unfold xo at k1 k2;refine oQ TT (λi s e hs=>⟨_,_,rfl,?_⟩) (λhn=>⟨_,_,rfl,?_⟩) (by omega)
 ·rw[ai (by simp)];subst e;rw[Dx,yP hs] at k1 k2;dsimp only at k1 k2;rw[show s.abs.kept=s.kept.map AV.abs from rfl,aaY] at k1 k2;have SA:=TT.ses i s hs;have Gr:=ok.at_ i _ (yP hs);have kl:s.kept.length<=6:=by have:=Gr.kl;rwa[show s.abs.kept.length=s.kept.length from aN _] at this
  refine aB.2 ⟨_,_,_,af SA.dE rfl,UM SA.CT.pZ rfl (by omega) id1 λh3 f3=>⟨_,rfl,?_⟩⟩;unfold IJ;cases hf:s.kept.findIdx? (λa=>decide (a.id=id)) with
  |none=>
   rw[ag (by rfl)];have:s.kept.find? (λa=>decide (a.id=id))=none:=by
    rw[List.find?_eq_none];intro a ha;have:=dK.1 hf a ha;simpa using this
   rw[this] at k2;exact k2 rfl h3 (f1.tt f3)
  |some j=>
   dsimp only;obtain⟨Cf,hje,hjb⟩:=cO.1 hf;rw[dL];have hsj:s.kept[j]? =some s.kept[j]:=au Cf;have aob:s.kept.find? (λa=>decide (a.id=id))=some s.kept[j]:=by
    rw[List.find?_eq_some_iff_getElem];exact⟨hje,j,Cf,rfl,λi hi=>by have:=hjb i hi;simpa using this⟩
   rw[aob] at k1;have aqK:=f3.get SA.dE (λx=>x);have acU:=SA.CT.frame f3 (λ_ _ x=>x);have av:=SA.kd _ (bt hsj);have arV:s.kept[j].v.b.length<=1000:=(Gr.kd (AV.abs s.kept[j]) (bB (bt hsj))).2;generalize s.kept[j]=a at*;obtain⟨ab,AG,hkp⟩:=acU.addr (by omega);have aiw:=acU;rw[hkp] at aiw;have hh:=aiw.lj lh hsj;refine aB.2 ⟨_,_,_,af aqK rfl,⟨by omega,by omega⟩,?_⟩;rw[hkp];refine aB.2 ⟨a.v.p,a.v.b.length,a.v.c,?_,?_⟩
   ·rw[aL];exact hh.2.1
   refine my (av.row.frame f3 (λ_ _ x=>x)) rfl (by omega) λp4 c4 h4 o4 f4 g4=>⟨_,_,_,rfl,?_⟩
   exact k1 a.v.b rfl h4 p4 c4 o4 (f1.tt (f3.tt f4)) (λx hx=>by have:=g4 x hx;have:=(f1.tt f3).1;omega)
 ·rw[ag (by rfl)];rw[wz (by rw[aN];exact hn)] at k2;exact k2 rfl h1 f1
theorem QO.aqL {s:SC} {h1 mE:aj} {K':List BV} {np':bU} {nc':Nat} {E:Nat->Prop} (TT:QO h1 t fX X.D L) (hS: ∀c,X.M c↔ ∃r,fX c=some r) (hs:L[i]? =some s) (ES:At mE { s with notes:=K',np:=np',nc:=nc' })
  (adO:iR mE np' K'.length nc' 1 (K'.flatMap IF)) (hnp: ∀c,aQ np' c->aQ s.np c\/h1.size<=c) (f:Fr (λx=>x=s.b\/aQ s.np x) h1 mE) (hE: ∀c,E c->fX c=none/\c<mE.size/\¬aQ np' c) (hd: ∀n∈K',n.ok mE (λc=>X.D c\/E c)):
  ∃X',DK mE t X' ((L.map SC.abs).set i { s.abs with notes:=K'.map BV.b }) (L.map SC.b)/\Fr X.M h1 mE/\(∀c,X'.M c->X.M c\/h1.size<=c)/\(∀c,X'.D c->X.D c\/E c)/\∀c,X.D c->X'.D c:=by
 have SA:=TT.ses i s hs;have nbk: ∀c,aQ s.kp c->c≠s.b:=λc hc e=>by have h1:=SA.kl c hc;rw[e,SA.lb] at h1;simp at h1
 have nkn: ∀c,aQ s.kp c->¬aQ s.np c:=λc hc h2=>by have h1:=SA.kl c hc;rw[SA.nl c h2] at h1;simp at h1
 have kD: ∀c,X.D c->¬(c=s.b\/aQ s.np c):=λc hc hx=>hx.elim (λe=>TT.ap c _ (e▸SA.lb) hc) (λhx=>TT.ap c _ (SA.nl c hx) hc)
 exact TT.amC (s':= { s with notes:=K',np:=np',nc:=nc' }) (E:=E) hS hs rfl f (λc hx=>hx.elim (λe=>⟨_,e▸SA.lb,by omega,by omega⟩) (λhx=>⟨_,SA.nl c hx,by omega,by omega⟩)) ES
  (SA.CT.frame f (λc hc hx=>hx.elim (nbk c hc) (nkn c hc))) (λc hc=> .inl (SA.kl c hc)) adO (λc hc=>(hnp c hc).imp (SA.nl c) id)
  (λc h2 hc=>(hnp c hc).elim (λhx=>nkn c h2 hx) (λhx=>by have:=SA.CT.gm h2;omega))
  (λc hc=>⟨(hE c hc).1,(hE c hc).2.1,(λhx=>by have a:=SA.kl c hx;rw[(hE c hc).1] at a;cases a),(hE c hc).2.2⟩)
  (λa ha=>((SA.kd a ha).frame f kD).mono (λc=> .inl)) hd
theorem QO.notes {s:SC} {h1 mE:aj} {K':List BV} {np':bU} {nc':Nat} {E:Nat->Prop} (TT:QO h1 t fX X.D L) (hS: ∀c,X.M c↔ ∃r,fX c=some r) (hs:L[i]? =some s) (ES:At mE { s with notes:=K',np:=np',nc:=nc' })
  (adO:iR mE np' K'.length nc' 1 (K'.flatMap IF)) (hnp: ∀c,aQ np' c->aQ s.np c\/h1.size<=c) (f:Fr (λx=>x=s.b\/aQ s.np x) h1 mE) (hE: ∀c,E c->h1.size<=c/\c<mE.size/\¬aQ np' c) (hd: ∀n∈K',n.ok mE (λc=>X.D c\/E c)):
  ∃X',DK mE t X' ((L.map SC.abs).set i { s.abs with notes:=K'.map BV.b }) (L.map SC.b)/\bM X h1 X' mE:=by
 have SA:=TT.ses i s hs;have nbk: ∀c,aQ s.kp c->c≠s.b:=λc hc e=>by have h1:=SA.kl c hc;rw[e,SA.lb] at h1;simp at h1
 have nkn: ∀c,aQ s.kp c->¬aQ s.np c:=λc hc h2=>by have h1:=SA.kl c hc;rw[SA.nl c h2] at h1;simp at h1
 have kD: ∀c,X.D c->¬(c=s.b\/aQ s.np c):=λc hc hx=>hx.elim (λe=>TT.ap c _ (e▸SA.lb) hc) (λhx=>TT.ap c _ (SA.nl c hx) hc)
 exact TT.upd (s':= { s with notes:=K',np:=np',nc:=nc' }) (E:=E) hS hs rfl f (λc hx=>hx.elim (λe=>⟨_,e▸SA.lb,by omega,by omega⟩) (λhx=>⟨_,SA.nl c hx,by omega,by omega⟩)) ES
  (SA.CT.frame f (λc hc hx=>hx.elim (nbk c hc) (nkn c hc))) (λc hc=> .inl (SA.kl c hc)) adO (λc hc=>(hnp c hc).imp (SA.nl c) id)
  (λc h2 hc=>(hnp c hc).elim (λhx=>nkn c h2 hx) (λhx=>by have:=SA.CT.gm h2;omega))
  (λc hc=>⟨(hE c hc).1,(hE c hc).2.1,λhx=>by have:=SA.CT.gm hx;have:=(hE c hc).1;omega,(hE c hc).2.2⟩)
  (λa ha=>((SA.kd a ha).frame f kD).mono (λc=> .inl)) hd
theorem Fm {num:Int} (H:Has h t X A) (ok:Dw A)
  (hk: ∀h' X' p' c',Has h' t X' (Nr A num)->bM X h X' h'->BV.ok h' X'.D ⟨p',c',Nq A num⟩->R (.tuple #[.slice p' (Nq A num).length c',.I (WI A num),.I (acW A num)]) h'):
  Cl F.lg #[.P t 0,.I num] h R:=by
 have H0:=H;obtain⟨_,fX,L,TB,rfl,_,hS⟩:=H;have hl:=ok.le;rw[aN] at hl;unfold Nr Nq WI acW at hk;refine lg.walk (oQ TB (λi s e hs=>⟨_,_,rfl,aK.of λJ hJ=> ?_⟩) (λhn=>⟨_,_,rfl,aK.of λJ hJ=> ?_⟩) (by omega))
 ·rw[ag (by rfl)];subst e;rw[Dx,yP hs] at hk;dsimp only at hk;have SA:=TB.ses i s hs;have Gr:=ok.at_ i _ (yP hs);have nl:s.notes.length<=6:=by have:=Gr.nl;rwa[show s.abs.notes.length=s.notes.length from aN _] at this
  refine aB.2 ⟨_,_,_,af SA.dE rfl,?_⟩;subst hJ;dsimp only;have aqM:s.abs.notes=s.notes.map BV.b:=rfl;have yW: ∀s':gU,yO (L.map SC.abs) ((i:Int)+1) s'=(L.map SC.abs).set i s':=λs'=>by unfold yO;rw[show((i:Int)+1 - 1).toNat=i by omega]
  rw[yW,aqM,aN] at hk;cases La:s.notes with
  |nil=>
   rw[La] at hk;rw[ag (by rfl)];have aoc:(L.map SC.abs).set i { s.abs with notes:= [] } =L.map SC.abs:=by
    refine FI ?_;rw[yP hs];congr 1
    unfold SC.abs;rw[La];rfl
   refine hk h X none 0 ?_ (bM.refl _ _) ⟨.inl rfl,λkA=>absurd rfl kA,by simp⟩;have:(List.drop 1 (List.map BV.b []))=([]:List (List UInt8)):=rfl;rw[this,aoc];exact H0
  |cons x rest=>
   have kA:((((x::rest).length:Nat):Int)==0)=false:=by simp only[bj,beq_eq_false_iff_ne,iq];omega
   rw[ai (by rw[kA];simp)];have nbn: ∀c,aQ s.np c->c≠s.b:=λc hc e=>by have h1:=SA.nl c hc;rw[e,SA.lb] at h1;simp at h1
   have own:=SA.II;have ES:=SA.dE;rw[La] at own hk nl;have akv:h[s.b]? =some (.cells #[.I (s.num:Int),.U (s.token:Int),.bool s.up,.bool s.watch,.slice s.kp s.kept.length s.kc,.slice s.np (x::rest).length s.nc] T.ij (0,0)):=by
    have:At h s:=ES;unfold At ij.at at this;rwa[La] at this
   obtain⟨ab,AG,hnp⟩:=own.addr (by simp);have akw:=own;rw[hnp] at akw;have hx0:=akw.lj Fo (i:=0) (x:=x) rfl;refine aB.2 ⟨_,_,_,af akv rfl,⟨by omega,by simp only[bj];omega⟩,?_⟩;rw[hnp];refine aB.2 ⟨x.p,x.b.length,x.c,?_,aB.2 ⟨some (AA ab AG),(x::rest).length,s.nc,?_,⟨by omega,by simp only[bj];omega⟩,?_⟩⟩
   ·have:=hx0.1;rw[Nat.zero_mul,jz,jz] at this;rw[show Int.toNat 0*1=0 from rfl,jz];exact this
   ·rw[<-hnp];exact af akv rfl
   have adP:=akw.sub (l:=1) (u:=(x::rest).length) (by simp) (bh _);rw[<-gW IF 1 Fo (x::rest),iF,y7 IF 1 Fo] at adP;refine aaE (xs:=rest) adP.pZ (by simp) (by simp only[bj] at nl;omega) λp3 c3 h3 o3 f3 g3=>⟨_,_,_,rfl,aB.2 ?_⟩
   have q3:=f3.get akv id;refine bL q3 (by simp) λh4 r1 r2 r3=> ?_
   have f4:Fr (λx=>x=s.b) h3 h4:=Fr.of_eq r2 r3;have sb1:s.b<h.size:=aI ES;have z3:=f3.1;have F4:Fr (λx=>x=s.b) h h4:=(f3.mono (λ_ _=>False.elim)).tt f4;have kD: ∀c,X.D c->c≠s.b:=λc hc e=>TB.ap c _ (e▸SA.lb) hc
   have nd': ∀n∈x::rest,n.ok h4 X.D:=λn hn=>(SA.nd n (by rw[La];exact hn)).frame F4 kD
   obtain⟨X',HH,st⟩:=TB.notes (K':=rest) (np':=p3) (nc':=c3) (E:=λ_=>False) hS hs r1 (o3.frame f4 (λc hc e=>by have:=g3 c hc;omega)) (λc hc=> .inr (g3 c hc)) (F4.mono (λ_ _ hx=> .inl hx)) (λc hc=>hc.elim) (λn hn=>(nd' n (cM _ hn)).mono (λc=> .inl));have hxD:BV.ok h4 X'.D x:=(nd' x dX).mono st.Iw;exact hk h4 X' x.p x.c ⟨_,HH⟩ st hxD
 ·rw[ai (by simp)];subst hJ;dsimp only;rw[wz (by rw[aN];exact hn)] at hk;rw[ag (by rfl)];exact hk h X none 0 H0 (bM.refl _ _) ⟨.inl rfl,λkA=>absurd rfl kA,by simp⟩
end gU
end
section
open Go.jH
namespace gJ
open qI (Ev dj uG an3)
open vf
variable {h h':aj} {R:iI} {k:Nat}
theorem XC {e:Ev} {tm sq:Nat} (M:Mk h k e tm sq) (hk: ∀h',Fr No h h'->R (.agg #[.bool e.vD,.U e.node,.U e.l6,.string e.host,.string e.sM,.U (tm:Int),.U (sq:Int)]) h'):
  Cl F.gP #[pt k] h R:=by
 refine gP.walk (ah.box λb h1 eb hb f1=> ?_);have M1:=f1.get M id;refine aK.of λJ hJ=>⟨_,af M1 rfl,?_⟩
 subst hJ;dsimp only;rw[dL];refine⟨_,af M1 rfl,_,af M1 rfl,_,af M1 rfl,_,af M1 rfl,_,af M1 rfl,_,af M1 rfl,_,af M1 rfl,ah.set hb λh2 a1 a2 a3=>ah.ld a1 (hk h2 (f1.fresh (Fr.of_eq (S:=λy=>y=b) a2 a3) (λy e=>by omega)))⟩
end gJ
end
end Go.Proofs.YtlenamcfacpheaaGreatDoor
