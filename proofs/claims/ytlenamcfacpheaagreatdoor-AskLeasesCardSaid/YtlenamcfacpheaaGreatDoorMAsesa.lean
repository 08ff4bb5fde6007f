/-
  EI is proved here: parts of w5 proof, one behind w5 other (texts of this work, merged by a program; Iy w5 theorem Iz not use is left out). No condition.
-/
import Derived.OrdersHeld
import Derived.Scope
import Derived.KernelRfl
import Derived.IntWalk
import Derived.ProofKit
import Derived.ChangeOld
import Derived.Below
import Derived.Carry
import Derived.OpenShut
set_option maxRecDepth 100000
set_option maxHeartbeats 4000000
namespace Go
section
variable {c p q r:Prop}
abbrev cj:=Option Addr
abbrev fx:=Value→Array Obj→Prop
abbrev gi:ByteArray:=⟨#[]⟩
abbrev AA(b i:Nat):Addr:=⟨b,i,none⟩
abbrev Value.I(x:Int):Value:=.int .i64 x
abbrev Value.U(x:Int):Value:=.int .u64 x
abbrev Value.P(b i:Nat):Value:=.pointer (some ⟨b,i,none⟩)
abbrev Value.Z:Value:=.slice none 0 0
theorem cW{i:Decidable c}{α:Sort _}{t e:α}(h: ¬c:=by first|decide|omega|(simp only[decide_eq_true_eq];omega)):ite c t e=e:=if_neg h
theorem fO{i:Decidable c}{α:Sort _}{t e:α}(h:c:=by first|decide|omega|exact decide_eq_true (by omega)):ite c t e=t:=if_pos h
theorem ae(h:p:=by omega):p:=h
theorem cM(h:p:=by decide):p:=h
theorem bM(h:p:=by simp):p:=h
theorem db(h:p:=by kernel_rfl):p:=h
theorem cf(h:q)(g:q→p:=by intro;omega):p:=g h
theorem ig(h:q)(k:r)(g:q→r→p:=by intro _ _;omega):p:=g h k
theorem rh{s:Prop}(h:q)(k:r)(l:s)(g:q→r→s→p:=by intro _ _ _;omega):p:=g h k l
theorem cD(h:q)(g:q→p:=by intro h;simpa using h):p:=g h
theorem eu:type_of% @Array.getD_eq_getD_getElem?:=@Array.getD_eq_getD_getElem?
theorem dv:type_of% @Array.getElem?_append_left:=@Array.getElem?_append_left
theorem dE:type_of% @Array.getElem?_modify:=@Array.getElem?_modify
theorem fb:type_of% @Array.getElem?_push:=@Array.getElem?_push
theorem ct:type_of% @Array.getElem?_setIfInBounds:=@Array.getElem?_setIfInBounds
theorem df:type_of% @Array.getElem?_toList:=@Array.getElem?_toList
theorem dQ:type_of% @Array.length_toList:=@Array.length_toList
theorem dN:type_of% @Array.size_push:=@Array.size_push
theorem aT:type_of% @Bool.and_eq_true:=@Bool.and_eq_true
theorem eJ:type_of% @Bool.false_and:=@Bool.false_and
theorem au:type_of% @Bool.false_eq_true:=@Bool.false_eq_true
theorem eh:type_of% @Bool.not_false:=@Bool.not_false
theorem cQ:type_of% @Bool.not_true:=@Bool.not_true
theorem dA:type_of% @Bool.true_and:=@Bool.true_and
theorem dU:type_of% @Iff.rfl:=@Iff.rfl
theorem gR:type_of% @Int.eq_ofNat_of_zero_le:=@Int.eq_ofNat_of_zero_le
theorem dW:type_of% @Int.le_refl:=@Int.le_refl
theorem aI:type_of% @Int.toNat_natCast:=@Int.toNat_natCast
theorem fp:type_of% @List.Pairwise.filter:=@List.Pairwise.filter
theorem eK:type_of% @List.Pairwise.sublist:=@List.Pairwise.sublist
theorem ff:type_of% @List.Sublist.map:=@List.Sublist.map
theorem cX:type_of% @List.append_assoc:=@List.append_assoc
theorem dB:type_of% @List.cons_append:=@List.cons_append
theorem cF:type_of% @List.drop_eq_getElem_cons:=@List.drop_eq_getElem_cons
theorem dK:type_of% @List.drop_of_length_le:=@List.drop_of_length_le
theorem fY:type_of% @List.drop_zero:=@List.drop_zero
theorem e8:type_of% @List.ext_getElem?:=@List.ext_getElem?
theorem fh:type_of% @List.filter_append:=@List.filter_append
theorem dG:type_of% @List.filter_congr:=@List.filter_congr
theorem bU:type_of% @List.filter_cons:=@List.filter_cons
theorem cb:type_of% @List.filter_eq_self:=@List.filter_eq_self
theorem dk:type_of% @List.filter_map:=@List.filter_map
theorem cA:type_of% @List.filter_sublist:=@List.filter_sublist
theorem cV:type_of% @List.findIdx?_eq_none_iff:=@List.findIdx?_eq_none_iff
theorem cv:type_of% @List.findIdx?_eq_some_iff_getElem:=@List.findIdx?_eq_some_iff_getElem
theorem cU:type_of% @List.flatMap_append:=@List.flatMap_append
theorem fz:type_of% @List.flatMap_cons:=@List.flatMap_cons
theorem aX:type_of% @List.getD_eq_getElem?_getD:=@List.getD_eq_getElem?_getD
theorem cN:type_of% @List.getElem?_append_left:=@List.getElem?_append_left
theorem cH:type_of% @List.getElem?_append_right:=@List.getElem?_append_right
theorem dq:type_of% @List.getElem?_cons_succ:=@List.getElem?_cons_succ
theorem dt:type_of% @List.getElem?_cons_zero:=@List.getElem?_cons_zero
theorem ft:type_of% @List.getElem?_drop:=@List.getElem?_drop
theorem aj:type_of% @List.getElem?_eq_getElem:=@List.getElem?_eq_getElem
theorem dh:type_of% @List.getElem?_eq_none:=@List.getElem?_eq_none
theorem aC:type_of% @List.getElem?_eq_some_iff:=@List.getElem?_eq_some_iff
theorem dR:type_of% @List.getElem?_inj:=@List.getElem?_inj
theorem aM:type_of% @List.getElem?_map:=@List.getElem?_map
theorem bx:type_of% @List.getElem?_of_mem:=@List.getElem?_of_mem
theorem di:type_of% @List.getElem?_set:=@List.getElem?_set
theorem cI:type_of% @List.getElem?_take:=@List.getElem?_take
theorem dC:type_of% @List.getElem_mem:=@List.getElem_mem
theorem aA:type_of% @List.length_append:=@List.length_append
theorem ba:type_of% @List.length_cons:=@List.length_cons
theorem bN:type_of% @List.length_drop:=@List.length_drop
theorem cg:type_of% @List.length_filter_le:=@List.length_filter_le
theorem aJ:type_of% @List.length_map:=@List.length_map
theorem bt:type_of% @List.length_nil:=@List.length_nil
theorem du:type_of% @List.length_set:=@List.length_set
theorem dy:type_of% @List.length_singleton:=@List.length_singleton
theorem bF:type_of% @List.length_take:=@List.length_take
theorem bf:type_of% @List.map_append:=@List.map_append
theorem dS:type_of% @List.map_congr_left:=@List.map_congr_left
theorem bV:type_of% @List.map_cons:=@List.map_cons
theorem dH:type_of% @List.map_map:=@List.map_map
theorem bJ:type_of% @List.mem_append:=@List.mem_append
theorem dI:type_of% @List.mem_append_left:=@List.mem_append_left
theorem dV:type_of% @List.mem_append_right:=@List.mem_append_right
theorem bD:type_of% @List.mem_cons:=@List.mem_cons
theorem cu:type_of% @List.mem_cons_of_mem:=@List.mem_cons_of_mem
theorem cZ:type_of% @List.mem_cons_self:=@List.mem_cons_self
theorem aW:type_of% @List.mem_filter:=@List.mem_filter
theorem bg:type_of% @List.mem_map:=@List.mem_map
theorem br:type_of% @List.mem_map_of_mem:=@List.mem_map_of_mem
theorem bj:type_of% @List.mem_of_getElem?:=@List.mem_of_getElem?
theorem bH:type_of% @List.mem_singleton:=@List.mem_singleton
theorem dz:type_of% @List.nil_append:=@List.nil_append
theorem dX:type_of% @List.nodup_append:=@List.nodup_append
theorem en:type_of% @List.nodup_cons:=@List.nodup_cons
theorem dx:type_of% @List.pairwise_cons:=@List.pairwise_cons
theorem dY:type_of% @List.pairwise_map:=@List.pairwise_map
theorem dD:type_of% @List.perm_append_singleton:=@List.perm_append_singleton
theorem fu:type_of% @List.range_eq_range':=@List.range_eq_range'
theorem bL:type_of% @List.take_add_one:=@List.take_add_one
theorem fi:type_of% @List.take_length:=@List.take_length
theorem bG:type_of% @List.take_of_length_le:=@List.take_of_length_le
theorem fF:type_of% @List.take_succ_cons:=@List.take_succ_cons
theorem dM:type_of% @List.take_zero:=@List.take_zero
theorem dL:type_of% @Nat.add_mul:=@Nat.add_mul
theorem bO:type_of% @Nat.eq_of_beq_eq_true:=@Nat.eq_of_beq_eq_true
theorem aZ:type_of% @Nat.le_refl:=@Nat.le_refl
theorem cJ:type_of% @Nat.le_trans:=@Nat.le_trans
theorem cy:type_of% @Nat.lt_of_lt_of_le:=@Nat.lt_of_lt_of_le
theorem fL:type_of% @Nat.mod_eq_of_lt:=@Nat.mod_eq_of_lt
theorem fG:type_of% @Nat.mul_comm:=@Nat.mul_comm
theorem cB:type_of% @Nat.mul_le_mul_right:=@Nat.mul_le_mul_right
theorem cr:type_of% @Nat.mul_one:=@Nat.mul_one
theorem fv:type_of% @Nat.pow_le_pow_right:=@Nat.pow_le_pow_right
theorem bE:type_of% @Nat.zero_add:=@Nat.zero_add
theorem bP:type_of% @Nat.zero_le:=@Nat.zero_le
theorem e6:type_of% @Ne.symm:=@Ne.symm
theorem eL:type_of% @Option.isSome_iff_exists:=@Option.isSome_iff_exists
theorem cO:type_of% @Option.map_some:=@Option.map_some
theorem bn:type_of% @Option.some.inj:=@Option.some.inj
theorem bw:type_of% @Option.some.injEq:=@Option.some.injEq
theorem fS:type_of% @Prod.mk.injEq:=@Prod.mk.injEq
theorem eN:type_of% @UInt8.toNat_ofNat':=@UInt8.toNat_ofNat'
theorem dj:type_of% @beq_eq_false_iff_ne:=@beq_eq_false_iff_ne
theorem cP:type_of% @beq_iff_eq:=@beq_iff_eq
theorem eP:type_of% @beq_self_eq_true:=@beq_self_eq_true
theorem fV:type_of% @bne_eq_false_iff_eq:=@bne_eq_false_iff_eq
theorem dJ:type_of% @bne_iff_ne:=@bne_iff_ne
theorem bY:type_of% @congrArg:=@congrArg
theorem az:type_of% @decide_eq_false:=@decide_eq_false
theorem ee:type_of% @decide_eq_false_iff_not:=@decide_eq_false_iff_not
theorem aq:type_of% @decide_eq_true:=@decide_eq_true
theorem aY:type_of% @decide_eq_true_eq:=@decide_eq_true_eq
theorem bk:type_of% @decide_false:=@decide_false
theorem bA:type_of% @decide_true:=@decide_true
theorem aN:type_of% @if_false:=@if_false
theorem ag:type_of% @if_neg:=@if_neg
theorem af:type_of% @if_pos:=@if_pos
theorem bh:type_of% @if_true:=@if_true
theorem fa:type_of% @ne_eq:=@ne_eq
theorem fj:type_of% @of_decide_eq_false:=@of_decide_eq_false
theorem aQ:type_of% @of_decide_eq_true:=@of_decide_eq_true

end
end Go
namespace Go.Den
section
variable {P:Program} {F:Value->Prop} {t:TypeId}
abbrev ai:=Array Obj
abbrev Env:=Nat->Option Value
def aB(h:ai)(a:Addr):Option Value:=
 match h[a.block]? with
 |some (.cells c _ _)=>if a.spot.isSome then none else c[a.off]?
 |_=>none
def nE(h:ai)(r:Nat):Option (TypeId×Nat):=
 match h[r]? with
 |some (.cells c elem _)=>some (elem,c.size)
 |_=>none
def nF(h:ai)(a:Addr):Bool:=
 match h[a.block]? with
 |some (.cells _ _ (l,H))=>l<=a.off && a.off<H
 |_=>false
def nG(h:ai)(a:Addr)(n:Nat):ai:=
 if n=0 then h else
 h.modify a.block fun
   | .cells c elem (l,H)=> .cells c elem (if l==H then(a.off,a.off+n)else(min l a.off,max H (a.off+n)))
   |o=>o
def mN(h:ai)(a:Addr)(v:Value):ai:=
 h.modify a.block fun
   | .cells c elem frozen=> .cells (if a.spot.isSome then c else c.setIfInBounds a.off v) elem frozen
   |o=>o
theorem j0(w:World)(a:Addr):w.cell? a=aB w.heap a:=rfl
theorem Kr(w:World)(r:Nat):w.shape? r=nE w.heap r:=rfl
theorem tT(w:World)(a:Addr):w.frozen? a=nF w.heap a:=rfl
theorem rj(w:World)(a:Addr)(v:Value):(w.setCell a v).heap=mN w.heap a v:=rfl
theorem IA(w:World)(a:Addr)(n:Nat):(w.freeze a n).heap=nG w.heap a n:=by
 unfold World.freeze nG;split<;>rfl
def fc(w w':World):Prop:=w'.os=w.os/\w'.output=w.output/\w'.tape=w.tape
theorem fc.refl(w:World):fc w w:=⟨rfl,rfl,rfl⟩
theorem fc.trans{a b c:World}(h:fc a b)(h':fc b c):fc a c:=⟨h'.1.trans h.1,h'.2.1.trans h.2.1,h'.2.2.trans h.2.2⟩
def fH:Value->Bool
 | .agg _| .tuple _=>false
 |_=>true
def aV(P:Program){α:Type}:Sem α->ai->(α->ai->Prop)->Prop
 | .pure a,h,K=>K a h
 | .load _ a k,h,K=> ∃v,aB h a=some v/\aV P (k v) h K
 | .store _ a v k,h,K=>fH v=true/\(aB h a).isSome=true/\nF h a=false/\aV P k (mN h a v) K
 | .new o k,h,K=>aV P (k h.size) (h.push o) K
 | .shape r k,h,K=>aV P (k (nE h r)) h K
 | .freeze a n k,h,K=>aV P k (nG h a n) K
 | .frozen a k,h,K=>aV P (k (nF h a)) h K
 | .getObj r k,h,K=> ∃o,h[r]? =some o/\(∀c e f,o≠ .cells c e f)/\aV P (k o) h K
 | .setObj r o k,h,K=>(∃O,h[r]? =some O/\(∀c e f,O≠ .cells c e f))/\aV P k (h.setIfInBounds r o) K
 | .choose q k,h,K=>if q.forced=true then aV P (k 0) h K else∀t,aV P (k (q.cut t)) h K
 | .sys _ _,_,_=>False
 | .program k,h,K=>aV P (k P) h K
 | .mark _ k,h,K=>aV P k h K
 | .halt _,_,_=>False
theorem jz{α:Type}(s:Sem α): ∀(h:ai){K K':α->ai->Prop},(∀a h,K a h->K' a h)->aV P s h K->aV P s h K':=by
 induction s with
 |pure a=>intro h K K' hk H;exact hk _ _ H
 |load m a k i=>intro h K K' hk H;obtain⟨v,b,d⟩:=H;exact⟨v,b,i v h hk d⟩
 |store m a v k i=>intro h K K' hk H;obtain⟨b,d,e,g⟩:=H;exact⟨b,d,e,i _ hk g⟩
 |new o k i=>intro h K K' hk H;exact i _ _ hk H
 |shape r k i=>intro h K K' hk H;exact i _ _ hk H
 |freeze a n k i=>intro h K K' hk H;exact i _ hk H
 |frozen a k i=>intro h K K' hk H;exact i _ _ hk H
 |getObj r k i=>intro h K K' hk H;obtain⟨o,b,d,e⟩:=H;exact⟨o,b,d,i _ _ hk e⟩
 |setObj r o k i=>intro h K K' hk H;exact⟨H.1,i _ hk H.2⟩
 |choose q k i=>
  intro h K K' hk H;unfold aV at H⊢;split
  .rename_i f;rw[af f]at H;exact i _ _ hk H
  .rename_i f;rw[ag f]at H;exact λt=>i _ _ hk (H t)
 |sys c k i=>intro h K K' hk H;exact H
 |program k i=>intro h K K' hk H;exact i _ _ hk H
 |mark m k i=>intro h K K' hk H;exact i _ hk H
 |halt x=>intro h K K' hk H;exact H
theorem CO{α b:Type}(s:Sem α)(f:α->Sem b): ∀(h:ai)(K:b->ai->Prop),aV P (s.bind f) h K↔aV P s h (λa h'=>aV P (f a) h' K):=by
 induction s with
 |pure a=>intro h K;exact dU
 |load m a k i=>intro h K;simp only[Sem.bind,aV,i]
 |store m a v k i=>intro h K;simp only[Sem.bind,aV,i]
 |new o k i=>intro h K;simp only[Sem.bind,aV,i]
 |shape r k i=>intro h K;simp only[Sem.bind,aV,i]
 |freeze a n k i=>intro h K;simp only[Sem.bind,aV,i]
 |frozen a k i=>intro h K;simp only[Sem.bind,aV,i]
 |getObj r k i=>intro h K;simp only[Sem.bind,aV,i]
 |setObj r o k i=>intro h K;simp only[Sem.bind,aV,i]
 |choose q k i=>intro h K;simp only[Sem.bind,aV,i]
 |sys c k i=>intro h K;simp only[Sem.bind,aV]
 |program k i=>intro h K;simp only[Sem.bind,aV,i]
 |mark m k i=>intro h K;simp only[Sem.bind,aV,i]
 |halt x=>intro h K;simp only[Sem.bind,aV]
theorem nH{α:Type}(s:Sem α): ∀(h:ai)(K:α->ai->Prop),aV P s h K->
  ∀w:World,w.heap=h->∃a w',s.run P w=.ok a w'/\K a w'.heap/\fc w w':=by
 induction s with
 |pure a=>intro h K H w b;subst b;exact⟨a,w,rfl,H,fc.refl w⟩
 |load m a k i=>
  intro h K H w b;subst b;obtain⟨v,f,g⟩:=H;obtain⟨x,w',R,d⟩:=i v _ _ g w rfl;exact⟨x,w',by simp[Sem.run,j0,f,R],d⟩
 |store m a v k i=>
  intro h K H w b;subst b;obtain⟨f,g,j,y⟩:=H;obtain⟨u,p⟩:=eL.1 g;obtain⟨x,w',R,d,e⟩:=i _ _ y (w.setCell a v) (rj w a v);refine⟨x,w',?_,d,e⟩;rw[<-j0]at p;rw[<-tT]at j;cases v<;>simp[fH]at f<;>simp[Sem.run,p,j,R]
 |new o k i=>
  intro h K H w b;subst b;obtain⟨x,w',R,d,e⟩:=i _ _ _ H { w with heap:=w.heap.push o } rfl;exact⟨x,w',R,d,e⟩
 |shape r k i=>
  intro h K H w b;subst b;obtain⟨x,w',R,d⟩:=i _ _ _ H w rfl;exact⟨x,w',by rw[<-Kr]at R;simp[Sem.run,R],d⟩
 |freeze a n k i=>
  intro h K H w b;subst b;obtain⟨x,w',R,d,e⟩:=i _ _ H (w.freeze a n) (IA w a n);refine⟨x,w',by simp[Sem.run,R],d,?_⟩;refine fc.trans ?_ e;unfold World.freeze;split<;>exact⟨rfl,rfl,rfl⟩
 |frozen a k i=>
  intro h K H w b;subst b;obtain⟨x,w',R,d⟩:=i _ _ _ H w rfl;exact⟨x,w',by rw[<-tT]at R;simp[Sem.run,R],d⟩
 |getObj r k i=>
  intro h K H w b;subst b;obtain⟨o,f,g,j⟩:=H;obtain⟨x,w',R,d⟩:=i _ _ _ j w rfl;refine⟨x,w',?_,d⟩;cases o<;>first|exact absurd rfl (g _ _ _)|simp[Sem.run,f,R]
 |setObj r o k i=>
  intro h K H w b;subst b;obtain⟨⟨O,f,g⟩,j⟩:=H;obtain⟨x,w',R,d,e⟩:=i _ _ j { w with heap:=w.heap.setIfInBounds r o } rfl;refine⟨x,w',?_,d,e⟩;cases O<;>first|exact absurd rfl (g _ _ _)|simp[Sem.run,f,R]
 |choose q k i=>
  intro h K H w b;subst b;unfold aV at H;split at H
  .rename_i l;obtain⟨x,w',R,d⟩:=i _ _ _ H w rfl;exact⟨x,w',by simp[Sem.run,l,R],d⟩
  .rename_i l;obtain⟨x,w',R,d,e⟩:=i _ _ _ (H (w.tape w.drawn q)) { w with drawn:=w.drawn+1 } rfl;exact⟨x,w',by simp only[Sem.run,ag l];exact R,d,e⟩
 |sys c k i=>intro h K H;exact H.elim
 |program k i=>
  intro h K H w b;subst b;obtain⟨x,w',R,d⟩:=i _ _ _ H w rfl;exact⟨x,w',by simp[Sem.run,R],d⟩
 |mark m k i=>
  intro h K H w b;subst b;obtain⟨x,w',R,d⟩:=i _ _ H w rfl;exact⟨x,w',by simp[Sem.run,R],d⟩
 |halt x=>intro h K H;exact H.elim
def rd(P:Program){α:Type}:Sem α->ai->Option α
 | .pure a,_=>some a
 | .load _ a k,h=>(match aB h a with|some v=>rd P (k v) h|none=>none)
 | .shape r k,h=>rd P (k (nE h r)) h
 | .frozen a k,h=>rd P (k (nF h a)) h
 | .getObj r k,h=>(match h[r]? with|some (.cells _ _ _)=>none|some o=>rd P (k o) h|none=>none)
 | .program k,h=>rd P (k P) h
 | .mark _ k,h=>rd P k h
 |_,_=>none
theorem Ks{α:Type}(s:Sem α): ∀(h:ai)(a:α),rd P s h=some a->∀K:α->ai->Prop,K a h->aV P s h K:=by
 induction s with
 |pure b=>intro h a e K hk;simp only[rd,bw]at e;subst e;exact hk
 |load m b k i=>
  intro h a e K hk;simp only[rd]at e;split at e
  .rename_i v j;exact⟨v,j,i v h a e K hk⟩
  .cases e
 |shape r k i=>intro h a e K hk;exact i _ h a e K hk
 |frozen b k i=>intro h a e K hk;exact i _ h a e K hk
 |getObj r k i=>
  intro h a e K hk;simp only[rd]at e;split at e
  .cases e
  .rename_i o d g;exact⟨o,g,λc e f H=>d c e f (H▸rfl),i _ h a e K hk⟩
  .cases e
 |program k i=>intro h a e K hk;exact i _ h a e K hk
 |mark m k i=>intro h a e K hk;exact i h a e K hk
 |_=>intro h a e;simp[rd]at e
theorem oT{α:Type}(s:Sem α): ∀(w:World)(a:α),rd P s w.heap=some a->s.run P w=.ok a w:=by
 induction s with
 |pure b=>intro w a e;simp only[rd,bw]at e;subst e;rfl
 |load m b k i=>
  intro w a e;simp only[rd]at e;split at e
  .rename_i v h;rw[<-j0]at h;simp only[Sem.run,h];exact i v w a e
  .cases e
 |shape r k i=>intro w a e;exact i _ w a e
 |frozen b k i=>intro w a e;exact i _ w a e
 |getObj r k i=>
  intro w a e;simp only[rd]at e;split at e
  .cases e
  .rename_i o H c;cases o<;>first|exact absurd rfl (H _ _ _)|(simp only[Sem.run,c];exact i _ w a e)
  .cases e
 |program k i=>intro w a e;exact i _ w a e
 |mark m k i=>intro w a e;exact i w a e
 |_=>intro w a e;simp[rd]at e
theorem bm{α g:Type}(s:Sem α)(f:α->Sem g): ∀(h:ai)(a:α),rd P s h=some a->rd P (s>>=f) h=rd P (f a) h:=by
 show∀(h:ai)(a:α),rd P s h=some a->rd P (s.bind f) h=rd P (f a) h;induction s with
 |pure b=>intro h a e;simp only[rd,bw]at e;subst e;rfl
 |load m b k i=>
  intro h a e;simp only[rd]at e;split at e
  .rename_i v d;simp only[Sem.bind,rd,d];exact i v h a e
  .cases e
 |shape r k i=>intro h a e;exact i _ h a e
 |frozen b k i=>intro h a e;exact i _ h a e
 |getObj r k i=>
  intro h a e;simp only[rd]at e;split at e
  .cases e
  .rename_i o H c;cases o<;>first|exact absurd rfl (H _ _ _)|(simp only[Sem.bind,rd,c];exact i _ h a e)
  .cases e
 |program k i=>intro h a e;exact i _ h a e
 |mark m k i=>intro h a e;exact i h a e
 |_=>intro h a e;simp[rd]at e
def ar(P:Program)(f:FuncId)(args:Array Value)(h:ai)(R:fx):Prop:=
 ∀w:World,w.heap=h->Calls P f args w (λe w'=> ∃v,e=.returned v/\R v w'.heap/\fc w w')
theorem ar.mono{f:FuncId}{args:Array Value}{h:ai}{R r:fx}(b:ar P f args h R)(c: ∀v h',R v h'->r v h'):ar P f args h r:=
 λw e=>(b w e).mono λ_ _ ⟨v,a,H,d⟩=>⟨v,a,c _ _ H,d⟩
def Rt(P:Program)(K:fx):Next->ai->Prop
 | .value v,h=>K v h
 | .skip,h=>K undef h
 | .enter f args,h=>ar P f args h K
 |_,_=>False
def oU(P:Program)(o:Oper)(a:Operand->Value)(h:ai)(K:fx):Prop:=
 aV P (execOp a o) h (Rt P K)
theorem oU.wp{o:Oper}{a:Act}{w:World}{K:fx}{next:Act->World->Prop}{Q:Exit->Act->World->Prop}(b:oU P o a.eval w.heap K)(h: ∀v w',K v w'.heap->fc w w'->next (a.put o.dst v) w'):o.wp P a w next Q:=by
 obtain⟨x,w',d,r,R⟩:=nH _ _ _ b w rfl;unfold Oper.wp;rw[d];cases x with
 |value v=>exact h _ _ r R
 |skip=>exact h _ _ r R
 |enter f args=>
  refine(r w' rfl).mono ?_;rintro e W ⟨v,rfl,H,c⟩;exact h _ _ H (R.trans c)
 |_=>exact r.elim
inductive fW where
 |int (k:IntKind)
 |bool
 |str
 |ptr
 |slice
 |map
 |raw
inductive Sh where
 |one (l:fW)
 |agg (ls:List fW)
def fW.ex:fW->(Value->Prop)->Prop
 | .int k,F=> ∃n:Int,F (.int k n)
 | .bool,F=> ∃b:Bool,F (.bool b)
 | .str,F=> ∃s:ByteArray,F (.string s)
 | .ptr,F=> ∃p:cj,F (.pointer p)
 | .slice,F=> ∃(p:cj)(l c:Nat),F (.slice p l c)
 | .map,F=> ∃m:Option Nat,F (.map m)
 | .raw,F=> ∃v:Value,F v
def Ts:List fW->(List Value->Prop)->Prop
 | [],F=>F []
 |l::ls,F=>l.ex λv=>Ts ls λvs=>F (v::vs)
def Sh.ex:Sh->(Value->Prop)->Prop
 | .one l,F=>l.ex F
 | .agg ls,F=>Ts ls λvs=>F (.agg vs.toArray)
def Kt:List Sh->(List Value->Prop)->Prop
 | [],F=>F []
 |s::S,F=>s.ex λv=>Kt S λvs=>F (v::vs)
theorem fW.kK{l:fW}(h:l.ex F): ∃v,F v:=by
 cases l<;>simp only[fW.ex]at h
 all_goals first
  |(obtain⟨a,b,c,h⟩:=h;exact⟨_,h⟩)
  |(obtain⟨a,h⟩:=h;exact⟨_,h⟩)
theorem CP: ∀{ls:List fW}{F:List Value->Prop},Ts ls F->∃vs,vs.length=ls.length/\F vs
 | [],_,h=>⟨[],rfl,h⟩
 |_::_,_,h=>by
  obtain⟨v,h⟩:=fW.kK h;obtain⟨vs,H,h⟩:=CP h;exact⟨v::vs,by simp[H],h⟩
theorem Sh.kK{s:Sh}(h:s.ex F): ∃v,F v:=by
 cases s with
 |one l=>exact fW.kK h
 |agg ls=>obtain⟨vs,_,h⟩:=CP h;exact⟨_,h⟩
theorem w6: ∀{ls:List Sh}{F:List Value->Prop},Kt ls F->∃vs,F vs
 | [],_,h=>⟨[],h⟩
 |_::_,_,h=>by
  obtain⟨v,h⟩:=Sh.kK h;obtain⟨vs,h⟩:=w6 h;exact⟨v::vs,h⟩
def tV(P:Program)(t:TypeId):Option fW:=
 match P.underlying t with
 |some .bool=>some .bool
 |some (.int k)=>some (.int k)
 |some .string=>some .str
 |some (.pointer _)=>some .ptr
 |some (.slice _)=>some .slice
 |some (.map _ _)=>some .map
 |some (.struct _)=>none
 |some (.array _ _)=>none
 |some (.tuple _)=>none
 |some _=>some .raw
 |none=>none
def sh(P:Program):Nat->TypeId->Option (List fW)
 |0,_=>none
 |n+1,t=>
  match P.underlying t with
  |some (.struct fs)=>fs.toList.foldr (λf A=>match sh P n f.type,A with|some a,some b=>some (a++b)|_,_=>none) (some [])
  |some (.array m e)=>(sh P n e).map λl=>(List.replicate m l).flatten
  |_=>(tV P t).map ([·])
def w8(P:Program)(t:TypeId):Bool:=
 match P.underlying t with
 |some (.struct _)=>true
 |some (.array _ _)=>true
 |_=>false
def Ru(P:Program)(t:TypeId):Option Sh:=
 match w8 P t with
 |true=>(sh P 20 t).map .agg
 |false=>(tV P t).map .one
def OV(P:Program):List TypeId->Option (List Sh)
 | []=>some []
 |t::ts=>match Ru P t,OV P ts with
  |some s,some S=>some (s::S)
  |_,_=>none
def qU(P:Program)(t:TypeId)(F:Value->Prop):Prop:=
 match P.underlying t with
 |some (.tuple ts)=>(match OV P ts.toList with|some l=>Kt l λvs=>F (.tuple vs.toArray)|none=>False)
 |_=>(match Ru P t with|some s=>s.ex F|none=>False)
theorem w9(h:qU P t F): ∃v,F v:=by
 unfold qU at h;split at h
 .split at h
  .obtain⟨_,h⟩:=w6 h;exact⟨_,h⟩
  .exact h.elim
 .split at h
  .exact Sh.kK h
  .exact h.elim
theorem xa{v:Value}{K:Value->Prop}(h:qU P t λV=>v=V/\K V):K v:=by
 obtain⟨V,rfl,h⟩:=w9 h;exact h
def aO{α:Type}(p:Option α)(F:α->Prop):Prop:=
 match p with
 |some a=>F a
 |none=>False
theorem bZ{α:Type}{p:Option α}{F:α->Prop}:aO p F↔ ∃a,p=some a/\F a:=by
 cases p<;>simp[aO]
@[simp] theorem ay{α:Type}{a:α}{F:α->Prop}:aO (some a) F↔F a:=dU
def Env.set(σ:Env)(d:Nat)(v:Value):Env:=λt=>bif Nat.beq t d then some v else σ t
def Env.ev(σ:Env):Operand->Option Value
 | .tmp t=>σ t
 | .const v=>some v
 | .global g=>some (.pointer (some ⟨g,0,none⟩))
 | .func f=>some (.func (.func f) #[] #[])
def Env.vu(σ:Env):Operand->Value:=λx=>(σ.ev x).getD undef
def Qc(σ:Env)(o:Oper):Bool:=o.op.operands.toList.all λx=>(σ.ev x).isSome
def Fits(σ:Env)(a:Operand->Value):Prop:= ∀x v,σ.ev x=some v->a x=v
def jE(P:Program){α:Type}:Sem α->Option α
 | .pure a=>some a
 | .program k=>jE P (k P)
 | .mark _ k=>jE P k
 |_=>none
theorem CQ{α:Type}(s:Sem α): ∀(a:α),jE P s=some a->∀(h:ai)(K:α->ai->Prop),K a h->aV P s h K:=by
 induction s with
 |pure b=>intro a e h K hk;simp only[jE,bw]at e;subst e;exact hk
 |program k i=>intro a e h K hk;exact i P a e h K hk
 |mark m k i=>intro a e h K hk;exact i a e h K hk
 |_=>intro a e;simp[jE]at e
theorem rk{α:Type}(s:Sem α): ∀(a:α),jE P s=some a->∀(h:ai),rd P s h=some a:=by
 induction s with
 |pure b=>intro a e h;exact e
 |program k i=>intro a e h;exact i P a e h
 |mark m k i=>intro a e h;exact i a e h
 |_=>intro a e;simp[jE]at e
def tW(P:Program){α:Type}:Sem α->Option (Obj×(Nat->Sem α))
 | .new o k=>some (o,k)
 | .program k=>tW P (k P)
 | .mark _ k=>tW P k
 |_=>none
theorem EJ{α:Type}(s:Sem α): ∀(o:Obj)(f:Nat->Sem α),tW P s=some (o,f)->∀(h:ai)(K:α->ai->Prop),aV P (f h.size) (h.push o) K->aV P s h K:=by
 induction s with
 |new b k i=>intro o f e h K hk;simp only[tW,bw,fS]at e;obtain⟨rfl,rfl⟩:=e;exact hk
 |program k i=>intro o f e h K hk;exact i P o f e h K hk
 |mark m k i=>intro o f e h K hk;exact i o f e h K hk
 |_=>intro o f e;simp[tW]at e
theorem CR{σ:Env}{a:Operand->Value}(c:Fits σ a)(o:Oper)(hd:Qc σ o=true)(d: ∀cs b,o.op≠ .select cs b):execOp σ.vu o=execOp a o:=by
 refine execOp_congr o d λx e=> ?_
 have H:=List.all_eq_true.1 hd x (by simpa using e);obtain⟨v,h⟩:=eL.1 H;rw[c x v h];simp[Env.vu,h]
def aS(h:ai)(o:Obj)(K:Nat->ai->Prop):Prop:= ∀b h',b=h.size->h'=h.push o->K b h'
def aE(h:ai)(a:Addr)(v:Value)(K:ai->Prop):Prop:=
 (aB h a).isSome=true/\nF h a=false/\∀h',h'=mN h a v->K h'
def eS(a:Addr):List Value->Nat->ai->(ai->Prop)->Prop
 | [],_,h,K=>K h
 |v::vs,i,h,K=>(match fH v with|true=>aE h (a.add i) v λh'=>eS a vs (i+1) h' K|false=>False)
def Ku(h:ai)(a:Addr):List fW->Nat->(List Value->Prop)->Prop
 | [],_,F=>F []
 |l::ls,i,F=>l.ex λv=>aB h (a.add i)=some v/\Ku h a ls (i+1) λvs=>F (v::vs)
def dF(a:Addr):List Value->Nat->ai->Prop
 | [],_,_=>True
 |v::vs,i,h=>aB h (a.add i)=some v/\dF a vs (i+1) h
def qb(P:Program)(t:TypeId)(h:ai)(a:Addr)(K:Value->Option (ai->Prop)->Prop):Prop:=
 match w8 P t with
 |true=>(match sh P 20 t,P.info? t with
  |some ls,some i=>(match Nat.beq i.size ls.length with
   |true=>Ku h a ls 0 λvs=>K (.agg vs.toArray) (some (dF a vs 0))
   |false=>False)
  |_,_=>False)
 |false=>(match tV P t with
  |some l=>l.ex λv=>aB h a=some v/\K v (some λh'=>aB h' a=some v)
  |none=>False)
def oV(P:Program)(t:TypeId)(u v:Value):Option Bool:=
 match v with
 | .pointer none=>(match u,P.underlying t with| .pointer p,some (.pointer _)=>some p.isNone|_,_=>none)
 | .map none=>(match u,P.underlying t with| .map m,some (.map _ _)=>some m.isNone|_,_=>none)
 | .slice none _ _=>(match u,P.underlying t with| .slice p _ _,some (.slice _)=>some p.isNone|_,_=>none)
 |_=>none
def oW(P:Program)(o:Oper)(σ:Env)(K:Value->Option (ai->Prop)->Prop):Prop:=
 match Qc σ o with
 |true=>(match jE P (execOp σ.vu o)with|some (.value v)=>K v none|_=>False)
 |false=>False
def vw(P:Program)(t:TypeId)(u v:Value)(b:Bool):Prop:= ∀h,rd P (Op.equal t u v) h=some b
def EK(o:Oper):Bool:=
 match o.op with
 | .binOp _ _ _ (.const _) _=>true
 |_=>false
def tX(P:Program)(o:Oper)(t:TypeId)(u v:Value):Bool:=
 match v with
 | .nilIface=>EK o
 | .agg _=>(match u with| .agg _=> !P.eqGuardType P.depth t|_=>false)
 | .pointer _=>(match u with| .pointer _=> !EK o|_=>false)
 |_=>false
def EL(P:Program)(o:Oper)(op:BinOp)(t:TypeId)(u v:Value)(σ:Env)(K:Value->Option (ai->Prop)->Prop):Prop:=
 match op with
 | .eql=>(match tX P o t u v with
  |true=> ∃b:Bool,vw P t u v b/\K (.bool b) none
  |false=>(match oV P t u v with|some b=>K (.bool b) none|none=>oW P o σ K))
 | .neq=>(match tX P o t u v with
  |true=> ∃b:Bool,vw P t u v b/\K (.bool (!b)) none
  |false=>(match oV P t u v with|some b=>K (.bool (!b)) none|none=>oW P o σ K))
 | .quo=>(match u,v with
  | .int k a,.int k' b=>(match decide (k=k')with|true=>if b=0 then False else K (.int k (k.wrap (a.tdiv b))) none|false=>False)
  |_,_=>False)
 | .rem=>(match u,v with
  | .int k a,.int k' b=>(match decide (k=k')with|true=>if b=0 then False else K (.int k (a.tmod b)) none|false=>False)
  |_,_=>False)
 | .shl=>(match u,v with
  | .int k a,.int _ b=>if b<0 then False else K (.int k (k.wrap (a*2 ^ min b.toNat k.bits))) none
  |_,_=>False)
 | .shr=>(match u,v with
  | .int k a,.int _ b=>if b<0 then False else K (.int k (a.fdiv (2 ^ min b.toNat k.bits))) none
  |_,_=>False)
 | .add=>(match u,v with
  | .string a,.string b=>((a.size+b.size:Nat):Int)<=IntKind.i64.max/\K (.string (a++b)) none
  |_,_=>oW P o σ K)
 |_=>oW P o σ K
def CS(P:Program)(s:TypeId)(f:Nat):Option Nat:=
 match P.underlying s with
 |some (.struct fs)=>(match fs[f]? with
  |some fl=>(match P.info? fl.type with|some i=>(match Nat.beq i.size 0 with|true=>none|false=>some fl.offset)|none=>none)
  |none=>none)
 |_=>none
def EM(n:Int):List Value->Nat->(Value->Prop)->Prop
 | [],_,_=>True
 |v::vs,i,F=>(n=(i:Int)->F v)/\EM n vs (i+1) F
def rq(σ:Env):Option Operand->Option (Option Int)
 |none=>some none
 |some x=>match σ.ev x with
  |some (.int _ n)=>some (some n)
  |_=>none
def Bf(len cap:Nat):Option Int->Option Int->(Nat->Nat->Prop)->Prop
 |none,none,F=>F 0 len
 |none,some b,F=>(0<=b/\b<=(cap:Int))/\F 0 b.toNat
 |some a,none,F=>(0<=a/\a<=(len:Int))/\F a.toNat len
 |some a,some b,F=>(0<=b/\b<=(cap:Int))/\(0<=a/\a<=b)/\F a.toNat b.toNat
def cE(p:cj)(m l size:Nat):cj:=if m=l then p else p.map (·.add (l*size))
def jF(m:Value)(h h':ai):Prop:=
 match m with
 | .map (some r)=>h'[r]? =h[r]?
 |_=>True
def gP(P:Program)(t:TypeId)(m k:Value)(ok:Bool)(h:ai)(v:Value):Prop:=
 ∀h',jF m h h'->rd P (Instr.lookup t m k ok) h'=some v
def Nj(P:Program)(T:Array TypeId)(ty:TypeId)(m:Value)(h:ai)(v:Value):Prop:=
 ∀h',jF m h h'->rd P (Builtin.len_ T ty #[m]) h'=some v
def qV(P:Program)(s d:TypeId)(v:Value)(h:ai)(b:ByteArray):Prop:=rd P (convert s d v) h=some (.string b)
def Qd:Value->Bool
 | .map _=>true
 |_=>false
def ma(P:Program)(o:Oper)(σ:Env)(h:ai)(K:Value->Option (ai->Prop)->Prop):Prop:=
 match o.op with
 | .pick c a b=>(match σ.ev c,σ.ev a,σ.ev b with
  |some (.bool q),some V,some j=>if q=true then K V none else K j none
  |_,_,_=>False)
 | .load t x=>(match σ.ev x with
  |some (.pointer p)=>aO p λa=>qb P t h a K
  |_=>False)
 | .nilCheck x=>(match σ.ev x with
  |some (.pointer p)=>aO p λa=>K (.pointer (some a)) none
  |_=>oW P o σ K)
 | .binOp op t x y _=>(match σ.ev x,σ.ev y with
  |some u,some v=>EL P o op t u v σ K
  |_,_=>False)
 | .fieldAddr s x f=>(match σ.ev x,CS P s f with
  |some (.pointer p),some off=>aO p λa=>K (.pointer (some (a.add off))) none
  |_,_=>False)
 | .indexAddr t x i=>(match P.underlying t,σ.ev x,σ.ev i with
  |some (.slice e),some (.slice B len _),some (.int _ n)=>(match P.info? e with
   |some i=>(0<=n/\n<(len:Int))/\aO B λa=>K (.pointer (some (a.add (n.toNat*i.size)))) none
   |none=>False)
  |some (.array len e),some (.pointer B),some (.int _ n)=>(match P.info? e with
   |some i=>(0<=n/\n<(len:Int))/\aO B λa=>K (.pointer (some (a.add (n.toNat*i.size)))) none
   |none=>False)
  |_,_,_=>False)
 | .index t x i=>(match P.underlying t,σ.ev x,σ.ev i with
  |some .string,some (.string s),some (.int _ n)=>(0<=n/\n<(s.size:Int))/\K (.int .u8 (s.data.toList.getD n.toNat 0).toNat) none
  |some (.array len e),some (.agg cs),some (.int _ n)=>(match tV P e,P.info? e,Nat.beq len cs.toList.length with
   |some _,some i,true=>(match Nat.beq i.size 1 with
    |true=>(0<=n/\n<(len:Int))/\EM n cs.toList 0 λv=>K v none
    |false=>False)
   |_,_,_=>False)
  |_,_,_=>False)
 | .slice t x L g mx=>(match mx,P.underlying t,σ.ev x,rq σ L,rq σ g with
  |none,some (.slice e),some (.slice p len cap),some l,some H=>(match P.info? e with
   |some i=>Bf len cap l H λa b=>K (.slice (cE p cap a i.size) (b - a) (cap - a)) none
   |none=>False)
  |none,some .string,some (.string s),some l,some H=>Bf s.size s.size l H λa b=>K (.string (s.extract a b)) none
  |none,some (.array n e),some (.pointer p),some l,some H=>(match P.info? e with
   |some i=>aO p λA=>Bf n n l H λa b=>K (.slice (cE (some A) n a i.size) (b - a) (n - a)) none
   |none=>False)
  |some M,some (.slice e),some (.slice p _ cap),some none,some (some b)=>(match σ.ev M,P.info? e with
   |some (.int _ m),some i=>(0<=m/\m<=(cap:Int))/\(0<=b/\b<=m)/\K (.slice (cE p m.toNat 0 i.size) b.toNat m.toNat) none
   |_,_=>False)
  |_,_,_,_,_=>False)
 | .lookup t x i ok=>(match σ.ev x,σ.ev i with
  |some m,some k=>qU P o.type λv=>gP P t m k ok h v/\K v (some (jF m h))
  |_,_=>False)
 | .call { callee:=.builtin .len,args:=args,argTypes:=T } =>(match args.toList with
  | [x]=>(match σ.ev x with
   |some m=>(match Qd m with
    |true=> ∃n:Int,Nj P T o.type m h (.int .i64 n)/\K (.int .i64 n) (some (jF m h))
    |false=>oW P o σ K)
   |none=>False)
  |_=>False)
 | .convert s d x=>(match P.underlying d with
  |some .string=>(match σ.ev x with
   |some v=> ∃b:ByteArray,qV P s d v h b/\K (.string b) (some λh'=>qV P s d v h' b)
   |none=>False)
  |_=>oW P o σ K)
 | .select _ _=>False
 |_=>oW P o σ K
def kx(P:Program)(o:Oper):Bool:=
 match o.op with
 | .move _| .assign _| .pick .. | .load .. | .nilCheck _| .binOp .. | .unOp .. | .makeInterface .. | .makeFunc .. | .slice .. | .fieldAddr .. | .field .. | .indexAddr .. | .index .. | .lookup .. | .extract .. | .build .. =>true
 | .convert _ d _=>(match P.underlying d with|some (.int _)=>true|some .string=>true|_=>false)
 | .call { callee:=.builtin b,.. } =>(match b with| .len| .cap| .min| .max=>true|_=>false)
 |_=>false
def nI(P:Program)(g:FuncId):Bool:=
 match P.funcs[g]? with
 |some f=>f.body.isSome && !(f.name== "runtime.NumGoroutine")
 |none=>false
def Na(σ:Env):List Operand->Option (List Value)
 | []=>some []
 |x::xs=>match σ.ev x,Na σ xs with
  |some v,some vs=>some (v::vs)
  |_,_=>none
def xc(b:Builtin)(T:Array TypeId)(ty:TypeId)(vs:Array Value):Option (Sem Value):=
 match b with
 | .append=>some (Builtin.append_ T ty vs)
 | .copy=>some (Builtin.copy_ T ty vs)
 | .delete=>some (Builtin.delete_ T ty vs)
 | .clear=>some (Builtin.clear_ T ty vs)
 |_=>none
def IB(P:Program)(o:Oper)(σ:Env)(h:ai)(K:fx):Prop:=
 match Qc σ o with
 |true=>(match tW P (execOp σ.vu o)with
  |some (O,k)=>aS h O λb h'=>(match jE P (k b)with|some (.value v)=>K v h'|_=>False)
  |none=>False)
 |false=>False
def nJ(P:Program)(o:Oper)(σ:Env)(h:ai)(K:fx):Prop:=
 match o.op with
 | .alloc _=>IB P o σ h K
 | .box _ _=>IB P o σ h K
 | .buildSlice _ _ _=>IB P o σ h K
 | .makeMap _ _=>IB P o σ h K
 | .store t x y=>(match σ.ev x,σ.ev y with
  |some (.pointer p),some v=>aO p λa=>(match P.info? t with
   |some i=>(match Nat.beq i.size v.cells.toList.length with|true=>eS a v.cells.toList 0 h (K undef)|false=>False)
   |none=>False)
  |_,_=>False)
 | .mapUpdate t m k x=>(match σ.ev m,σ.ev k,σ.ev x with
  |some m,some k,some x=>aV P (Instr.mapUpdate t m k x) h λ_ h'=>K undef h'
  |_,_,_=>False)
 | .insert t m k x=>(match σ.ev m,σ.ev k,σ.ev x with
  |some m,some k,some x=>aV P (Instr.mapUpdate t m k x) h λ_ h'=>K undef h'
  |_,_,_=>False)
 | .makeSlice t l c=>(match σ.ev l,σ.ev c with
  |some l,some c=>aV P (Instr.makeSlice t l c) h λv h'=>qU P o.type λV=>v=V/\K V h'
  |_,_=>False)
 | .convert s d x=>(match σ.ev x with
  |some x=>aV P (convert s d x) h λv h'=>qU P o.type λV=>v=V/\K V h'
  |none=>False)
 | .call { callee:=.builtin b,args:=args,argTypes:=T } =>(match Na σ args.toList with
  |some vs=>(match xc b T o.type vs.toArray with
   |some s=>aV P s h λv h'=>qU P o.type λV=>v=V/\K V h'
   |none=>False)
  |none=>False)
 | .call { callee:=.value f,args:=args,argTypes:=_ } =>(match σ.ev f,Na σ args.toList with
  |some (.func (.func g) first C),some vs=>(match nI P g with
   |true=>ar P g (first.toList++vs++C.toList).toArray h λv h'=>qU P o.type λV=>v=V/\K V h'
   |false=>False)
  |_,_=>False)
 | .range t x=>(match σ.ev x with
  |some x=>aV P (Instr.range t x) h λv h'=> ∃r:Nat,v=.pointer (some ⟨r,0,none⟩)/\K (.pointer (some ⟨r,0,none⟩)) h'
  |none=>False)
 | .next it b=>(match σ.ev it with
  |some it=>aV P (Instr.next it b o.type) h λv h'=>(v=.tuple #[.bool false]/\K (.tuple #[.bool false]) h')\/∃k x:Value,v=.tuple #[.bool true,k,x]/\K (.tuple #[.bool true,k,x]) h'
  |none=>False)
 | .entry it=>(match σ.ev it with
  |some it=>aV P (Instr.entry it) h λv h'=> ∃k x:Value,v=.tuple #[k,x]/\K (.tuple #[k,x]) h'
  |none=>False)
 |_=>False

end
section
variable {P : Program} {h : ai}
theorem xd{α:Type}(a:α)(K:α->ai->Prop):aV P (pure a:Sem α) h K↔K a h:=dU
theorem dw{α b:Type}(s:Sem α)(f:α->Sem b)(K:b->ai->Prop):aV P (s>>=f) h K↔aV P s h (λa h'=>aV P (f a) h' K):=CO s f h K
theorem Kv{t:TypeId}{d:TypeDesc}(hd:P.underlying t=some d)(K:TypeDesc->ai->Prop):aV P (underlying t) h K↔K d h:=by
 unfold underlying;rw[dw];show aV P (match P.underlying t with|some d=>pure d|none=>stuck "no such type") h K↔_;rw[hd];exact dU
theorem Bg{t:TypeId}{i:TypeInfo}(H:P.info? t=some i)(K:TypeInfo->ai->Prop):aV P (typeInfo t) h K↔K i h:=by
 unfold typeInfo;rw[dw];show aV P (match P.info? t with|some d=>pure d|none=>stuck "no such type") h K↔_;rw[H];exact dU
theorem EN{t:TypeId}{i:TypeInfo}(H:P.info? t=some i)(K:Nat->ai->Prop):aV P (sizeOf t) h K↔K i.size h:=by
 unfold sizeOf;rw[dw,Bg H];exact dU
theorem iJ{α:Type}(a:α):rd P (pure a:Sem α) h=some a:=rfl
theorem bu{t:TypeId}{d:TypeDesc}(hd:P.underlying t=some d):rd P (underlying t) h=some d:=by
 show rd P (match P.underlying t with|some d=>pure d|none=>stuck "no such type") h=_;rw[hd];rfl
theorem gA{t:TypeId}{i:TypeInfo}(H:P.info? t=some i):rd P (typeInfo t) h=some i:=by
 show rd P (match P.info? t with|some d=>pure d|none=>stuck "no such type") h=_;rw[H];rfl
theorem gD{t:TypeId}{i:TypeInfo}(H:P.info? t=some i):rd P (sizeOf t) h=some i.size:=by
 unfold sizeOf;rw[bm _ _ _ _ (gA H)];rfl
theorem CT{t:TypeId}(H:w8 P t=true): ∃d,P.underlying t=some d/\((∃fs,d=.struct fs)\/∃n e,d=.array n e):=by
 unfold w8 at H;split at H
 .rename_i fs e;exact⟨_,e,.inl ⟨_,rfl⟩⟩
 .rename_i n el e;exact⟨_,e,.inr ⟨_,_,rfl⟩⟩
 .cases H
theorem qW{t:TypeId}(H:w8 P t=true):rd P (isAgg t) h=some true:=by
 obtain⟨d,hd,a⟩:=CT H;unfold isAgg;rw[bm _ _ _ _ (bu hd)];rcases a with⟨fs,rfl⟩|⟨n,e,rfl⟩<;>rfl
theorem lg{t:TypeId}{l:fW}(H:tV P t=some l):rd P (isAgg t) h=some false:=by
 unfold tV at H;unfold isAgg;cases hd:P.underlying t with
 |none=>rw[hd]at H;cases H
 |some d=>rw[bm _ _ _ _ (bu hd)];rw[hd]at H;cases d<;>first|rfl|cases H
end
section
variable {P : Program}
theorem Bh{a:Addr}{h:ai}{v:Value}(H:aB h a=some v):rd P (load a) h=some v:=by
 unfold load;simp only[rd,H]
theorem hY{a:Addr}: ∀(vs:List Value)(i:Nat)(A:Array Value)(h:ai),dF a vs i h->rd P (loadCellsFrom a i vs.length A) h=some (A++vs.toArray)
 | [],i,A,h,_=>by simp[loadCellsFrom,iJ]
 |v::vs,i,A,h,c=>by
  obtain⟨H,b⟩:=c;simp only[ba,loadCellsFrom];rw[bm _ _ _ _ (Bh H),hY vs (i+1) _ h b];simp
theorem rB{h:ai}{a:Addr}: ∀(ls:List fW)(i:Nat)(F:List Value->Prop),Ku h a ls i F->∃vs,vs.length=ls.length/\dF a vs i h/\F vs
 | [],_,_,H=>⟨[],rfl,trivial,H⟩
 |_::ls,i,_,H=>by
  obtain⟨v,b,c⟩:=fW.kK H;obtain⟨vs,f,d,e⟩:=rB ls (i+1) _ c;exact⟨v::vs,by simp[f],⟨b,d⟩,e⟩
def tY:Option (ai->Prop)->ai->Prop
 |some S,h=>S h
 |none,_=>True
def Yv(P:Program)(s:Sem Value)(S:Option (ai->Prop))(v:Value):Prop:=
 ∀h',tY S h'->rd P s h'=some v
theorem xe{t:TypeId}{h:ai}{a:Addr}{K:Value->Option (ai->Prop)->Prop}(H:qb P t h a K):
  ∃v S,K v S/\tY S h/\Yv P (loadVar t a) S v:=by
 unfold qb at H;split at H
 .rename_i g;split at H
  .rename_i ls i m j;split at H
   .rename_i k;obtain⟨vs,d,b,c⟩:=rB _ _ _ H;refine⟨_,_,c,b,λh' f=> ?_⟩;unfold loadVar;rw[bm _ _ _ _ (qW g)];simp only[bh];rw[bm _ _ _ _ (gD j)];have e:i.size=vs.length:=by rw[d];exact bO k
    unfold loadCells;rw[e,bm _ _ _ _ (hY vs 0 #[] h' f)];simp[iJ]
   .exact H.elim
  .exact H.elim
 .split at H
  .rename_i l d;obtain⟨v,b,c⟩:=fW.kK H;refine⟨v,_,c,b,λh' f=> ?_⟩;unfold loadVar;rw[bm _ _ _ _ (lg d)];exact Bh f
  .exact H.elim
theorem oX{o:Oper}{σ:Env}{a:Operand->Value}{K:Value->Option (ai->Prop)->Prop}(H:Fits σ a)(c: ∀cs b,o.op≠ .select cs b)(h:oW P o σ K):
  ∃v,K v none/\∀h',rd P (execOp a o) h'=some (.value v):=by
 unfold oW at h;split at h
 .rename_i hd;split at h
  .rename_i v d;exact⟨v,h,λh'=>rk _ _ (by rw[<-CR H o hd c];exact d) _⟩
  .exact h.elim
 .exact h.elim
theorem Ab{t:TypeId}{u v:Value}{b:Bool}(h:oV P t u v=some b): ∀h',rd P (Op.equal t u v) h'=some b:=by
 intro h';unfold Op.equal Op.maxDepth;unfold oV at h;split at h
 .split at h
  .rename_i p e H;simp only[bw]at h;subst h;unfold Op.equalIn;rw[bm _ _ _ _ (bu H)];cases p<;>rfl
  .cases h
 .split at h
  .rename_i m k e H;simp only[bw]at h;subst h;unfold Op.equalIn;rw[bm _ _ _ _ (bu H)];cases m<;>rfl
  .cases h
 .split at h
  .rename_i p _ _ e H;simp only[bw]at h;subst h;unfold Op.equalIn;rw[bm _ _ _ _ (bu H)];cases p<;>rfl
  .cases h
 .cases h
theorem si{op:BinOp}{t:TypeId}{x y:Operand}{u v:Value}{b:Bool}(h:oV P t u v=some b): ∀h',rd P (eqGuard op t x y u v) h'=some ():=by
 intro h';unfold oV at h;unfold eqGuard;split at h
 .split at h
  .split<;>exact rfl
  .cases h
 .split at h
  .split<;>exact rfl
  .cases h
 .split at h
  .split<;>exact rfl
  .cases h
 .cases h
theorem vx{t:TypeId}{u v:Value}{b:Bool}(h:oV P t u v=some b):
  (∃p,u=.pointer p/\v=.pointer none)\/(∃m,u=.map m/\v=.map none)\/(∃p l c L C,u=.slice p l c/\v=.slice none L C):=by
 unfold oV at h;split at h
 .split at h
  .exact .inl ⟨_,rfl,rfl⟩
  .cases h
 .split at h
  .exact .inr (.inl ⟨_,rfl,rfl⟩)
  .cases h
 .split at h
  .exact .inr (.inr ⟨_,_,_,_,_,rfl,rfl⟩)
  .cases h
 .cases h
theorem jj{op:BinOp}{t:TypeId}{x y:Operand}{u v:Value}(h:op≠ .eql)(H:op≠ .neq):eqGuard op t x y u v=pure ():=by
 cases op<;>first|rfl|exact absurd rfl h|exact absurd rfl H
theorem ka{o:Oper}{op:BinOp}{t T:TypeId}{x y:Operand}{a:Operand->Value}{u v r:Value}{h:ai}(d:o.op=.binOp op t x y T)(e:a x=u)(f:a y=v)(H:rd P (eqGuard op t x y u v) h=some ())(b:rd P (binOp op t u v) h=some r):rd P (execOp a o) h=some (.value r):=by
 unfold execOp;rw[d];simp only[e,f];have c:rd P (do eqGuard op t x y u v;binOp op t u v) h=some r:=by rw[bm _ _ _ _ H];exact b
 rw[bm _ _ _ _ c];rfl
theorem Ac{o:Oper}{op:BinOp}{t T:TypeId}{x y:Operand}{d:Operand->Value}{u v:Value}(e:o.op=.binOp op t x y T)(a:op=.eql\/op=.neq)(i:d x=u)(j:d y=v)(h:tX P o t u v=true){b:Bool}(H:vw P t u v b):
  ∀h',rd P (execOp d o) h'=some (.value (.bool (if op=.eql then b else !b))):=by
 intro h';have g:rd P (eqGuard op t x y u v) h'=some ():=by
  unfold tX at h;split at h
  .have f: ∃c,y=.const c:=by
    unfold EK at h;rw[e]at h;cases y<;>first|exact⟨_,rfl⟩|cases h
   obtain⟨c,rfl⟩:=f;unfold eqGuard;rcases a with rfl|rfl<;>cases u<;>first|rfl|(cases x<;>rfl)
  .split at h
   .unfold eqGuard;rcases a with rfl|rfl
    .show rd P (program>>=λp=>program>>=λq=>if(!p.eqGuardType q.depth t)=true then pure ()else _) h'=some ();rw[bm _ _ _ _ (show rd P program h'=some P from rfl),bm _ _ _ _ (show rd P program h'=some P from rfl),af h];rfl
    .show rd P (program>>=λp=>program>>=λq=>if(!p.eqGuardType q.depth t)=true then pure ()else _) h'=some ();rw[bm _ _ _ _ (show rd P program h'=some P from rfl),bm _ _ _ _ (show rd P program h'=some P from rfl),af h];rfl
   .cases h
  .split at h
   .unfold eqGuard;split<;>exact rfl
   .cases h
  .cases h
 refine ka e i j g ?_;have key: ∀u v:Value,(tX P o t u v=true)->vw P t u v b->rd P (binOp op t u v) h'=some (.bool (if op=.eql then b else !b)):=by
  intro u v h H;unfold tX at h;split at h
  .rcases a with rfl|rfl
   .have:binOp .eql t u .nilIface=(Op.equal t u .nilIface>>=λq=>pure (Value.bool q)):=by cases u<;>rfl
    rw[this,bm _ _ _ _ (H h')];rfl
   .have:binOp .neq t u .nilIface=(Op.equal t u .nilIface>>=λq=>pure (Value.bool (!q))):=by cases u<;>rfl
    rw[this,bm _ _ _ _ (H h')];rfl
  .split at h
   .rcases a with rfl|rfl
    .show rd P (Op.equal t _ _>>=λq=>pure (Value.bool q)) h'=_;rw[bm _ _ _ _ (H h')];rfl
    .show rd P (Op.equal t _ _>>=λq=>pure (Value.bool (!q))) h'=_;rw[bm _ _ _ _ (H h')];rfl
   .cases h
  .split at h
   .rcases a with rfl|rfl
    .show rd P (Op.equal t _ _>>=λq=>pure (Value.bool q)) h'=_;rw[bm _ _ _ _ (H h')];rfl
    .show rd P (Op.equal t _ _>>=λq=>pure (Value.bool (!q))) h'=_;rw[bm _ _ _ _ (H h')];rfl
   .cases h
  .cases h
 exact key u v h H
theorem IC{o:Oper}{op:BinOp}{t T:TypeId}{x y:Operand}{σ:Env}{n:Operand->Value}{u v:Value}{K:Value->Option (ai->Prop)->Prop}(d:o.op=.binOp op t x y T)(i:Fits σ n)(f:n x=u)(g:n y=v)(h:EL P o op t u v σ K):
  ∃v,K v none/\∀h',rd P (execOp n o) h'=some (.value v):=by
 have j: ∀cs b,o.op≠ .select cs b:=by rw[d];intro cs b e;cases e
 unfold EL at h;split at h
 .split at h
  .rename_i s;obtain⟨b,H,q⟩:=h;exact⟨_,q,Ac d (.inl rfl) f g s H⟩
  .split at h
   .rename_i b H;refine⟨_,h,λh'=>ka d f g (si H h') ?_⟩;have r:binOp .eql t u v=(do pure (.bool (<-Op.equal t u v))):=by
     rcases vx H with⟨p,rfl,rfl⟩|⟨m,rfl,rfl⟩|⟨p,l,c,L,C,rfl,rfl⟩<;>rfl
    rw[r,bm _ _ _ _ (Ab H h')];rfl
   .exact oX i j h
 .split at h
  .rename_i s;obtain⟨b,H,q⟩:=h;exact⟨_,q,Ac d (.inr rfl) f g s H⟩
  .split at h
   .rename_i b H;refine⟨_,h,λh'=>ka d f g (si H h') ?_⟩;have r:binOp .neq t u v=(do pure (.bool (!(<-Op.equal t u v)))):=by
     rcases vx H with⟨p,rfl,rfl⟩|⟨m,rfl,rfl⟩|⟨p,l,c,L,C,rfl,rfl⟩<;>rfl
    rw[r,bm _ _ _ _ (Ab H h')];rfl
   .exact oX i j h
 .split at h
  .rename_i k a k' b;split at h
   .rename_i hk;obtain rfl:k=k':=aQ hk;split at h
    .exact h.elim
    .rename_i H;refine⟨_,h,λh'=>ka d f g (by rw[jj bM bM];rfl) ?_⟩;simp only[binOp,fa,not_true,aN,Op.intDiv,H];rfl
   .exact h.elim
  .exact h.elim
 .split at h
  .rename_i k a k' b;split at h
   .rename_i hk;obtain rfl:k=k':=aQ hk;split at h
    .exact h.elim
    .rename_i H;refine⟨_,h,λh'=>ka d f g (by rw[jj bM bM];rfl) ?_⟩;simp only[binOp,fa,not_true,aN,Op.intDiv,H];rfl
   .exact h.elim
  .exact h.elim
 .split at h
  .split at h
   .exact h.elim
   .rename_i H;refine⟨_,h,λh'=>ka d f g (by rw[jj bM bM];rfl) ?_⟩;simp only[binOp,Op.shift,H,aN];rfl
  .exact h.elim
 .split at h
  .split at h
   .exact h.elim
   .rename_i H;refine⟨_,h,λh'=>ka d f g (by rw[jj bM bM];rfl) ?_⟩;simp only[binOp,Op.shift,H,aN];rfl
  .exact h.elim
 .split at h
  .obtain⟨H,h⟩:=h;refine⟨_,h,λh'=>ka d f g (by rw[jj bM bM];rfl) ?_⟩;simp only[binOp,Op.stringOp];rw[cW];rfl
  .exact oX i j h
 .exact oX i j h
theorem iC{x:Value}{k:IntKind}{n:Int}{y:Nat}{c:BoundsCode}{h:ai}(b:x=.int k n)(H:0<=n)(a:n<=(y:Int)):rd P (Instr.sliceBound x y c) h=some n.toNat:=by
 subst b;show rd P (if 0<=n/\n<=(y:Int)then _ else _) h=_;rw[af ⟨H,a⟩];rfl
theorem mb{σ:Env}{a:Operand->Value}(H:Fits σ a){x:Option Operand}{n:Option Int}(h:rq σ x=some n):
  (x=none/\n=none)\/∃k m,n=some m/\x.map a=some (.int k m):=by
 cases x with
 |none=>simp only[rq,bw]at h;exact .inl ⟨rfl,h.symm⟩
 |some x=>
  simp only[rq]at h;split at h
  .rename_i k m b;simp only[bw]at h;exact .inr ⟨k,m,h.symm,by simp[H _ _ b]⟩
  .cases h
theorem lh{σ:Env}{f:Operand->Value}(g:Fits σ f){L i:Option Operand}{l r:Option Int}(k:rq σ L=some l)(n:rq σ i=some r){isS:Bool}{len cap:Nat}{F:Nat->Nat->Prop}(e:Bf len cap l r F): ∃a b,F a b/\∀(h:ai),
   rd P (Instr.sliceBounds isS len cap (L.map f) (i.map f) none) h=some (a,b,cap):=by
 rcases mb g k with⟨rfl,rfl⟩|⟨K,m,rfl,e1⟩<;>rcases mb g n with⟨rfl,rfl⟩|⟨p,M,rfl,e2⟩
 .exact⟨0,len,e,λh=>rfl⟩
 .obtain⟨⟨H,c⟩,d⟩:=e;refine⟨0,M.toNat,d,λh=> ?_⟩;unfold Instr.sliceBounds;rw[e2,bm _ _ _ _ (iJ _),bm _ _ _ _ (iC rfl H c)];rfl
 .obtain⟨⟨H,c⟩,d⟩:=e;refine⟨m.toNat,len,d,λh=> ?_⟩;unfold Instr.sliceBounds;rw[e1,bm _ _ _ _ (iJ _)];simp only[Option.map_none];rw[bm _ _ _ _ (iJ _),bm _ _ _ _ (iC rfl H c)];rfl
 .obtain⟨⟨H,c⟩,⟨j,o⟩,d⟩:=e;refine⟨m.toNat,M.toNat,d,λh=> ?_⟩;unfold Instr.sliceBounds;rw[e1,e2,bm _ _ _ _ (iJ _),bm _ _ _ _ (iC rfl H c),bm _ _ _ _ (iC rfl j ae)];rfl
theorem Ad{n:Int}: ∀(vs:List Value)(i:Nat)(F:Value->Prop),EM n vs i F->∀j,n=((i+j:Nat):Int)->∀v,vs[j]? =some v->F v
 | [],_,_,_,j,_,v,h=>by simp at h
 |u::vs,i,F,b,j,c,v,h=>by
  obtain⟨H,a⟩:=b;cases j with
  |zero=>simp only[dt,bw]at h;subst h;exact H c
  |succ j=>exact Ad vs (i+1) F a j ae v (by simpa using h)
theorem jG{s:Sem Value}{v:Value}{h:ai}(H:rd P s h=some v):rd P (do pure (Next.value (<-s))) h=some (.value v):=by
 rw[bm _ _ _ _ H];rfl
theorem nK{o:Oper}{σ:Env}{O:Operand->Value}{h:ai}{K:Value->Option (ai->Prop)->Prop}(g:Fits σ O)(H:ma P o σ h K):
  ∃v S,K v S/\tY S h/\∀h',tY S h'->rd P (execOp O o) h'=some (.value v):=by
 have V:(∀cs b,o.op≠ .select cs b)->oW P o σ K->∃v S,K v S/\tY S h/\∀h',tY S h'->rd P (execOp O o) h'=some (.value v):=λG L=>by
  obtain⟨v,r,w⟩:=oX g G L;exact⟨v,none,r,trivial,λh' _=>w h'⟩
 unfold ma at H;split at H
 .rename_i c a b j;split at H
  .rename_i q va vb hc R B;have e:execOp O o=pure (.value (if q then va else vb)):=by
    unfold execOp;rw[j];simp only[g _ _ hc,g _ _ R,g _ _ B];rfl
   split at H
   .rename_i U;exact⟨va,none,H,trivial,λh' _=>by rw[e,af U];rfl⟩
   .rename_i U;exact⟨vb,none,H,trivial,λh' _=>by rw[e,ag U];rfl⟩
  .exact H.elim
 .rename_i t x j;split at H
  .rename_i p L;obtain⟨a,rfl,H⟩:=bZ.1 H;obtain⟨v,S,r,w,Q⟩:=xe H;refine⟨v,S,r,w,λh' G=> ?_⟩;unfold execOp;rw[j];simp only[g _ _ L];exact jG (Q h' G)
  .exact H.elim
 .rename_i x j;split at H
  .rename_i p L;obtain⟨a,rfl,H⟩:=bZ.1 H;refine⟨_,none,H,trivial,λh' _=> ?_⟩;unfold execOp;rw[j];simp only[g _ _ L];rfl
  .exact V (by rw[j];intro cs b e;cases e) H
 .rename_i op t x y t' j;split at H
  .rename_i u v hu X;obtain⟨v,r,w⟩:=IC j g (g _ _ hu) (g _ _ X) H;exact⟨v,none,r,trivial,λh' _=>w h'⟩
  .exact H.elim
 .rename_i s x f j;split at H
  .rename_i p off L D;obtain⟨a,rfl,H⟩:=bZ.1 H;refine⟨_,none,H,trivial,λh' _=> ?_⟩;unfold CS at D;split at D
   .rename_i fs d';split at D
    .rename_i fl c';split at D
     .rename_i i E;split at D
      .cases D
      .rename_i hz;simp only[bw]at D;subst D;unfold execOp;rw[j];simp only[g _ _ L];refine jG ?_;unfold Instr.fieldAt;rw[bm _ _ _ _ (bu d')];simp only[c'];show rd P (do let y<-fieldPlace a fl;pure (Value.pointer (some y))) h'=_;have e': ¬i.size=0:=λe=>by rw[e]at hz;cases hz
       have r:rd P (fieldPlace a fl) h'=some (a.add fl.offset):=by
        unfold fieldPlace;rw[bm _ _ _ _ (gD E),ag e'];rfl
       rw[bm _ _ _ _ r];rfl
     .cases D
    .cases D
   .cases D
  .exact H.elim
 .rename_i t x ix j;split at H
  .rename_i e a' len cap k n z A E;split at H
   .rename_i i C;obtain⟨⟨r,w⟩,H⟩:=H;obtain⟨a,rfl,H⟩:=bZ.1 H;refine⟨_,none,H,trivial,λh' _=> ?_⟩;unfold execOp;rw[j];simp only[g _ _ A,g _ _ E];refine jG ?_;unfold Instr.indexAt;show rd P (do let x<-underlying t;_) h'=_;rw[bm _ _ _ _ (bu z)];simp only;rw[bm _ _ _ _ (iJ _)];simp only;rw[bm _ _ _ _ (bu z)];simp only;rw[af ⟨r,w⟩,bm _ _ _ _ (gD C)];rfl
   .exact H.elim
  .rename_i len e a' k n z A E;split at H
   .rename_i i C;obtain⟨⟨r,w⟩,H⟩:=H;obtain⟨a,rfl,H⟩:=bZ.1 H;refine⟨_,none,H,trivial,λh' _=> ?_⟩;unfold execOp;rw[j];simp only[g _ _ A,g _ _ E];refine jG ?_;unfold Instr.indexAt;show rd P (do let x<-underlying t;_) h'=_;rw[bm _ _ _ _ (bu z)];simp only[Instr.sureAddr];rw[bm _ _ _ _ (iJ _),bm _ _ _ _ (iJ _)];simp only;rw[bm _ _ _ _ (bu z)];simp only;rw[af ⟨r,w⟩,bm _ _ _ _ (gD C)];rfl
   .exact H.elim
  .exact H.elim
 .rename_i t x ix j;split at H
  .rename_i s k n z A E;obtain⟨⟨r,w⟩,H⟩:=H;refine⟨_,none,H,trivial,λh' _=> ?_⟩;unfold execOp;rw[j];simp only[g _ _ A,g _ _ E];refine jG ?_;unfold Instr.index;show rd P (do let x<-underlying t;_) h'=_;rw[bm _ _ _ _ (bu z)];have M:n.toNat<s.size:=ae
   have T:s[n.toNat]? =some (s.data.toList.getD n.toNat 0):=by
    rw[getElem?_pos s n.toNat M];congr 1
    rw[aX,aj (by simpa using M)];rfl
   simp only[af r,T];rfl
  .rename_i len e cs k n z A E;split at H
   .rename_i i B C Z;split at H
    .rename_i W;obtain⟨⟨r,w⟩,H⟩:=H;have Z:=bO Z;have W:=bO W;have M:n.toNat<cs.toList.length:=ae
     have F:=Ad _ _ _ H n.toNat ae _ (aj M);refine⟨_,none,F,trivial,λh' _=> ?_⟩;unfold execOp;rw[j];simp only[g _ _ A,g _ _ E];refine jG ?_;unfold Instr.index;show rd P (do let x<-underlying t;_) h'=_;rw[bm _ _ _ _ (bu z)];simp only;rw[af ⟨r,w⟩,bm _ _ _ _ (gD C)];unfold part;rw[bm _ _ _ _ (lg B)];simp only[au,aN];rw[W,cr];have T:cs[n.toNat]? =some (cs.toList[n.toNat]'M):=bM
     rw[T];rfl
    .exact H.elim
   .exact H.elim
  .exact H.elim
 .rename_i t x lo E mx j;split at H
  .rename_i e p len cap l Y z A J I;split at H
   .rename_i i C;obtain⟨a,b,F,B⟩:=lh (P:=P) (isS:=true) g J I H;refine⟨_,none,F,trivial,λh' _=> ?_⟩;unfold execOp;rw[j];simp only[g _ _ A,Option.map_none];refine jG ?_;unfold Instr.sliceAt;rw[bm _ _ _ _ (bu z)];unfold Instr.slice;simp only;rw[bm _ _ _ _ (bu z)];simp only;rw[bm _ _ _ _ (B _)];simp only;rw[bm _ _ _ _ (gD C)];rfl
   .exact H.elim
  .rename_i s l Y z A J I;obtain⟨a,b,F,B⟩:=lh (P:=P) (isS:=false) g J I H;refine⟨_,none,F,trivial,λh' _=> ?_⟩;unfold execOp;rw[j];simp only[g _ _ A,Option.map_none];refine jG ?_;unfold Instr.sliceAt;rw[bm _ _ _ _ (bu z)];unfold Instr.slice;simp only;rw[bm _ _ _ _ (bu z)];simp only[Option.isSome_none,au,aN];rw[bm _ _ _ _ (B _)];rfl
  .rename_i n e p l Y z A J I;split at H
   .rename_i i C;obtain⟨ad,rfl,H⟩:=bZ.1 H;obtain⟨a,b,F,B⟩:=lh (P:=P) (isS:=false) g J I H;refine⟨_,none,F,trivial,λh' _=> ?_⟩;unfold execOp;rw[j];simp only[g _ _ A,Option.map_none];refine jG ?_;unfold Instr.sliceAt;rw[bm _ _ _ _ (bu z)];simp only[Instr.sureAddr];rw[bm _ _ _ _ (iJ _),bm _ _ _ _ (B _)];simp only;rw[bm _ _ _ _ (gD C)];show some _=some _;unfold cE;congr 2
    split<;>rfl
   .exact H.elim
  .rename_i mo e p len cap b z A J I;split at H
   .rename_i k m i N C;obtain⟨⟨r,w⟩,⟨Q,h4⟩,F⟩:=H;rcases mb g J with⟨rfl,_⟩|⟨_,_,e1,_⟩
    case inr=>cases e1
    rcases mb g I with⟨_,e1⟩|⟨k2,m2,e1,e2⟩
    .cases e1
    cases e1;refine⟨_,none,F,trivial,λh' _=> ?_⟩;unfold execOp;rw[j];simp only[g _ _ A,g _ _ N,e2,Option.map_none,cO];refine jG ?_;unfold Instr.sliceAt;rw[bm _ _ _ _ (bu z)];unfold Instr.slice;simp only;rw[bm _ _ _ _ (bu z)];simp only;have B:rd P (Instr.sliceBounds true len cap none (some (.int k2 b)) (some (.int k m))) h'=some (0,b.toNat,m.toNat):=by
     unfold Instr.sliceBounds;simp only;rw[bm _ _ _ _ (iC rfl r w),bm _ _ _ _ (iC rfl Q ae)];rfl
    rw[bm _ _ _ _ B];simp only;rw[bm _ _ _ _ (gD C)];rfl
   .exact H.elim
  .exact H.elim
 .rename_i t x i ok j;split at H
  .rename_i m k N hk;obtain⟨v,r,w⟩:=w9 H;refine⟨v,_,w,?_,λh' G=> ?_⟩
   .show jF m h h;unfold jF;split<;>trivial
   .unfold execOp;rw[j];simp only[g _ _ N,g _ _ hk];exact jG (r h' G)
  .exact H.elim
 .rename_i args g' j;split at H
  .rename_i x b';split at H
   .rename_i m N;split at H
    .obtain⟨n,r,w⟩:=H;refine⟨_,_,w,?_,λh' G=> ?_⟩
     .show jF m h h;unfold jF;split<;>trivial
     .have R:args= #[x]:=by rw[<-Array.toArray_toList (xs:=args),b']
      unfold execOp;rw[j];simp only[resolve,R];rw[bm _ _ _ _ (iJ _)];simp only[invoke,builtin,List.map_toArray,bV,List.map_nil,g _ _ N];exact jG (r h' G)
    .exact V (by rw[j];intro cs b e;cases e) H
   .exact H.elim
  .exact H.elim
 .rename_i s d x j;split at H
  .split at H
   .rename_i v X;obtain⟨b,r,w⟩:=H;refine⟨_,_,w,r,λh' G=> ?_⟩;unfold execOp;rw[j];simp only[g _ _ X];exact jG G
   .exact H.elim
  .exact V (by rw[j];intro cs b e;cases e) H
 .exact H.elim
 .rename_i f';exact V f' H
def ke(p:cj)(h h':ai):Prop:= ∀x,p=some x->x.block<h.size->h'[x.block]? =h[x.block]?
def Kp(h h':ai)(l:List (cj)):Prop:= ∀p∈l,ke p h h'
def Bi(σ:Env)(o:Oper):Option (cj):=
 match o.op with
 | .load _ x=>(match σ.ev x with
  |some (.pointer p)=>some p
  |_=>some none)
 |_=>none
theorem oY{h:ai}{a:Addr}{v:Value}(H:aB h a=some v):a.block<h.size:=by
 unfold aB at H;split at H
 .rename_i b;exact(Array.getElem?_eq_some_iff.1 b).1
 .cases H
theorem ke.cell{h h':ai}{a b:Addr}{v:Value}(d:ke (some a) h h')(c:b.block=a.block)(H:aB h b=some v):aB h' b=some v:=by
 have:=d a rfl (by rw[<-c];exact oY H);rw[<-c]at this;unfold aB at H⊢;rw[this];exact H
theorem ke.trans{p:cj}{h c d:ai}(a:ke p h c)(b:ke p c d):ke p h d:=λx e f=>by
 have H:=a x e f;rw[b x e ?_,H];have:=Array.getElem?_eq_getElem f;rw[this]at H;exact(Array.getElem?_eq_some_iff.1 H).1
theorem ke.held{h h':ai}{a:Addr}(b:ke (some a) h h'): ∀(vs:List Value)(i:Nat),dF a vs i h->dF a vs i h'
 | [],_,_=>trivial
 |_::vs,i,H=>⟨b.cell (by unfold Addr.add;split<;>rfl) H.1,ke.held b vs (i+1) H.2⟩
theorem za{t:TypeId}{h:ai}{a:Addr}{K:Value->Option (ai->Prop)->Prop}(H:qb P t h a K):
  ∃v S,K v (some S)/\S h/\(∀h',ke (some a) h h'->S h')/\Yv P (loadVar t a) (some S) v:=by
 have m:=H;unfold qb at H;split at H
 .rename_i g;split at H
  .rename_i ls i n j;split at H
   .rename_i k;obtain⟨vs,f,c,d⟩:=rB _ _ _ H;refine⟨_,_,d,c,λh' b=>b.held _ _ c,λh' b=> ?_⟩;unfold loadVar;rw[bm _ _ _ _ (qW g)];simp only[bh];rw[bm _ _ _ _ (gD j)];have e:i.size=vs.length:=by rw[f];exact bO k
    unfold loadCells;rw[e,bm _ _ _ _ (hY vs 0 #[] h' b)];simp[iJ]
   .exact H.elim
  .exact H.elim
 .split at H
  .rename_i l f;obtain⟨v,c,d⟩:=fW.kK H;refine⟨v,_,d,c,λh' b=>b.cell rfl c,λh' b=> ?_⟩;unfold loadVar;rw[bm _ _ _ _ (lg f)];exact Bh b
  .exact H.elim
theorem Bj{o:Oper}{σ:Env}{e:Operand->Value}{h:ai}{K:Value->Option (ai->Prop)->Prop}{p:cj}(k:Fits σ e)(b:Bi σ o=some p)(H:ma P o σ h K):
  ∃v S,K v (some S)/\S h/\(∀h',ke p h h'->S h')/\∀h',S h'->rd P (execOp e o) h'=some (.value v):=by
 unfold Bi at b;unfold ma at H;split at b
 .rename_i t x c;simp only[c]at H;split at H
  .rename_i q d;simp only[d,bw]at b;subst b;obtain⟨a,rfl,H⟩:=bZ.1 H;obtain⟨v,S,f,g,j,i⟩:=za H;refine⟨v,S,f,g,j,λh' l=> ?_⟩;unfold execOp;rw[c];simp only[k _ _ d];exact jG (i h' l)
  .exact H.elim
 .cases b
theorem GI{σ:Env}{a:Operand->Value}(H:Fits σ a): ∀(xs:List Operand)(vs:List Value),Na σ xs=some vs->xs.map a=vs
 | [],vs,h=>by simp only[Na,bw]at h;exact h
 |x::xs,vs,h=>by
  simp only[Na]at h;split at h
  .rename_i v V b c;simp only[bw]at h;rw[bV,H _ _ b,GI H xs V c,h]
  .cases h
theorem sj{σ:Env}{a:Operand->Value}(h:Fits σ a){args:Array Operand}{vs:List Value}(H:Na σ args.toList=some vs):args.map a=vs.toArray:=by
 have:=GI h _ _ H;rw[<-this];apply Array.ext'
 simp
theorem wR{o:Oper}{σ:Env}{c:Operand->Value}{h:ai}{K:fx}(d:Fits σ c)(f: ∀cs b,o.op≠ .select cs b)(H:IB P o σ h K):oU P o c h K:=by
 unfold IB at H;split at H
 .rename_i hd;split at H
  .rename_i O k e;have a:=H _ _ rfl rfl;dsimp only at a;split at a
   .rename_i v g;refine EJ _ O k (by rw[<-CR d o hd f];exact e) _ _ ?_;exact CQ _ _ g _ _ a
   .exact a.elim
  .exact H.elim
 .exact H.elim
theorem Ae{a:Addr}: ∀(vs:List Value)(i:Nat)(h:ai)(K:ai->Prop),eS a vs i h K->aV P (storeCells a vs i) h (λ_ h'=>K h')
 | [],_,_,_,H=>H
 |v::vs,i,h,K,H=>by
  simp only[eS]at H;split at H
  .rename_i b;obtain⟨c,d,e⟩:=H;simp only[storeCells];rw[dw];exact⟨b,c,d,Ae vs (i+1) _ K (e _ rfl)⟩
  .exact H.elim
theorem tZ{s:Sem Value}{h:ai}{t:TypeId}{K:fx}(H:aV P s h λv h'=>qU P t λV=>v=V/\K V h'):aV P s h K:=
 jz _ _ (λ_ _ a=>xa a) H
theorem ua{o:Oper}{σ:Env}{D:Operand->Value}{h:ai}{K:fx}(n:Fits σ D)(H:nJ P o σ h K):oU P o D h K:=by
 unfold nJ at H;split at H
 .rename_i j;exact wR n (by rw[j];intro cs b e;cases e) H
 .rename_i j;exact wR n (by rw[j];intro cs b e;cases e) H
 .rename_i j;exact wR n (by rw[j];intro cs b e;cases e) H
 .rename_i j;exact wR n (by rw[j];intro cs b e;cases e) H
 .rename_i t x y j;split at H
  .rename_i p v q N;obtain⟨a,rfl,H⟩:=bZ.1 H;split at H
   .rename_i i J;split at H
    .rename_i z;unfold oU execOp;rw[j];simp only[n _ _ q,n _ _ N];rw[dw];unfold Instr.storeAt;rw[dw];show aV P (storeVar t a v) h _;unfold storeVar;rw[dw,EN J];have e:v.cells.size=i.size:=by have:=bO z;simpa using this.symm
     simp only[e,fa,not_true,aN];exact Ae _ _ _ _ H
    .exact H.elim
   .exact H.elim
  .exact H.elim
 .rename_i t m k x j;split at H
  .rename_i m k x w hk q;unfold oU execOp;rw[j];simp only[n _ _ w,n _ _ hk,n _ _ q];rw[dw];exact H
  .exact H.elim
 .rename_i t m k x j;split at H
  .rename_i m k x w hk q;unfold oU execOp;rw[j];simp only[n _ _ w,n _ _ hk,n _ _ q];rw[dw];exact H
  .exact H.elim
 .rename_i t l c j;split at H
  .rename_i l c L E;unfold oU execOp;rw[j];simp only[n _ _ L,n _ _ E];rw[dw];exact tZ H
  .exact H.elim
 .rename_i s d x j;split at H
  .rename_i x q;unfold oU execOp;rw[j];simp only[n _ _ q];rw[dw];exact tZ H
  .exact H.elim
 .rename_i b args T j;split at H
  .rename_i vs A;split at H
   .rename_i s B;unfold oU execOp;rw[j];simp only[resolve,sj n A];rw[dw,xd];simp only[invoke];cases b<;>simp only[xc]at B<;>first|cases B|skip
    all_goals (simp only[builtin];rw[dw];exact tZ H)
   .exact H.elim
  .exact H.elim
 .rename_i f args T j;split at H
  .rename_i g first C vs I A;split at H
   .rename_i u;unfold oU execOp;rw[j];simp only[resolve,sj n A,n _ _ I,Deferred.ofValue];rw[dw,xd];simp only[invoke,callFunc];rw[dw];unfold nI at u;split at u
    .rename_i F G;simp only[aT,Bool.not_eq_true']at u;show aV P (match P.funcs[g]? with|none=>_|some F=>_) h _;rw[G];have z:F.body.isNone=false:=by cases M:F.body<;>simp[M]at u⊢
     simp only[u.2,z,au,aN];have e:(first++vs.toArray++C)=(first.toList++vs++C.toList).toArray:=by
      apply Array.ext'
      simp
     rw[e];exact H.mono λv h' hr=>xa hr
    .cases u
   .exact H.elim
  .exact H.elim
 .rename_i t x j;split at H
  .rename_i x q;unfold oU execOp;rw[j];simp only[n _ _ q];rw[dw];exact jz _ _ (λv h' ⟨r,e,hr⟩=>by subst e;exact hr) H
  .exact H.elim
 .rename_i it b j;split at H
  .rename_i it q;unfold oU execOp;rw[j];simp only[n _ _ q];rw[dw];refine jz _ _ (λv h' hr=> ?_) H;rcases hr with⟨e,hr⟩|hr
   .subst e;exact hr
   .obtain⟨k,x,e,hr⟩:=hr;subst e;exact hr
  .exact H.elim
 .rename_i it j;split at H
  .rename_i it q;unfold oU execOp;rw[j];simp only[n _ _ q];rw[dw];refine jz _ _ (λv h' hr=> ?_) H;obtain⟨k,x,e,hr⟩:=hr;subst e;exact hr
  .exact H.elim
 .exact H.elim
end
section
variable {X Y:Type} {v:Value} {F:Value->Prop} {t n:Nat} {h:ai} {a b a0:Act} {xs:Array Value} {D:Option Nat} {W:List Nat} {O:Array Oper} {o:Oper} {P:Program} {w0:World}
def fW.T(X:Type):fW->Type
 | .int _=>Int->X
 | .bool=>Bool->X
 | .str=>ByteArray->X
 | .ptr=>cj->X
 | .slice=>cj->Nat->Nat->X
 | .map=>Option Nat->X
 | .raw=>Value->X
def qc(X:Type):List fW->Type
 | []=>X
 |l::ls=>l.T (qc X ls)
def Sh.T(X:Type):Sh->Type
 | .one l=>l.T X
 | .agg ls=>qc X ls
def rC(X:Type):List (Nat×Sh)->Type
 | []=>X
 |s::L=>s.2.T (rC X L)
def fW.lam{X:Type}:(l:fW)->(Value->X)->l.T X
 | .int k,F=>λn:Int=>F (.int k n)
 | .bool,F=>λb:Bool=>F (.bool b)
 | .str,F=>λs:ByteArray=>F (.string s)
 | .ptr,F=>λp:cj=>F (.pointer p)
 | .slice,F=>λ(p:cj) (l c:Nat)=>F (.slice p l c)
 | .map,F=>λm:Option Nat=>F (.map m)
 | .raw,F=>λv:Value=>F v
def Qe{X:Type}:(ls:List fW)->(List Value->X)->qc X ls
 | [],F=>F []
 |l::ls,F=>l.lam λv=>Qe ls λvs=>F (v::vs)
def Sh.lam{X:Type}:(s:Sh)->(Value->X)->s.T X
 | .one l,F=>l.lam F
 | .agg ls,F=>Qe ls λvs=>F (.agg vs.toArray)
def Nk{X:Type}:(L:List (Nat×Sh))->(Env->X)->Env->rC X L
 | [],F,σ=>F σ
 |(t,s)::L,F,σ=>s.lam λv=>Nk L F (σ.set t v)
def fW.ap{X Y:Type}(d:Y):(l:fW)->l.T X->Value->(X->Y)->Y
 | .int k,f,.int k' n,K=>(match decide (k=k')with|true=>K (f n)|false=>d)
 | .bool,f,.bool b,K=>K (f b)
 | .str,f,.string s,K=>K (f s)
 | .ptr,f,.pointer p,K=>K (f p)
 | .slice,f,.slice p l c,K=>K (f p l c)
 | .map,f,.map m,K=>K (f m)
 | .raw,f,v,K=>K (f v)
 |_,_,_,_=>d
def Rv{X Y:Type}(d:Y):(ls:List fW)->qc X ls->List Value->(X->Y)->Y
 | [],f, [],K=>K f
 |l::ls,f,v::vs,K=>l.ap d f v λg=>Rv d ls g vs K
 |_,_,_,_=>d
def Sh.ap{X Y:Type}(d:Y):(s:Sh)->s.T X->Value->(X->Y)->Y
 | .one l,f,v,K=>l.ap d f v K
 | .agg ls,f,.agg vs,K=>Rv d ls f vs.toList K
 |_,_,_,_=>d
def mz{X Y:Type}(d:Y):(L:List (Nat×Sh))->rC X L->Env->(X->Y)->Y
 | [],f,_,K=>K f
 |(t,s)::L,f,σ,K=>(match σ t with|some v=>s.ap d f v λg=>mz d L g σ K|none=>d)
def fW.all:fW->(Value->Prop)->Prop
 | .int k,F=> ∀n:Int,F (.int k n)
 | .bool,F=> ∀b:Bool,F (.bool b)
 | .str,F=> ∀s:ByteArray,F (.string s)
 | .ptr,F=> ∀p:cj,F (.pointer p)
 | .slice,F=> ∀(p:cj)(l c:Nat),F (.slice p l c)
 | .map,F=> ∀m:Option Nat,F (.map m)
 | .raw,F=> ∀v:Value,F v
def Qf:List fW->(List Value->Prop)->Prop
 | [],F=>F []
 |l::ls,F=>l.all λv=>Qf ls λvs=>F (v::vs)
def Sh.all:Sh->(Value->Prop)->Prop
 | .one l,F=>l.all F
 | .agg ls,F=>Qf ls λvs=>F (.agg vs.toArray)
def Kw:List (Nat×Sh)->(Env->Prop)->Env->Prop
 | [],F,σ=>F σ
 |(t,s)::L,F,σ=>s.all λv=>Kw L F (σ.set t v)
theorem fW.Kx{d:Y}{l:fW}{f:l.T X}{K:X->Y}:l.ap d f v K=d\/((∃g:X,l.ap d f v K=K g)/\∀(Z:Type)(F:Value->Z),∀(W:Type)(e:W)(J:Z->W),l.ap e (l.lam F) v J=J (F v)):=by
 cases l<;>cases v<;>first
  |exact .inl rfl
  |exact .inr ⟨⟨_,rfl⟩,λ_ _ _ _ _=>rfl⟩
  |skip
 rename_i k k' n;by_cases hk:k=k'
 .subst hk;refine .inr ⟨⟨f n,?_⟩,λZ F W e J=> ?_⟩<;>simp[fW.ap,fW.lam]
 .exact .inl (by simp[fW.ap,hk])
theorem fW.GJ{l:fW}{f:l.T X}{K:X->Prop}(h:l.ap False f v K):
  (∃g:X,K g)/\(∀(Z W:Type)(F:Value->Z)(e:W)(J:Z->W),l.ap e (l.lam F) v J=J (F v)):=by
 rcases fW.Kx (d:=False) (l:=l) (f:=f) (v:=v) (K:=K)with H|⟨⟨g,H⟩,c⟩
 .rw[H]at h;exact h.elim
 .exact⟨⟨g,by rw[H]at h;exact h⟩,λZ W F e J=>c Z F W e J⟩
theorem fW.Bl{l:fW}(h:l.all F){f:l.T X}{K:X->Prop}(H:l.ap False f v K):F v:=by
 cases l<;>cases v<;>first
  |exact H.elim
  |exact h _
  |exact h _ _ _
  |skip
 rename_i k k' n;by_cases hk:k=k'
 .subst hk;exact h n
 .simp[fW.ap,hk]at H
theorem fW.Bm{l:fW}{F:Value->X}{K:X->Prop}(h:l.ap False (l.lam F) v K):K (F v):=by
 have:=(fW.GJ h).2 X Prop F False K;rw[this]at h;exact h
variable {l:fW}
theorem GK : ∀{ls:List fW}{F:List Value->X}{vs:List Value}{K:X->Prop},Rv False ls (Qe ls F) vs K->K (F vs)
 | [],_, [],_,h=>h
 | [],_,_::_,_,h=>h.elim
 |_::_,_, [],_,h=>h.elim
 |_::ls,F,v::vs,_,h=>GK (ls:=ls) (F:=λu=>F (v::u)) (vs:=vs) (fW.Bm h)
theorem Sh.Bm{s:Sh}{F:Value->X}{K:X->Prop}(h:s.ap False (s.lam F) v K):K (F v):=by
 cases s with
 |one l=>exact fW.Bm h
 |agg ls=>
  cases v<;>first|exact h.elim|skip
  rename_i cs;have:=GK (F:=λvs=>F (.agg vs.toArray)) h;simpa using this
theorem GL : ∀{ls:List fW}{F:List Value->Prop}{f:qc X ls}{vs:List Value}{K:X->Prop},Qf ls F->Rv False ls f vs K->F vs
 | [],_,_, [],_,h,_=>h
 | [],_,_,_::_,_,_,h=>h.elim
 |_::_,_,_, [],_,_,h=>h.elim
 |l::ls,F,f,v::vs,K,h,H=>by
  obtain⟨⟨g,d⟩,_⟩:=fW.GJ H;have c:=fW.Bl h H;exact GL (ls:=ls) (F:=λu=>F (v::u)) (vs:=vs) c d
theorem Sh.Bl{s:Sh}(h:s.all F){f:s.T X}{K:X->Prop}(H:s.ap False f v K):F v:=by
 cases s with
 |one l=>exact fW.Bl h H
 |agg ls=>
  cases v<;>first|exact H.elim|skip
  have:=GL h H;simpa using this
theorem CU : ∀{ls:List fW}{f:qc X ls}{vs:List Value}{K:X->Prop},Rv False ls f vs K->∃g,K g
 | [],f, [],_,h=>⟨f,h⟩
 | [],_,_::_,_,h=>h.elim
 |_::_,_, [],_,h=>h.elim
 |_::_,_,_::_,_,h=>by
  obtain⟨⟨g,H⟩,_⟩:=fW.GJ h;exact CU H
theorem Sh.GM{s:Sh}{f:s.T X}{K:X->Prop}(h:s.ap False f v K): ∃g,K g:=by
 cases s with
 |one l=>exact(fW.GJ h).1
 |agg ls=>cases v<;>first|exact h.elim|exact CU h
variable {s:Sh} {ty:List (Nat×Sh)}
def Sub(d e c:Env):Prop:= ∀t v,d t=some v->c t=some v\/e t=some v
theorem Env.rj(σ:Env)(d t:Nat)(v:Value):σ.set d v t=if t=d then some v else σ t:=by
 unfold Env.set;by_cases h:t=d
 .subst h;simp
 .have:Nat.beq t d=false:=by cases H:Nat.beq t d;rfl;exact absurd (bO H) h
  simp[this,h]
variable {K:Env->ai->Prop}
theorem Sub.set{d f c:Env}(H:c t=some v)(h:Sub d (f.set t v) c):Sub d f c:=λu x g=>by
 rcases h u x g with h1|h1
 .exact .inl h1
 .rw[Env.rj]at h1;split at h1
  .rename_i e;subst e;exact .inl (H.trans h1)
  .exact .inr h1
theorem xf{G:Env->ai->Prop}{e:Env}: ∀(L:List (Nat×Sh))(c:Env),mz False L (Nk (X:=ai->Prop) L G c) e (λf=>f h)->∃d,G d h/\Sub d c e
 | [],c,H=>⟨c,H,λ_ _ h=> .inr h⟩
 |(t,s)::L,c,H=>by
  simp only[mz]at H;split at H
  .rename_i v k;have g:=Sh.Bm H;obtain⟨d,i,j⟩:=xf L _ g;exact⟨d,i,j.set k⟩
  .exact H.elim
theorem wS{F : Env -> Prop}{m : Env}{K : X -> Prop}: ∀(L : List (Nat × Sh))(d : Env)(f : rC X L), Kw L F d -> mz False L f m K ->
    ∃ c, F c /\ Sub c d m /\ ((∀ t s, (t, s) ∈ L -> c t = m t) /\ ∀ t, (∀ s, (t, s) ∉ L) -> c t = d t)
  | [], d, _, h, _ => ⟨d, h, λ_ _ h => .inr h, (λ_ _ h => by cases h), λ_ _ => rfl⟩
  | (t, s) :: L, d, f, h, H => by
    simp only [mz] at H
    split at H
    · rename_i v q
      have r := Sh.Bl h H
      obtain ⟨g, z⟩ := Sh.GM H
      obtain ⟨c, w, x, y, p⟩ := wS L _ g r z
      refine ⟨c, w, x.set q, λu s' j => ?_, λu j => ?_⟩
      · by_cases i : ∃ S, (u, S) ∈ L
        · obtain ⟨S, i⟩ := i; exact y u S i
        · have A : u = t := by
            rcases bD.1 j with e | e
            · exact (Prod.mk.inj e).1
            · exact absurd ⟨s', e⟩ i
          subst A
          rw [p u (λS k => i ⟨S, k⟩), Env.rj, af rfl, q]
      · rw [p u (λs' k => j s' (cu _ k)), Env.rj, ag]
        intro e; subst e; exact j s cZ
    · exact H.elim
theorem mO{d:Y}{σ c:Env}{K:X->Y}: ∀(L:List (Nat×Sh))(f:rC X L),(∀t s,(t,s)∈L->σ t=c t)->mz d L f σ K=mz d L f c K
 | [],_,_=>rfl
 |(t,s)::L,f,h=>by
  simp only[mz];rw[h t s cZ];have:(λg=>mz d L g σ K)=(λg=>mz d L g c K):=funext λg=>mO L g (λt s H=>h t s (cu _ H))
  rw[this]
theorem nL{σ : Env}{K : X -> Prop}: ∀(L : List (Nat × Sh))(f : rC X L), mz False L f σ K -> ∀ t s, (t, s) ∈ L -> ∃ v, σ t = some v
  | [], _, _, _, _, h => by cases h
  | (t, s) :: L, f, h, u, s', c => by
    simp only [mz] at h
    split at h
    · rename_i v d
      rcases bD.1 c with e | e
      · exact ⟨v, by rw [(Prod.mk.inj e).1]; exact d⟩
      · obtain ⟨g, H⟩ := Sh.GM h
        exact nL L g H u s' e
    · exact h.elim
structure Rel (n:Nat) (σ:Env) (a:Act):Prop where
 defers:a.defers= []
 size:a.tmps.size=n
 at_: ∀t v,σ t=some v->a.tmps.getD t undef=v
theorem Rel.fits{σ:Env}(h:Rel n σ a):Fits σ a.eval:=by
 intro x v H;cases x with
 |tmp t=>exact h.at_ t v H
 |const c=>simpa[Env.ev,Act.eval]using H
 |global g=>simpa[Env.ev,Act.eval]using H
 |func f=>simpa[Env.ev,Act.eval]using H
def hT(n:Nat)(σ:Env)(D:Option Nat)(v:Value)(K:Env->Prop):Prop:=
 match D with
 |none=>K σ
 |some d=>(match Nat.blt d n with|true=>K (σ.set d v)|false=>False)
theorem Ky{d:Nat}(hd:d<xs.size):(xs.setIfInBounds d v).getD t undef=if t=d then v else xs.getD t undef:=by
 by_cases h:t=d
 .subst h;simp[hd]
 .simp[h,e6 h]
theorem ij{σ:Env}{K:Env->Prop}(H:Rel n σ a)(h:hT n σ D v K): ∃f,Rel n f (a.put D v)/\K f:=by
 unfold hT at h;split at h
 .exact⟨σ,H,h⟩
 .rename_i d;split at h
  .rename_i hd;have hd:d<a.tmps.size:=by rw[H.size];exact(Nat.blt_eq▸hd)
   refine⟨_,⟨H.defers,by simp[Act.put,H.size],λt u c=> ?_⟩,h⟩;simp only[Act.put];rw[Ky hd];rw[Env.rj]at c;split
   .rename_i e;rw[af e]at c;exact bn c
   .rename_i e;rw[ag e]at c;exact H.at_ t u c
  .exact h.elim
def eV(W:List Nat)(a A:Act):Prop:= ∀t,t∉W->A.tmps.getD t undef=a.tmps.getD t undef
theorem eV.refl(W:List Nat)(a:Act):eV W a a:=λ_ _=>rfl
theorem eV.trans{c:Act}(h:eV W a b)(h':eV W b c):eV W a c:=λt H=>(h' t H).trans (h t H)
theorem eV.mono{w:List Nat}(h:eV W a b)(d: ∀t,t∈W->t∈w):eV w a b:=λt c=>h t (λH=>c (d t H))
theorem eV.put(h: ∀d,D=some d->d∈W):eV W a (a.put D v):=by
 intro t c;cases D with
 |none=>rfl
 |some d=>
  have H:t≠d:=λe=>c (e▸h d rfl)
  simp[Act.put,e6 H]
def iF(O : Array Oper)(o : Oper)(σ : Env)(r skip : Env -> Prop): Prop :=
  match o.guard with
  | none => r σ
  | some (j, j1) => (match (O[j]?).bind (·.dst) with
    | some g => (match σ g with
      | some (.bool b) => if b = true then (match j1 with | true => r (σ.set g (.bool true)) | false => skip (σ.set g (.bool true)))
          else (match j1 with | true => skip (σ.set g (.bool false)) | false => r (σ.set g (.bool false)))
      | some (.tuple _) => skip σ
      | _ => False)
    | none => False)
theorem getD_some(h:xs.getD t undef=v)(c:v≠undef):xs[t]? =some v:=by
 rw[eu]at h;cases H:xs[t]? with
 |none=>rw[H]at h;exact absurd h.symm c
 |some u=>rw[H]at h;exact bY some h
theorem iX{σ:Env}{r skip:Env->Prop}(d:Rel n σ a)(h:iF O o σ r skip):
  (Region.wanted o (yielded O a.tmps)=true/\∃i,Rel n i a/\r i)\/(Region.wanted o (yielded O a.tmps)=false/\∃i,Rel n i a/\skip i):=by
 unfold iF at h;split at h
 .rename_i c;exact .inl ⟨by simp[Region.wanted,c],σ,d,h⟩
 .rename_i j j1 c;split at h
  .rename_i g p;split at h
   .rename_i b q;have H:=d.at_ g _ q;have z:=getD_some H (by unfold undef;intro e;cases e);have f:yielded O a.tmps j=some b:=by simp[yielded,p,z]
    have mN:Rel n (σ.set g (.bool b)) a:=⟨d.defers,d.size,λt u k=>by
     rw[Env.rj]at k;split at k
     .rename_i e;subst e;rw[H];exact bn k
     .exact d.at_ t u k⟩
    split at h
    .rename_i w;subst w;split at h
     .exact .inl ⟨by simp[Region.wanted,c,f],_,mN,h⟩
     .exact .inr ⟨by simp[Region.wanted,c,f],_,mN,h⟩
    .rename_i m;have m:b=false:=by simpa using m
     subst m;split at h
     .exact .inr ⟨by simp[Region.wanted,c,f],_,mN,h⟩
     .exact .inl ⟨by simp[Region.wanted,c,f],_,mN,h⟩
   .rename_i x A;have H:=d.at_ g _ A;have f:yielded O a.tmps j=none:=by
     simp only[yielded,p,Option.bind_some];rw[eu]at H;cases y:a.tmps[g]? with
     |none=>rfl
     |some u=>rw[y]at H;simp at H;subst H;rfl
    exact .inr ⟨by simp[Region.wanted,c,f],σ,d,h⟩
   .exact h.elim
  .exact h.elim
def vy(P:Program)(o:Oper)(σ:Env)(h:ai)(K:fx):Prop:=
 match kx P o with
 |true=>ma P o σ h λv _=>K v h
 |false=>nJ P o σ h K
theorem mP{σ:Env}{d:Operand->Value}{K:fx}(c:Fits σ d)(H:vy P o σ h K):oU P o d h K:=by
 unfold vy at H;split at H
 .obtain⟨v,S,e,f,g⟩:=nK c H;exact Ks _ _ _ (g h f) _ e
 .exact ua c H
def xg(P:Program)(n:Nat)(O:Array Oper):List Oper->Env->ai->(Env->ai->Prop)->Prop
 | [],σ,h,K=>K σ h
 |o::rest,σ,h,K=>iF O o σ
   (λσ=>vy P o σ h λv h'=>hT n σ o.dst v λc=>xg P n O rest c h' K)
   (λσ=>hT n σ o.dst undef λc=>xg P n O rest c h K)
def cx(O:Array Oper):List Nat:=O.toList.filterMap (·.dst)
theorem dT{i:Nat}(H:O[i]? =some o): ∀d,o.dst=some d->d∈cx O:=λd hd=>by
 unfold cx;rw[List.mem_filterMap];exact⟨o,by simpa using Array.mem_of_getElem? H,hd⟩
def wc(n:Nat)(a0:Act)(w0:World)(W:List Nat)(K:Env->ai->Prop):Exit->Act->World->Prop:=
 λe a w=>e=.normal/\∃σ,Rel n σ a/\K σ w.heap/\fc w0 w/\eV W a0 a
theorem uc : ∀(rest:List Oper)(k:Nat)(σ:Env)(a:Act)(w:World),
  (∀j,rest[j]? =O[k+j]?)->Rel n σ a->fc w0 w->eV (cx O) a0 a->xg P n O rest σ w.heap K->wpOps P O (wc n a0 w0 (cx O) K) (List.range' k rest.length) a w
 | [],k,σ,a,w,_,g,c,d,h=>⟨rfl,σ,g,h,c,d⟩
 |o::rest,k,σ,a,w,q,g,c,d,h=>by
  have e:O[k]? =some o:=by have:=q 0;simpa using this.symm
  have r: ∀j,rest[j]? =O[k+1+j]? :=λj=>by have:=q (j+1);simpa[Nat.add_assoc,Nat.add_comm 1 j]using this
  simp only[ba,List.range'_succ,wpOps,e];simp only[xg]at h;rcases iX g h with⟨m,x,H,h⟩|⟨m,x,H,h⟩
  .rw[af m];refine .inl ((mP H.fits h).wp ?_);intro v w' hk u;obtain⟨p,i,f⟩:=ij H hk;exact uc rest (k+1) p _ w' r i (c.trans u) (d.trans (eV.put (dT e))) f
  .rw[ag (by rw[m];simp)];obtain⟨p,i,f⟩:=ij H h;exact uc rest (k+1) p _ w r i c (d.trans (eV.put (dT e))) f
def Kz:List (Nat×Sh)->Nat->Option Sh
 | [],_=>none
 |(t,s)::L,d=>(match Nat.beq t d with|true=>some s|false=>Kz L d)
def CW(ty:List (Nat×Sh))(D:Option Nat)(v:Value)(F:Value->Prop):Prop:=
 match D with
 |none=>F v
 |some d=>(match Kz ty d with|some s=>s.ex λV=>v=V/\F V|none=>F v)
theorem oZ(h:CW ty D v F):F v:=by
 unfold CW at h;split at h
 .exact h
 .split at h
  .obtain⟨V,e,h⟩:=Sh.kK h;subst e;exact h
  .exact h
def sk(P:Program)(n:Nat)(O:Array Oper)(ty:List (Nat×Sh)):List Oper->Env->ai->(Env->ai->Prop)->Prop
 | [],σ,h,K=>K σ h
 |o::rest,σ,h,K=>iF O o σ
   (λσ=>vy P o σ h λv h'=>CW ty o.dst v λv=>hT n σ o.dst v λc=>sk P n O ty rest c h' K)
   (λσ=>hT n σ o.dst undef λc=>sk P n O ty rest c h K)
theorem rD : ∀(rest:List Oper)(k:Nat)(σ:Env)(a:Act)(w:World),
  (∀j,rest[j]? =O[k+j]?)->Rel n σ a->fc w0 w->eV (cx O) a0 a->sk P n O ty rest σ w.heap K->wpOps P O (wc n a0 w0 (cx O) K) (List.range' k rest.length) a w
 | [],k,σ,a,w,_,g,c,d,h=>⟨rfl,σ,g,h,c,d⟩
 |o::rest,k,σ,a,w,q,g,c,d,h=>by
  have e:O[k]? =some o:=by have:=q 0;simpa using this.symm
  have r: ∀j,rest[j]? =O[k+1+j]? :=λj=>by have:=q (j+1);simpa[Nat.add_assoc,Nat.add_comm 1 j]using this
  simp only[ba,List.range'_succ,wpOps,e];simp only[sk]at h;rcases iX g h with⟨m,x,H,h⟩|⟨m,x,H,h⟩
  .rw[af m];refine .inl ((mP H.fits h).wp ?_);intro v w' hk u;obtain⟨p,i,f⟩:=ij H (oZ hk);exact rD rest (k+1) p _ w' r i (c.trans u) (d.trans (eV.put (dT e))) f
  .rw[ag (by rw[m];simp)];obtain⟨p,i,f⟩:=ij H h;exact rD rest (k+1) p _ w r i c (d.trans (eV.put (dT e))) f

end
def waits(o:Oper)(i:Nat):Bool:=o.after.toList.any λe=>Region.binds .any e && Nat.beq e.on i
def fo(o:Oper)(G:List (Nat×(ai->Prop))):List (Nat×(ai->Prop)):=G.filter λg=> !waits o g.1
theorem iD{o:Oper}{G:List (Nat×(ai->Prop))}{g:Nat×(ai->Prop)}(h:g∈fo o G):g∈G:=(aW.1 h).1
def gI(P:Program)(O:Array Oper)(Q:Exit->Act->World->Prop):Nat->List (Nat×(ai->Prop))->Array Bool->Act->World->Prop
 |0,_,l,a,w=>Region.ready .any O l= []/\Q .normal a w
 |fuel+1,G,l,a,w=>
  (Region.ready .any O l= []->Q .normal a w)/\
  ∀j∈Region.ready .any O l,∀o,O[j]? =some o->wpOp P O Q j (λA w'=>(∀g∈fo o G,g.2 w'.heap)/\gI P O Q fuel (fo o G) (l.setIfInBounds j true) A w') a w
section
variable {P : Program} {O : Array Oper} {Q : Exit → Act → World → Prop}
theorem nN: ∀(fuel:Nat)(G:List (Nat×(ai->Prop)))(l:Array Bool)(a:Act)(w:World),gI P O Q fuel G l a w->wpAny P .any O Q fuel l a w
 |0,_,_,_,_,h=>h
 |fuel+1,G,l,a,w,h=>⟨h.1,λi H=>by
   obtain⟨_,o,b,_⟩:=mem_ready.1 H;exact wpOp_mono (λA w' h'=>nN fuel _ _ A w' h'.2) (h.2 i H o b)⟩
theorem jV: ∀(fuel:Nat)(G b:List (Nat×(ai->Prop)))(l:Array Bool)(a:Act)(w:World),(∀g∈b,g∈G)->gI P O Q fuel G l a w->gI P O Q fuel b l a w
 |0,_,_,_,_,_,_,h=>h
 |fuel+1,G,b,l,a,w,e,h=>⟨h.1,λi c o d=>by
   have hk: ∀g∈fo o b,g∈fo o G:=λg H=>aW.2 ⟨e g (iD H),(aW.1 H).2⟩
   exact wpOp_mono (λA w' h'=>⟨λg H=>h'.1 g (hk g H),jV fuel _ _ _ A w' hk h'.2⟩) (h.2 i c o d)⟩
theorem mc(i:Nat): ∀(fuel:Nat)(G:List (Nat×(ai->Prop)))(l:Array Bool)(a:Act)(w:World),gI P O Q fuel G l a w->gI P O Q fuel ((i,λ_=>True)::G) l a w
 |0,_,_,_,_,h=>h
 |fuel+1,G,l,a,w,h=>⟨h.1,λj d o f=>by
   refine wpOp_mono (λA w' h'=>⟨λg c=> ?_,?_⟩) (h.2 j d o f)
   .obtain⟨H,b⟩:=aW.1 c;rcases bD.1 H with e|e
    .rw[e];trivial
    .exact h'.1 g (aW.2 ⟨e,b⟩)
   .have:=mc i fuel _ _ A w' h'.2;refine jV fuel _ _ _ A w' (λg c=> ?_) this;obtain⟨H,b⟩:=aW.1 c;rcases bD.1 H with e|e
    .rw[e];exact cZ
    .exact cu _ (aW.2 ⟨e,b⟩)⟩
theorem CX{o:Oper}{i:Nat}(h: ∀e∈o.after,Region.binds .any e=true->e.on≠i):waits o i=false:=by
 unfold waits;rw[List.any_eq_false];intro e a;simp only[aT,not_and];intro H b;exact h e (by simpa using a) H (bO b)
theorem nO{i:Nat}{q:Oper}{v:Value}{S:ai->Prop}(z:O[i]? =some q)(J: ∀(j:Nat) (o:Oper) cs b,O[j]? =some o->o.op≠ .select cs b)(R: ∀c a w,Q (.panic c) (a.put q.dst v) w->Q (.panic c) a w):
  ∀(F:Nat)(G:List (Nat×(ai->Prop)))(l:Array Bool)(a:Act)(w:World),
   (∀j d,O[j]? =some d->j≠i->l.getD j true=false->(∀e∈d.after,Region.binds .any e=true->e.on≠i)->q.apart O d=true)->
   i∈Region.ready .any O l->YieldsIf P O (λw=>S w.heap) q v a->S w.heap->(∀g∈G,g.2 w.heap)->
   gI P O Q F ((i,S)::G) (l.setIfInBounds i true) (a.put q.dst v) w->gI P O Q (F+1) G l a w:=by
 intro F;induction F with
 |zero=>
  intro G l a w _ p t x u H;refine⟨λh=>(by rw[h]at p;cases p),λj s o A=> ?_⟩;by_cases n:j=i
  .subst n;exact t.wpOp z x ⟨λg f=>u g (iD f),H⟩
  .have:=ready_mono s n;rw[H.1]at this;cases this
 |succ F ih=>
  intro G l a w C p t x u H;refine⟨λh=>(by rw[h]at p;cases p),λj s o A=> ?_⟩;by_cases n:j=i
  .subst n;refine t.wpOp z x ⟨λg f=>u g (iD f),jV _ _ _ _ _ _ (λg f=>cu _ (iD f)) H⟩
  .have m:=H.2 j (ready_mono s n) o A;obtain⟨E,d,r,T⟩:=mem_ready.1 s;obtain rfl:d=o:=by rw[A]at r;exact(bn r).symm
   have I: ∀e∈d.after,Region.binds .any e=true->e.on≠i:=λe V U W=>by
    have m:=T e V U;have B:=(mem_ready.1 p).1;rw[W]at m;rcases Nat.lt_or_ge i l.size with h'|h'
    .simp[h']at B m;rw[B]at m;cases m
    .simp[Array.getElem?_eq_none h']at m
   have Y:fo d ((i,S)::G)=(i,S)::fo d G:=by
    unfold fo;rw[bU,af];simp[CX I]
   rw[Y]at m;have M:=wpOp_putIf r (C j d r n E I) (λcs b=>J i q cs b z) (λcs b=>J j d cs b r) R t m;have X: ∀k ok,O[k]? =some ok->k≠i->(l.setIfInBounds j true).getD k true=false->
     (∀e∈ok.after,Region.binds .any e=true->e.on≠i)->q.apart O ok=true:=λk ok hk Z K a'=>by
    refine C k ok hk Z ?_ a';by_cases D:j=k
    .subst D;exact E
    .rw[getD_set_ne true D]at K;exact K
   refine wpOp_mono (λL w' N=> ?_) M;obtain⟨c',y,b'⟩:=N;refine⟨λg f=>y g (cu _ f),?_⟩;refine ih (fo d G) (l.setIfInBounds j true) L w' X (ready_mono p (e6 n)) c' (y _ cZ) (λg f=>y g (cu _ f)) ?_;rw[Array.setIfInBounds_comm _ _ n];exact b'
end
inductive oK where
 |done
 |op (i:Nat) (p:oK)
 |alts (q:oK)
 |fork (i:Nat) (p q:oK)
 |gQ
def qB:oK->Nat->Bool
 | .done,n=>Nat.beq n 0
 | .op _ p,n+1=>qB p n
 | .alts q,n+1=>qB q (n+1)
 | .fork _ p q,n+1=>qB p n && qB q (n+1)
 | .gQ,_=>true
 |_,_=>false
def hI(P:Program)(O:Array Oper):oK->Option (List Nat)->Array Bool->Bool
 | .done,none,l=>(Region.ready .any O l).isEmpty
 | .op i rest,none,l=>
  (match O[i]? with
   |some o=>(match kx P o with
    |true=>(Region.ready .any O l).contains i && Region.free .any O l i
    |false=>(match Region.ready .any O l with| [j]=>Nat.beq i j|_=>false))
   |none=>false) && hI P O rest none (l.setIfInBounds i true)
 | .alts q,none,l=>(match Region.ready .any O l with| []=>false|j::J=>hI P O q (some (j::J)) l)
 | .fork i p q,some R,l=>(match O[i]? with
   |some o=> !kx P o
   |none=>false) && hI P O p none (l.setIfInBounds i true) && hI P O q (some (R.filter λj=> !Nat.beq i j)) l
 | .gQ,some R,_=>R.isEmpty
 |_,_,_=>false
def o0(h:ai)(K:Prop):List (Nat×(ai->Prop))->Prop
 | []=>K
 |g::G=>g.2 h/\o0 h K G
theorem sr{h:ai}{K:Prop}: ∀{G:List (Nat×(ai->Prop))},o0 h K G->(∀g∈G,g.2 h)/\K
 | [],H=>⟨(λ_ a=>by cases a),H⟩
 |_::_,H=>by
  obtain⟨b,c⟩:=sr H.2;refine⟨λd a=> ?_,c⟩;rcases bD.1 a with e|e
  .rw[e];exact H.1
  .exact b _ e
def ss(i:Nat)(S:Option (ai->Prop))(G:List (Nat×(ai->Prop))):List (Nat×(ai->Prop)):=
 match S with
 |some S=>(i,S)::G
 |none=>G
def hU(P:Program)(n:Nat)(O:Array Oper):oK->List (Nat×(ai->Prop))->Env->ai->(Env->ai->Prop)->Prop
 | .done,_,σ,h,K=>K σ h
 | .op i rest,G,σ,h,K=>(match O[i]? with
  |some o=>iF O o σ
    (λσ=>(match kx P o with
     |true=>ma P o σ h λv S=>hT n σ o.dst v λa=>hU P n O rest (ss i S G) a h K
     |false=>nJ P o σ h λv h'=>o0 h' (hT n σ o.dst v λa=>hU P n O rest (fo o G) a h' K) (fo o G)))
    (λσ=>hT n σ o.dst undef λa=>hU P n O rest G a h K)
  |none=>False)
 | .alts q,G,σ,h,K=>hU P n O q G σ h K
 | .fork i rest q,G,σ,h,K=>(match O[i]? with
  |some o=>iF O o σ
    (λσ=>nJ P o σ h λv h'=>o0 h' (hT n σ o.dst v λa=>hU P n O rest (fo o G) a h' K) (fo o G))
    (λσ=>hT n σ o.dst undef λa=>hU P n O rest G a h K)
  |none=>False)/\hU P n O q G σ h K
 | .gQ,_,_,_,_=>True
theorem xh{P:Program}{n:Nat}{O:Array Oper}{K:Env->ai->Prop}{a0:Act}{w0:World}{rest:oK}{i m:Nat}{o:Oper}{L:Array Bool}{G:List (Nat×(ai->Prop))}{σ:Env}{a:Act}{w:World}(I: ∀G σ a w,Rel n σ a->fc w0 w->eV (cx O) a0 a->(∀g∈G,g.2 w.heap)->hU P n O rest G σ w.heap K->gI P O (wc n a0 w0 (cx O) K) m G (L.setIfInBounds i true) a w)(H:O[i]? =some o)(t:Rel n σ a)(q:fc w0 w)(r:eV (cx O) a0 a)(p: ∀g∈G,g.2 w.heap)(h:iF O o σ (λσ=>nJ P o σ w.heap λv h'=>o0 h' (hT n σ o.dst v λb=>hU P n O rest (fo o G) b h' K) (fo o G)) (λσ=>hT n σ o.dst undef λb=>hU P n O rest G b w.heap K)):
  wpOp P O (wc n a0 w0 (cx O) K) i (λA w'=>(∀g∈fo o G,g.2 w'.heap)/\gI P O (wc n a0 w0 (cx O) K) m (fo o G) (L.setIfInBounds i true) A w') a w:=by
 rcases iX t h with⟨j,b,c,h⟩|⟨j,b,c,x⟩
 .unfold wpOp;simp only[H,j,bh];refine .inl ((ua c.fits h).wp ?_);intro v w' hk u;obtain⟨l,s⟩:=sr hk;obtain⟨k,f,d⟩:=ij c s;exact⟨l,I _ k _ w' f (q.trans u) (r.trans (eV.put (dT H))) l d⟩
 .unfold wpOp;simp only[H,j,au,aN];obtain⟨k,f,d⟩:=ij c x;have I:=I G k _ w f q (r.trans (eV.put (dT H))) p d;exact⟨λg e=>p g (iD e),jV _ _ _ _ _ _ (λg e=>iD e) I⟩
theorem Bo{P:Program}{n:Nat}{O:Array Oper}{K:Env->ai->Prop}{a0:Act}{w0:World}(a':Region.noSelect O=true)(gS:oK):
  (∀(m:Nat)(l:Array Bool)(G:List (Nat×(ai->Prop)))(σ:Env)(a:Act)(w:World),qB gS m=true->
   hI P O gS none l=true->Rel n σ a->fc w0 w->eV (cx O) a0 a->(∀g∈G,g.2 w.heap)->hU P n O gS G σ w.heap K->
   gI P O (wc n a0 w0 (cx O) K) m G l a w)/\
  (∀(m:Nat)(R:List Nat)(l:Array Bool)(G:List (Nat×(ai->Prop)))(σ:Env)(a:Act)(w:World),qB gS (m+1)=true->
   hI P O gS (some R) l=true->Rel n σ a->fc w0 w->eV (cx O) a0 a->(∀g∈G,g.2 w.heap)->hU P n O gS G σ w.heap K->
   ∀j∈R,∀o,O[j]? =some o->wpOp P O (wc n a0 w0 (cx O) K) j (λQ w'=>(∀g∈fo o G,g.2 w'.heap)/\gI P O (wc n a0 w0 (cx O) K) m (fo o G) (l.setIfInBounds j true) Q w') a w):=by
 induction gS with
 |done=>
  refine⟨λm l G σ a w b H f k p d h=> ?_,λm R l G σ a w b H=>by cases H⟩;obtain rfl:m=0:=bO b;simp only[hI,List.isEmpty_iff]at H;exact⟨H,rfl,σ,f,h,k,p⟩
 |gQ=>
  refine⟨λm l G σ a w b H=>(by cases H),λm R l G σ a w b H f k p d h j t=> ?_⟩;simp only[hI,List.isEmpty_iff]at H;subst H;cases t
 |alts q I=>
  refine⟨λm l G σ a w b H f k p d h=> ?_,λm R l G σ a w b H=>by cases H⟩;cases m with
  |zero=>cases b
  |succ m=>
   simp only[hI]at H;split at H
   .cases H
   .rename_i j js z;refine⟨(λe=>by rw[z]at e;cases e),λj' L o r=> ?_⟩;rw[z]at L;exact I.2 m _ l G σ a w b H f k p d h j' L o r
 |fork i rest q c' d'=>
  refine⟨λm l G σ a w b H=>(by cases H),λm R l G σ a w b H f k p d h j t o r=> ?_⟩;simp only[hI,aT]at H;obtain⟨⟨s,B⟩,Z⟩:=H;simp only[qB,aT]at b;simp only[hU]at h;by_cases M:i=j
  .subst M;have h:=h.1;rw[r]at h;exact xh (λG σ a w f k p d h=>c'.1 m _ G σ a w b.1 B f k p d h) r f k p d h
  .refine d'.2 m _ l G σ a w b.2 Z f k p d h.2 j (aW.2 ⟨t,?_⟩) o r;have:Nat.beq i j=false:=by cases Y:Nat.beq i j;rfl;exact absurd (bO Y) M
   simp[this]
 |op i rest I=>
  refine⟨λm l G σ a w b H f k p d h=> ?_,λm R l G σ a w b H=>by cases H⟩;cases m with
  |zero=>cases b
  |succ m=>
   simp only[hI,aT]at H;obtain⟨s,B⟩:=H;simp only[hU]at h;split at h
   .rename_i o r;simp only[r]at s;have X: ∀v,∀c a w,wc n a0 w0 (cx O) K (.panic c) (a.put o.dst v) w->wc n a0 w0 (cx O) K (.panic c) a w:=λv c a w hq=>by cases hq.1
    have take: ∀(v:Value)(S:Option (ai->Prop))(y:Env),kx P o=true->Rel n y (a.put o.dst v)->YieldsIf P O (λw=>tY S w.heap) o v a->tY S w.heap->
      hU P n O rest (ss i S G) y w.heap K->gI P O (wc n a0 w0 (cx O) K) (m+1) G l a w:=λv S y x u hy A hd=>by
     rw[x]at s;simp only[aT]at s;have W: ∀g∈ss i S G,g.2 w.heap:=by
      intro g J;cases S with
      |none=>exact d g J
      |some S=>
       rcases bD.1 J with e|e
       .rw[e];exact A
       .exact d g e
     have I:=I.1 m _ (ss i S G) y (a.put o.dst v) w b B u k (p.trans (eV.put (dT r))) W hd;refine nO (S:=tY S) r (Region.noSelect_spec a') (X v) m G l a w (Region.free_spec r s.2) (by simpa using s.1) hy A d ?_;cases S with
     |none=>exact mc i _ _ _ _ _ I
     |some S=>exact I
    cases x:kx P o with
    |true=>
     rcases iX f h with⟨E,y,u,h⟩|⟨E,y,u,b'⟩
     .rw[x]at h;obtain⟨v,S,T,U,V⟩:=nK u.fits h;obtain⟨F,D,C⟩:=ij u T;exact take v S F x D (.inl ⟨E,λw' A=>oT _ _ _ (V _ A)⟩) U C
     .obtain⟨F,D,C⟩:=ij u b';exact take undef none F x D (.inr ⟨E,rfl⟩) trivial C
    |false=>
     rw[x]at s h;simp only at s h;have z:Region.ready .any O l= [i]:=by
      split at s
      .rename_i j t;rw[t,bO s]
      .cases s
     refine⟨(λe=>by rw[z]at e;cases e),λj t o' N=> ?_⟩;rw[z]at t;obtain rfl:j=i:=by simpa using t
     obtain rfl:o'=o:=by rw[r]at N;exact(bn N).symm
     exact xh (λG σ a w f k p d h=>I.1 m _ G σ a w b B f k p d h) r f k p d h
   .exact h.elim
def fE:Nat->Nat->oK->oK
 |0,_,p=>p
 |k+1,i,p=> .op i (fE k (i+1) p)
def qX(o:Oper)(B:List (Nat×cj)):List (Nat×cj):=B.filter λg=> !waits o g.1
def Ti(h h':ai)(K:Prop):List (Nat×cj)->Prop
 | []=>K
 |B=>Kp h h' (B.map (·.2))/\K
theorem Qg{h h':ai}{K:Prop}{B:List (Nat×cj)}(H:Ti h h' K B):(∀g∈B,ke g.2 h h')/\K:=by
 cases B with
 |nil=>exact⟨(λ_ c=>by cases c),H⟩
 |cons b B=>exact⟨λg a=>H.1 g.2 (bg.2 ⟨g,a,rfl⟩),H.2⟩
def gj(P:Program)(n:Nat)(O:Array Oper):oK->List (Nat×(ai->Prop))->List (Nat×cj)->Env->ai->(Env->ai->Prop)->Prop
 | .done,_,_,σ,h,K=>K σ h
 | .op i rest,G,B,σ,h,K=>(match O[i]? with
  |some o=>iF O o σ
    (λσ=>(match kx P o with
     |true=>ma P o σ h λv S=>hT n σ o.dst v λa=>(match Bi σ o with
      |some p=>gj P n O rest G ((i,p)::B) a h K
      |none=>gj P n O rest (ss i S G) B a h K)
     |false=>nJ P o σ h λv h'=>o0 h' (Ti h h' (hT n σ o.dst v λa=>gj P n O rest (fo o G) (qX o B) a h' K) (qX o B)) (fo o G)))
    (λσ=>hT n σ o.dst undef λa=>gj P n O rest G B a h K)
  |none=>False)
 | .alts q,G,B,σ,h,K=>gj P n O q G B σ h K
 | .fork i rest q,G,B,σ,h,K=>(match O[i]? with
  |some o=>iF O o σ
    (λσ=>nJ P o σ h λv h'=>o0 h' (Ti h h' (hT n σ o.dst v λa=>gj P n O rest (fo o G) (qX o B) a h' K) (qX o B)) (fo o G))
    (λσ=>hT n σ o.dst undef λa=>gj P n O rest G B a h K)
  |none=>False)/\gj P n O q G B σ h K
 | .gQ,_,_,_,_,_=>True
def GB(F G:List (Nat×(ai->Prop)))(B:List (Nat×cj))(h:ai):Prop:= ∀f∈F,f∈G\/∃p,(f.1,p)∈B/\∀h',ke p h h'->f.2 h'
theorem GB.step{F G:List (Nat×(ai->Prop))}{B:List (Nat×cj)}{h h':ai}{o:Oper}(H:GB F G B h)(j: ∀g∈fo o G,g.2 h')(k: ∀g∈qX o B,ke g.2 h h'):(∀f∈fo o F,f.2 h')/\GB (fo o F) (fo o G) (qX o B) h':=by
 have key: ∀f∈fo o F,f.2 h'/\(f∈fo o G\/∃p,(f.1,p)∈qX o B/\∀c,ke p h' c->f.2 c):=λf b=>by
  obtain⟨l,d⟩:=aW.1 b;rcases H f l with a|⟨p,m,hk⟩
  .have:f∈fo o G:=aW.2 ⟨a,d⟩;exact⟨j f this,.inl this⟩
  .have e:(f.1,p)∈qX o B:=aW.2 ⟨m,d⟩;have i:=k _ e;exact⟨hk _ i,.inr ⟨p,e,λc q=>hk _ (ke.trans i q)⟩⟩
 exact⟨λf b=>(key f b).1,λf b=>(key f b).2⟩
theorem vz{P:Program}{n:Nat}{O:Array Oper}{K:Env->ai->Prop}{a0:Act}{w0:World}{rest:oK}{i m:Nat}{o:Oper}{L:Array Bool}{F G:List (Nat×(ai->Prop))}{B:List (Nat×cj)}{σ:Env}{a:Act}{w:World}(I: ∀F G B σ a w,Rel n σ a->fc w0 w->eV (cx O) a0 a->(∀g∈F,g.2 w.heap)->GB F G B w.heap->gj P n O rest G B σ w.heap K->gI P O (wc n a0 w0 (cx O) K) m F (L.setIfInBounds i true) a w)(c:O[i]? =some o)(u:Rel n σ a)(r:fc w0 w)(s:eV (cx O) a0 a)(p: ∀g∈F,g.2 w.heap)(q:GB F G B w.heap)(h:iF O o σ (λσ=>nJ P o σ w.heap λv h'=>o0 h' (Ti w.heap h' (hT n σ o.dst v λb=>gj P n O rest (fo o G) (qX o B) b h' K) (qX o B)) (fo o G)) (λσ=>hT n σ o.dst undef λb=>gj P n O rest G B b w.heap K)):
  wpOp P O (wc n a0 w0 (cx O) K) i (λA w'=>(∀g∈fo o F,g.2 w'.heap)/\gI P O (wc n a0 w0 (cx O) K) m (fo o F) (L.setIfInBounds i true) A w') a w:=by
 rcases iX u h with⟨k,b,d,h⟩|⟨k,b,d,y⟩
 .unfold wpOp;simp only[c,k,bh];refine .inl ((ua d.fits h).wp ?_);intro v w' hk x;obtain⟨t,e⟩:=sr hk;obtain⟨e,H⟩:=Qg e;obtain⟨l,j,H⟩:=ij d H;obtain⟨q1,q2⟩:=q.step t e;exact⟨q1,I _ _ _ l _ w' j (r.trans x) (s.trans (eV.put (dT c))) q1 q2 H⟩
 .unfold wpOp;simp only[c,k,au,aN];obtain⟨l,j,H⟩:=ij d y;have I:=I F G B l _ w j r (s.trans (eV.put (dT c))) p q H;exact⟨λg f=>p g (iD f),jV _ _ _ _ _ _ (λg f=>iD f) I⟩
theorem zc{P:Program}{n:Nat}{O:Array Oper}{K:Env->ai->Prop}{a0:Act}{w0:World}(i':Region.noSelect O=true)(gS:oK):
  (∀(m:Nat)(l:Array Bool)(F G:List (Nat×(ai->Prop)))(B:List (Nat×cj))(σ:Env)(a:Act)(w:World),qB gS m=true->
   hI P O gS none l=true->Rel n σ a->fc w0 w->eV (cx O) a0 a->(∀g∈F,g.2 w.heap)->GB F G B w.heap->gj P n O gS G B σ w.heap K->
   gI P O (wc n a0 w0 (cx O) K) m F l a w)/\
  (∀(m:Nat)(R:List Nat)(l:Array Bool)(F G:List (Nat×(ai->Prop)))(B:List (Nat×cj))(σ:Env)(a:Act)(w:World),qB gS (m+1)=true->
   hI P O gS (some R) l=true->Rel n σ a->fc w0 w->eV (cx O) a0 a->(∀g∈F,g.2 w.heap)->GB F G B w.heap->gj P n O gS G B σ w.heap K->
   ∀j∈R,∀o,O[j]? =some o->wpOp P O (wc n a0 w0 (cx O) K) j (λa' w'=>(∀g∈fo o F,g.2 w'.heap)/\gI P O (wc n a0 w0 (cx O) K) m (fo o F) (l.setIfInBounds j true) a' w') a w):=by
 induction gS with
 |done=>
  refine⟨λm l F G B σ a w b H r s t k d h=> ?_,λm R l F G B σ a w b H=>by cases H⟩;obtain rfl:m=0:=bO b;simp only[hI,List.isEmpty_iff]at H;exact⟨H,rfl,σ,r,h,s,t⟩
 |gQ=>
  refine⟨λm l F G B σ a w b H=>(by cases H),λm R l F G B σ a w b H r s t k d h j y=> ?_⟩;simp only[hI,List.isEmpty_iff]at H;subst H;cases y
 |alts q I=>
  refine⟨λm l F G B σ a w b H r s t k d h=> ?_,λm R l F G B σ a w b H=>by cases H⟩;cases m with
  |zero=>cases b
  |succ m=>
   simp only[hI]at H;split at H
   .cases H
   .rename_i j js L;refine⟨(λe=>by rw[L]at e;cases e),λj' b' o u=> ?_⟩;rw[L]at b';exact I.2 m _ l F G B σ a w b H r s t k d h j' b' o u
 |fork i rest q l' m'=>
  refine⟨λm l F G B σ a w b H=>(by cases H),λm R l F G B σ a w b H r s t k d h j y o u=> ?_⟩;simp only[hI,aT]at H;obtain⟨⟨x,U⟩,h'⟩:=H;simp only[qB,aT]at b;simp only[gj]at h;by_cases c':i=j
  .subst c';have h:=h.1;rw[u]at h;exact vz (λF G B σ a w r s t k d h=>l'.1 m _ F G B σ a w b.1 U r s t k d h) u r s t k d h
  .refine m'.2 m _ l F G B σ a w b.2 h' r s t k d h.2 j (aW.2 ⟨y,?_⟩) o u;have:Nat.beq i j=false:=by cases hb:Nat.beq i j;rfl;exact absurd (bO hb) c'
   simp[this]
 |op i rest I=>
  refine⟨λm l F G B σ a w b H r s t k d h=> ?_,λm R l F G B σ a w b H=>by cases H⟩;cases m with
  |zero=>cases b
  |succ m=>
   simp only[hI,aT]at H;obtain⟨x,U⟩:=H;simp only[gj]at h;split at h
   .rename_i o u;simp only[u]at x;have hQ: ∀v,∀c a w,wc n a0 w0 (cx O) K (.panic c) (a.put o.dst v) w->wc n a0 w0 (cx O) K (.panic c) a w:=λv c a w hq=>by cases hq.1
    have take: ∀(v:Value)(S:Option (ai->Prop))(C:Env)(Q:List (Nat×(ai->Prop)))(N:List (Nat×cj)),kx P o=true->Rel n C (a.put o.dst v)->YieldsIf P O (λw=>tY S w.heap) o v a->tY S w.heap->GB (ss i S F) Q N w.heap->
      gj P n O rest Q N C w.heap K->gI P O (wc n a0 w0 (cx O) K) (m+1) F l a w:=λv S C Q N A z hy D g' hd=>by
     rw[A]at x;simp only[aT]at x;have f': ∀g∈ss i S F,g.2 w.heap:=by
      intro g hg;cases S with
      |none=>exact k g hg
      |some S=>
       rcases bD.1 hg with e|e
       .rw[e];exact D
       .exact k g e
     have I:=I.1 m _ (ss i S F) Q N C (a.put o.dst v) w b U z s (t.trans (eV.put (dT u))) f' g' hd;refine nO (S:=tY S) u (Region.noSelect_spec i') (hQ v) m F l a w (Region.free_spec u x.2) (by simpa using x.1) hy D k ?_;cases S with
     |none=>exact mc i _ _ _ _ _ I
     |some S=>exact I
    have gb: ∀(S:Option (ai->Prop)),GB (ss i S F) (ss i S G) B w.heap:=λS f T=>by
     cases S with
     |none=>exact d f T
     |some S=>
      rcases bD.1 T with e|e
      .exact .inl (e▸cZ)
      .exact(d f e).imp (cu _) id
    cases A:kx P o with
    |true=>
     rcases iX r h with⟨V,C,z,h⟩|⟨V,C,z,k'⟩
     .rw[A]at h;dsimp only at h;cases Z:Bi C o with
      |some p=>
       rw[Z]at h;obtain⟨v,S,W,X,E,Y⟩:=Bj z.fits Z h;obtain⟨M,J,e'⟩:=ij z W;refine take v (some S) M G ((i,p)::B) A J (.inl ⟨V,λw' D=>oT _ _ _ (Y _ D)⟩) X (λf T=> ?_) e';rcases bD.1 T with e|e
       .exact .inr ⟨p,e▸cZ,e▸E⟩
       .exact(d f e).imp id λ⟨q,hq,hk⟩=>⟨q,cu _ hq,hk⟩
      |none=>
       rw[Z]at h;obtain⟨v,S,W,X,Y⟩:=nK z.fits h;obtain⟨M,J,E⟩:=ij z W;exact take v S M _ B A J (.inl ⟨V,λw' D=>oT _ _ _ (Y _ D)⟩) X (gb S) E
     .obtain⟨M,J,E⟩:=ij z k';exact take undef none M G B A J (.inr ⟨V,rfl⟩) trivial d E
    |false=>
     rw[A]at x h;simp only at x h;have L:Region.ready .any O l= [i]:=by
      split at x
      .rename_i j y;rw[y,bO x]
      .cases x
     refine⟨(λe=>by rw[L]at e;cases e),λj y o' d'=> ?_⟩;rw[L]at y;obtain rfl:j=i:=by simpa using y
     obtain rfl:o'=o:=by rw[u]at d';exact(bn d').symm
     exact vz (λF G B σ a w r s t k d h=>I.1 m _ F G B σ a w b U r s t k d h) u r s t k d h
   .exact h.elim
inductive sf where
 |leaf
 |seq (a b:sf)
 |cond (a b:sf)
 |block (a:sf)
 |loop (L:List (Nat×Sh)) (a:sf)
 |join (L:List (Nat×Sh)) (a:sf)
 |gS (p:oK)
 |jk (p:oK)
 |scope (l:Nat) (L:List (Nat×Sh)) (a b:sf)
 |typed (ty:List (Nat×Sh))
def writes:Code->List Nat
 | .region _ o _=>cx o
 | .seq a b=>writes a++writes b
 | .cond _ a b=>writes a++writes b
 | .block _ a=>writes a
 | .loop a=>writes a
 | .scope a=>writes a
 |_=> []
def Env.forget(σ:Env)(ws:List Nat):Env:=λt=>bif ws.any (Nat.beq t)then none else σ t
theorem Env.vA{σ:Env}{ws:List Nat}{t:Nat}{v:Value}(h:σ.forget ws t=some v):t∉ws/\σ t=some v:=by
 unfold Env.forget at h;cases H:ws.any (Nat.beq t)with
 |true=>rw[H]at h;cases h
 |false=>
  rw[H]at h;refine⟨λa=> ?_,h⟩;have:=List.any_eq_false.1 H t a;simp at this
def GN(K:Env->ai->Prop)(Q:Exit->Env->ai->Prop):Exit->Env->ai->Prop
 | .normal=>K
 |e=>Q e
def KA(id:Nat)(Q:Exit->Env->ai->Prop):Exit->Env->ai->Prop
 | .exit i=>(match Nat.beq i id with|true=>Q .normal|false=>Q (.exit i))
 |e=>Q e
def aK{α:Type}(F:α)(B:α->Prop):Prop:=B F
def vB(l:Nat)(K:Env->ai->Prop)(Q:Exit->Env->ai->Prop):Exit->Env->ai->Prop
 | .goto L=>(match Nat.beq L l with|true=>K|false=>λ_ _=>False)
 |e=>Q e
def mQ:Code->Nat->Bool
 | .seq a b,l=>mQ a l||mQ b l
 | .label L,l=>Nat.beq L l
 |_,_=>false
def den(P:Program)(n:Nat):sf->Option Nat->Code->(Exit->Env->ai->Prop)->Env->ai->Prop
 | .leaf,none,c,Q,σ,h=>(match c with
  | .skip=>Q .normal σ h
  | .label _=>Q .normal σ h
  | .exit id=>Q (.exit id) σ h
  | .goto l=>Q (.goto l) σ h
  | .ret=>Q .ret σ h
  | .region _ o false=>xg P n o o.toList σ h (Q .normal)
  |_=>False)
 | .leaf,some l,c,Q,σ,h=>(match c with
  | .label j=>(match Nat.beq j l with|true=>Q (.goto l) σ h|false=>False)
  |_=>False)
 | .gS p,none,c,Q,σ,h=>(match c with
  | .region _ o true=>(match (P.follows .mixedOrders && Region.noSelect o && qB p o.size && hI P o p none (Array.replicate o.size false))with
   |true=>hU P n o p [] σ h (Q .normal)
   |false=>False)
  |_=>False)
 | .jk p,none,c,Q,σ,h=>(match c with
  | .region _ o true=>(match (P.follows .mixedOrders && Region.noSelect o && qB p o.size && hI P o p none (Array.replicate o.size false))with
   |true=>gj P n o p [] [] σ h (Q .normal)
   |false=>False)
  |_=>False)
 | .seq a b,none,c,Q,σ,h=>(match c with
  | .seq c d=>den P n a none c (GN (λe h'=>den P n b none d Q e h') Q) σ h
  |_=>False)
 | .seq a b,some l,c,Q,σ,h=>(match c with
  | .seq c d=>(match mQ c l with
   |true=>den P n a (some l) c Q σ h
   |false=>den P n a none c (GN (λe h'=>den P n b (some l) d Q e h') Q) σ h)
  |_=>False)
 | .cond a b,none,c,Q,σ,h=>(match c with
  | .cond x c d=>(match σ.ev x with
   |some (.bool q)=>if q=true then den P n a none c Q σ h else den P n b none d Q σ h
   |_=>False)
  |_=>False)
 | .block a,none,c,Q,σ,h=>(match c with
  | .block id c=>den P n a none c (KA id Q) σ h
  |_=>False)
 | .loop L a,none,c,Q,σ,h=>(match c with
  | .loop c=> ∃(I:rC (ai->Prop) L)(g:rC (ai->Nat) L),mz False L I σ (λf=>f h)/\
    Kw L (λe=> ∀h',mz False L I e (λf=>f h')->
     den P n a none c (GN (λi H=>mz False L I i (λf=>f H)/\mz 0 L g i (λf=>f H)<mz 0 L g e (λf=>f h')) Q) e h') (σ.forget (writes c))
  |_=>False)
 | .join L a,none,c,Q,σ,h=>aK (α:=rC (ai->Prop) L) (Nk L (λe h'=>Q .normal e h') (σ.forget (writes c)))
   (λJ=>den P n a none c (GN (λe h'=>mz False L J e (λf=>f h')) Q) σ h)
 | .typed ty,none,c,Q,σ,h=>(match c with
  | .region _ o false=>sk P n o ty o.toList σ h (Q .normal)
  |_=>False)
 | .scope l L a b,none,c,Q,σ,h=>(match c with
  | .scope c=>(match findLabel c l with
   |some r=> ∃(I:rC (ai->Prop) L)(g:rC (ai->Nat) L),
     den P n a (some l) c (vB l (λe h'=>mz False L I e (λf=>f h')) Q) σ h/\
     Kw L (λe=> ∀h',mz False L I e (λf=>f h')->
      den P n b none r (vB l (λi H=>mz False L I i (λf=>f H)/\mz 0 L g i (λf=>f H)<mz 0 L g e (λf=>f h')) Q) e h') (σ.forget (writes c))
   |none=>False)
  |_=>False)
 |_,_,_,_,_,_=>False
def opened:Code->List Code
 | .skip=> []
 | .seq a b=>opened a++ [b]
 |c=> [c]
theorem jH{P:Program}{b:Frame}{a:Act}{cs:List Frame}{w:World}: ∀(c:Code)(k:List Item),Steps P (lone (b.at a (.code c::k)) cs w) (lone (b.at a ((opened c).map Item.code++k)) cs w)
 | .skip,k=> .one step_skip
 | .seq x y,k=>by
  simp only[opened,bf,bV,List.map_nil,cX,dB,dz];exact .head step_seq (jH x (.code y::k))
 | .region _ _ _,_=> .refl _ _
 | .cond _ _ _,_=> .refl _ _
 | .block _ _,_=> .refl _ _
 | .loop _,_=> .refl _ _
 | .rangeFunc _ _ _ _,_=> .refl _ _
 | .exit _,_=> .refl _ _
 | .scope _,_=> .refl _ _
 | .label _,_=> .refl _ _
 | .goto _,_=> .refl _ _
 | .ret,_=> .refl _ _
 | .refuse _,_=> .refl _ _
theorem mA: ∀(c:Code)(l:Nat),mQ c l=(findLabel c l).isSome
 | .seq a b,l=>by
  unfold mQ findLabel;rw[mA a l,mA b l];cases findLabel a l<;>simp
 | .label L,l=>by
  unfold mQ findLabel;by_cases h:L=l
  .subst h;simp
  .have:Nat.beq L l=false:=by cases H:Nat.beq L l;rfl;exact absurd (bO H) h
   simp[this,h]
 | .skip,_=>rfl
 | .region _ _ _,_=>rfl
 | .cond _ _ _,_=>rfl
 | .block _ _,_=>rfl
 | .loop _,_=>rfl
 | .rangeFunc _ _ _ _,_=>rfl
 | .exit _,_=>rfl
 | .scope _,_=>rfl
 | .goto _,_=>rfl
 | .ret,_=>rfl
 | .refuse _,_=>rfl
theorem jW: ∀(c:Code)(l:Nat)(r:Code),findLabel c l=some r->∀t,t∈writes r->t∈writes c
 | .seq a b,l,r,h,t,ht=>by
  unfold findLabel at h;split at h
  .rename_i rest H;simp only[bw]at h;subst h;rcases bJ.1 ht with ht|ht
   .exact dI _ (jW a l rest H t ht)
   .exact dV _ ht
  .exact dV _ (jW b l r h t ht)
 | .label L,l,r,h,t,ht=>by
  unfold findLabel at h;split at h
  .simp only[bw]at h;subst h;cases ht
  .cases h
 | .skip,_,_,h,_,_=>by cases h
 | .region _ _ _,_,_,h,_,_=>by cases h
 | .cond _ _ _,_,_,h,_,_=>by cases h
 | .block _ _,_,_,h,_,_=>by cases h
 | .loop _,_,_,h,_,_=>by cases h
 | .rangeFunc _ _ _ _,_,_,h,_,_=>by cases h
 | .exit _,_,_,h,_,_=>by cases h
 | .scope _,_,_,h,_,_=>by cases h
 | .goto _,_,_,h,_,_=>by cases h
 | .ret,_,_,h,_,_=>by cases h
 | .refuse _,_,_,h,_,_=>by cases h
def Rx(P:Program)(l:Nat)(c:Code)(Q:Exit->Act->World->Prop)(a:Act)(w:World):Prop:=
 ∀(b:Frame)(k:List Item)(cs:List Frame),
  (∃e A w',Q e A w'/\e≠ .normal/\Arrives P (lone (b.at a (.code c::k)) cs w) b k cs e A w')\/
  (∃A w' r,Q (.goto l) A w'/\findLabel c l=some r/\Steps P (lone (b.at a (.code c::k)) cs w) (lone (b.at A ((opened r).map Item.code++k)) cs w'))
def up(n:Nat)(a0:Act)(w0:World)(W:List Nat)(Q:Exit->Env->ai->Prop):Exit->Act->World->Prop:=
 λe a w=> ∃σ,Rel n σ a/\Q e σ w.heap/\fc w0 w/\eV W a0 a
theorem qe{n:Nat}{a0:Act}{w0:World}{W:List Nat}{Q:Exit->Env->ai->Prop}{e:Exit}{a:Act}{w:World}(h:wc n a0 w0 W (Q .normal) e a w):up n a0 w0 W Q e a w:=by
 obtain⟨rfl,h⟩:=h;exact h
def vC(a:Act):Env:=λt=>some (a.tmps.getD t undef)
theorem Rel.rE{n:Nat}{σ b c:Env}{a A:Act}{W:List Nat}(f:Rel n σ a)(H:Rel n b A)(i:eV W a A)(g:Sub c (σ.forget W) b):Rel n c A:=
 ⟨H.defers,H.size,λt v j=>by
  rcases g t v j with h|h
  .exact H.at_ t v h
  .obtain⟨d,e⟩:=Env.vA h;rw[i t d];exact f.at_ t v e⟩
theorem kT{Y:Type}{d:Y}{X:Type}{L:List (Nat×Sh)}{f:rC X L}{K:X->Y}{n:Nat}{σ:Env}{a:Act}(b:Rel n σ a)(hd: ∀t s,(t,s)∈L->∃v,σ t=some v):mz d L f (vC a) K=mz d L f σ K:=
 mO L f λt s H=>by
  obtain⟨v,h⟩:=hd t s H;rw[h];unfold vC;rw[b.at_ t v h]
def Nb(P:Program)(c:Code)(Q:Exit->Act->World->Prop)(a:Act)(w:World):Prop:=
 ∀(b:Frame)(k:List Item)(cs:List Frame),∃e A w',Q e A w'/\Arrives P (lone (b.at a ((opened c).map Item.code++k)) cs w) b k cs e A w'
theorem Nb.wp{P:Program}{c:Code}{Q:Exit->Act->World->Prop}{a:Act}{w:World}(h:Nb P c Q a w):c.wp P Q a w:=λb k cs=>by
 obtain⟨e,A,w',d,H⟩:=h b k cs;exact⟨e,A,w',d,.of_steps (jH c k) H⟩
theorem gE{P:Program}{c:Code}{Q:Exit->Act->World->Prop}{a:Act}{w:World}(H:opened c= [c])(h:c.wp P Q a w):Nb P c Q a w:=λb k cs=>by
 rw[H];exact h b k cs
theorem su{P:Program}{c:Code}{Q d:Exit->Act->World->Prop}{a:Act}{w:World}(h:Nb P c Q a w)(H: ∀e a w,Q e a w->d e a w):Nb P c d a w:=
 λb k cs=>let ⟨e,A,w',q,r⟩:=h b k cs;⟨e,A,w',H _ _ _ q,r⟩
theorem Nl{P:Program}{x y:Code}{Q:Exit->Act->World->Prop}{a:Act}{w:World}(h:Nb P x (Exit.then (Nb P y Q) Q) a w):Nb P (.seq x y) Q a w:=by
 intro b k cs;simp only[opened,bf,bV,List.map_nil,cX,dB,dz];obtain⟨e,A,W,c,H⟩:=h b (.code y::k) cs;cases e with
 |normal=>
  obtain⟨E,d,i,g,f⟩:=c b k cs;exact⟨E,d,i,g,.of_steps (Steps.trans H (jH y k)) f⟩
 |exit id=>exact⟨_,A,W,c,.pass (x:=.code y) rfl (λ_ _=> .inl bM) H⟩
 |goto l=>exact⟨_,A,W,c,.pass (x:=.code y) rfl (λ_ _=> .inl bM) H⟩
 |ret=>exact⟨_,A,W,c,.pass (x:=.code y) rfl (λ_ _=> .inl bM) H⟩
 |panic C=>exact⟨_,A,W,c,.pass (x:=.code y) rfl (λ_ _=> .inl bM) H⟩
 |outgrown=>exact⟨_,A,W,c,.pass (x:=.code y) rfl (λ_ _=> .inl bM) H⟩
theorem xi{P:Program}{Q:Exit->Act->World->Prop}{a:Act}{w:World}{c r:Code}{l:Nat}(y:findLabel c l=some r)(I:Act->World->Prop)(q:Act->World->Nat)(s:Exit->Act->World->Prop)(t:Act->World->Exit->Act->World->Prop)(E:Rx P l c s a w)(z: ∀A w',s (.goto l) A w'->I A w')(F: ∀e A w',e≠ .goto l->e≠ .normal->s e A w'->Q e A w'/\∀x,e≠ .goto x)(R: ∀a w,I a w->Nb P r (t a w) a w)(G: ∀a w A w',I a w->t a w (.goto l) A w'->I A w'/\q A w'<q a w)(J: ∀a w e A w',I a w->e≠ .goto l->t a w e A w'->Q e A w'/\∀x,e≠ .goto x):
  (Code.scope c).wp P Q a w:=by
 intro b k cs;have out: ∀(m:Machine)(e:Exit)(A:Act)(w':World),(∀x,e≠ .goto x)->Arrives P m b (.inScope c::k) cs e A w'->Arrives P m b k cs e A w':=by
  intro m e A w' i h;cases e with
  |normal=>exact Steps.trans h (.one step_inScope)
  |exit id=>exact λk' hk=>h k' (by simp[exitTo,hk])
  |goto x=>exact absurd rfl (i x)
  |ret=>exact h
  |panic S=>exact h
  |outgrown=>exact h
 have key: ∀n a w,q a w=n->I a w->∃e A w',Q e A w'/\Arrives P (lone (b.at a ((opened r).map Item.code++ .inScope c::k)) cs w) b k cs e A w':=by
  intro n;induction n using Nat.strongRecOn with
  |_ n O=>
   intro a w N u;obtain⟨e,d,W,H,h⟩:=R a w u b (.inScope c::k) cs;by_cases B:e=.goto l
   .subst B;obtain⟨K,M⟩:=G a w d W u H;have o:=h (.code r:: .inScope c::k) (by simp[gotoIn,y]);obtain⟨e2,f,p,j,g⟩:=O (q d W) (N▸M) d W rfl K;exact⟨e2,f,p,j,.of_steps (Steps.trans o (jH r _)) g⟩
   .obtain⟨v,i⟩:=J a w e d W u B H;exact⟨e,d,W,v,out _ e d W i h⟩
 rcases E b (.inScope c::k) cs with⟨e,A,w',H,L,h⟩|⟨A,w',T,H,D,o⟩
 .by_cases C:e=.goto l
  .subst C;have o:=h (.code r:: .inScope c::k) (by simp[gotoIn,y]);obtain⟨e2,f,p,j,g⟩:=key _ A w' rfl (z A w' H);exact⟨e2,f,p,j,.of_steps (.head step_scope (Steps.trans o (jH r _))) g⟩
  .obtain⟨v,i⟩:=F e A w' C L H;exact⟨e,A,w',v,.of_steps (.one step_scope) (out _ e A w' i h)⟩
 .rw[y]at D;cases D;obtain⟨e2,f,p,j,g⟩:=key _ A w' rfl (z A w' H);exact⟨e2,f,p,j,.of_steps (.head step_scope o) g⟩
def Ry(P:Program)(c:Code)(Q:Exit->Act->World->Prop)(a:Act)(w:World):Option Nat->Prop
 |none=>Nb P c Q a w
 |some l=>Rx P l c Q a w
theorem jI{P:Program}{n:Nat}: ∀(k':sf)(m:Option Nat)(c:Code)(Q:Exit->Env->ai->Prop)(σ:Env)(a:Act)(w:World),Rel n σ a->den P n k' m c Q σ w.heap->Ry P c (up n a w (writes c) Q) a w m
 | .leaf,none,c,Q,σ,a,w,s,h=>by
  unfold den at h;split at h
  .exact λb k cs=>⟨.normal,a,w,⟨σ,s,h,fc.refl w,eV.refl _ _⟩,.refl _ _⟩
  .exact gE rfl (wp_label ⟨σ,s,h,fc.refl w,eV.refl _ _⟩)
  .exact gE rfl (wp_exit ⟨σ,s,h,fc.refl w,eV.refl _ _⟩)
  .exact gE rfl (wp_goto ⟨σ,s,h,fc.refl w,eV.refl _ _⟩)
  .exact gE rfl (wp_ret ⟨σ,s,h,fc.refl w,eV.refl _ _⟩)
  .rename_i id O;refine gE rfl (wp_mono (wp_region (Q:=wc n a w (cx O) (Q .normal)) ?_) (λe A w' H=>qe H));have:=uc (a0:=a) (w0:=w) O.toList 0 σ a w bM s (fc.refl w) (eV.refl _ _) h;rw[fu];simpa using this
  .exact h.elim
 | .leaf,some l,c,Q,σ,a,w,s,h=>by
  unfold den at h;split at h
  .rename_i l';split at h
   .rename_i hl;obtain rfl:l'=l:=bO hl;exact λb k cs=> .inr ⟨a,w,.skip,⟨σ,s,h,fc.refl w,eV.refl _ _⟩,by simp[findLabel],.one step_label⟩
   .exact h.elim
  .exact h.elim
 | .gS p,none,c,Q,σ,a,w,s,h=>by
  unfold den at h;split at h
  .rename_i id O;split at h
   .rename_i F;simp only[aT]at F;obtain⟨⟨⟨h1,h2⟩,h3⟩,h4⟩:=F;refine gE rfl (wp_mono (wp_region_any (Q:=wc n a w (cx O) (Q .normal)) h1 ?_) (λe A w' H=>qe H));have:=(Bo (a0:=a) (w0:=w) h2 p).1 O.size (Array.replicate O.size false) [] σ a { w with drawn:=w.drawn+1 } h3 h4 s ⟨rfl,rfl,rfl⟩ (eV.refl _ _) (λ_ U=>by cases U) h;exact nN _ _ _ _ _ this
   .exact h.elim
  .exact h.elim
 | .jk p,none,c,Q,σ,a,w,s,h=>by
  unfold den at h;split at h
  .rename_i id O;split at h
   .rename_i F;simp only[aT]at F;obtain⟨⟨⟨h1,h2⟩,h3⟩,h4⟩:=F;refine gE rfl (wp_mono (wp_region_any (Q:=wc n a w (cx O) (Q .normal)) h1 ?_) (λe A w' H=>qe H));have:=(zc (a0:=a) (w0:=w) h2 p).1 O.size (Array.replicate O.size false) [] [] [] σ a { w with drawn:=w.drawn+1 } h3 h4 s ⟨rfl,rfl,rfl⟩ (eV.refl _ _) (λ_ U=>by cases U) (λ_ U=>by cases U) h;exact nN _ _ _ _ _ this
   .exact h.elim
  .exact h.elim
 | .seq x y,none,c,Q,σ,a,w,s,h=>by
  unfold den at h;split at h
  .rename_i c d;refine Nl (su (jI x none c _ σ a w s h) ?_);rintro e A w' ⟨g,o,H,j,i⟩;have v: ∀t,t∈writes c->t∈writes (.seq c d):=λt u=>dI _ u
   cases e with
   |normal=>
    refine su (jI y none d Q g A w' o H) ?_;rintro e2 a2 w2 ⟨a',W,B,X,Z⟩;exact⟨a',W,B,j.trans X,(i.mono v).trans (Z.mono λt u=>dV _ u)⟩
   |exit id=>exact⟨g,o,H,j,i.mono v⟩
   |goto l=>exact⟨g,o,H,j,i.mono v⟩
   |ret=>exact⟨g,o,H,j,i.mono v⟩
   |panic R=>exact⟨g,o,H,j,i.mono v⟩
   |outgrown=>exact⟨g,o,H,j,i.mono v⟩
  .exact h.elim
 | .seq x y,some l,c,Q,σ,a,w,s,h=>by
  unfold den at h;split at h
  .rename_i c d;have v: ∀t,t∈writes c->t∈writes (.seq c d):=λt u=>dI _ u
   have i': ∀t,t∈writes d->t∈writes (.seq c d):=λt u=>dV _ u
   split at h
   .rename_i hl;have ih:=jI x (some l) c Q σ a w s h;intro b k cs;rcases ih b (.code d::k) cs with⟨e,A,w',H,b',E⟩|⟨A,w',r,H,hf,t'⟩
    .obtain⟨g,o,H,j,i⟩:=H;exact .inl ⟨e,A,w',⟨g,o,H,j,i.mono v⟩,b',.of_steps (.one step_seq) (.pass (x:=.code d) rfl (λ_ _=> .inl b') E)⟩
    .obtain⟨g,o,H,j,i⟩:=H;refine .inr ⟨A,w',.seq r d,⟨g,o,H,j,i.mono v⟩,by simp[findLabel,hf],.head step_seq ?_⟩;simpa[opened]using t'
   .rename_i hl;have ih:=jI x none c _ σ a w s h;have q':findLabel c l=none:=by
     have:=mA c l;rw[hl]at this;cases H:findLabel c l with
     |none=>rfl
     |some r=>rw[H]at this;cases this
    intro b k cs;obtain⟨e,A,w',⟨g,o,H,j,i⟩,E⟩:=ih.wp b (.code d::k) cs;cases e with
    |normal=>
     rcases jI y (some l) d Q g A w' o H b k cs with⟨e2,a2,w2,B,b',n'⟩|⟨a2,w2,r,B,p',u'⟩
     .obtain⟨a',W,B,X,Z⟩:=B;exact .inl ⟨e2,a2,w2,⟨a',W,B,j.trans X,(i.mono v).trans (Z.mono i')⟩,b',.of_steps (.head step_seq E) n'⟩
     .obtain⟨a',W,B,X,Z⟩:=B;exact .inr ⟨a2,w2,r,⟨a',W,B,j.trans X,(i.mono v).trans (Z.mono i')⟩,by simp[findLabel,q',p'],.head step_seq (Steps.trans E u')⟩
    |exit id=>exact .inl ⟨_,A,w',⟨g,o,H,j,i.mono v⟩,bM,.of_steps (.one step_seq) (.pass (x:=.code d) rfl (λ_ _=> .inl bM) E)⟩
    |goto l'=>exact .inl ⟨_,A,w',⟨g,o,H,j,i.mono v⟩,bM,.of_steps (.one step_seq) (.pass (x:=.code d) rfl (λ_ _=> .inl bM) E)⟩
    |ret=>exact .inl ⟨_,A,w',⟨g,o,H,j,i.mono v⟩,bM,.of_steps (.one step_seq) (.pass (x:=.code d) rfl (λ_ _=> .inl bM) E)⟩
    |panic R=>exact .inl ⟨_,A,w',⟨g,o,H,j,i.mono v⟩,bM,.of_steps (.one step_seq) (.pass (x:=.code d) rfl (λ_ _=> .inl bM) E)⟩
    |outgrown=>exact .inl ⟨_,A,w',⟨g,o,H,j,i.mono v⟩,bM,.of_steps (.one step_seq) (.pass (x:=.code d) rfl (λ_ _=> .inl bM) E)⟩
  .exact h.elim
 | .cond x y,none,c,Q,σ,a,w,s,h=>by
  unfold den at h;split at h
  .rename_i k c d;split at h
   .rename_i q H;have he:=s.fits _ _ H;split at h
    .rename_i u;subst u;refine gE rfl (wp_cond_true he (wp_mono (jI x none c Q σ a w s h).wp ?_));rintro e A w' ⟨g,o,H,j,i⟩;exact⟨g,o,H,j,i.mono λt u=>dI _ u⟩
    .rename_i u;have u:q=false:=by simpa using u
     subst u;refine gE rfl (wp_cond_false he (wp_mono (jI y none d Q σ a w s h).wp ?_));rintro e A w' ⟨g,o,H,j,i⟩;exact⟨g,o,H,j,i.mono λt u=>dV _ u⟩
   .exact h.elim
  .exact h.elim
 | .block x,none,c,Q,σ,a,w,s,h=>by
  unfold den at h;split at h
  .rename_i id c;refine gE rfl (wp_block (wp_mono (jI x none c _ σ a w s h).wp ?_));rintro e A w' ⟨g,o,H,j,i⟩;cases e with
   |exit e'=>
    simp only[Exit.inBlock];simp only[KA]at H;by_cases hid:e'=id
    .subst hid;simp only[Nat.beq_refl]at H;rw[af rfl];exact⟨g,o,H,j,i⟩
    .rw[ag hid];have:Nat.beq e' id=false:=by cases F:Nat.beq e' id;rfl;exact absurd (bO F) hid
     rw[this]at H;exact⟨g,o,H,j,i⟩
   |normal=>exact⟨g,o,H,j,i⟩
   |goto l=>exact⟨g,o,H,j,i⟩
   |ret=>exact⟨g,o,H,j,i⟩
   |panic R=>exact⟨g,o,H,j,i⟩
   |outgrown=>exact⟨g,o,H,j,i⟩
  .exact h.elim
 | .loop L x,none,c,Q,σ,a,w,s,h=>by
  unfold den at h;split at h
  .rename_i c;obtain⟨I,μ,h0,d'⟩:=h;refine gE rfl (wp_loop (λA w'=> ∃g,Rel n g A/\mz False L I g (λf=>f w'.heap)/\fc w w'/\eV (writes c) a A)
    (λA w'=>mz 0 L μ (vC A) (λf=>f w'.heap)) ⟨σ,s,h0,fc.refl w,eV.refl _ _⟩ ?_)
   rintro A w' ⟨g,o,S,j,i⟩;obtain⟨D,hF,Y,hL,_⟩:=wS L _ I d' S;have V:=Rel.rE s o i Y;have T:mz False L I D (λf=>f w'.heap):=by rw[mO L I hL];exact S
   have hd:=hF w'.heap T;refine wp_mono (jI x none c _ D A w' V hd).wp ?_;rintro e a1 w1 ⟨N,G,H,J,M⟩;cases e with
   |normal=>
    obtain⟨g',r'⟩:=H;refine⟨⟨N,G,g',j.trans J,i.trans M⟩,?_⟩;rw[kT G (nL L I g'),kT V (nL L I T)];exact r'
   |exit id=>exact⟨N,G,H,j.trans J,i.trans M⟩
   |goto l=>exact⟨N,G,H,j.trans J,i.trans M⟩
   |ret=>exact⟨N,G,H,j.trans J,i.trans M⟩
   |panic R=>exact⟨N,G,H,j.trans J,i.trans M⟩
   |outgrown=>exact⟨N,G,H,j.trans J,i.trans M⟩
  .exact h.elim
 | .join L x,none,c,Q,σ,a,w,s,h=>by
  unfold den at h;unfold aK at h;refine su (jI x none c _ σ a w s h) ?_;rintro e A w' ⟨g,o,H,j,i⟩;cases e with
  |normal=>
   obtain⟨D,hQ,Y⟩:=xf L _ H;exact⟨D,Rel.rE s o i Y,hQ,j,i⟩
  |exit id=>exact⟨g,o,H,j,i⟩
  |goto l=>exact⟨g,o,H,j,i⟩
  |ret=>exact⟨g,o,H,j,i⟩
  |panic R=>exact⟨g,o,H,j,i⟩
  |outgrown=>exact⟨g,o,H,j,i⟩
 | .scope l L x y,none,c,Q,σ,a,w,s,h=>by
  unfold den at h;split at h
  .rename_i c;split at h
   .rename_i r hf;obtain⟨I,μ,h0,d'⟩:=h;have m':=jW c l r hf;have j': ∀(K:Env->ai->Prop)(e:Exit)(g:Env)(h':ai),e≠ .goto l->vB l K Q e g h'->Q e g h'/\∀z,e≠ .goto z:=by
     intro K e g h' s' H;cases e with
     |goto z=>
      simp only[vB]at H;have:Nat.beq z l=false:=by cases F:Nat.beq z l;rfl;exact absurd (by rw[bO F]) s'
      rw[this]at H;exact H.elim
     |normal=>exact⟨H,λz C=>by cases C⟩
     |exit id=>exact⟨H,λz C=>by cases C⟩
     |ret=>exact⟨H,λz C=>by cases C⟩
     |panic R=>exact⟨H,λz C=>by cases C⟩
     |outgrown=>exact⟨H,λz C=>by cases C⟩
    refine gE rfl (xi hf (λA w'=> ∃g,Rel n g A/\mz False L I g (λf=>f w'.heap)/\fc w w'/\eV (writes c) a A)
     (λA w'=>mz 0 L μ (vC A) (λf=>f w'.heap)) _
     (λa0 w0 e A w'=> ∃g,Rel n g A/\vB l (λD f'=>mz False L I D (λf=>f f')/\mz 0 L μ D (λf=>f f')<mz 0 L μ (vC a0) (λf=>f w0.heap)) Q e g w'.heap/\fc w w'/\eV (writes c) a A)
     (jI x (some l) c _ σ a w s h0) ?_ ?_ ?_ ?_ ?_)
    .rintro A w' ⟨g,o,H,j,i⟩;simp only[vB,Nat.beq_refl]at H;exact⟨g,o,H,j,i⟩
    .rintro e A w' o' _ ⟨g,o,H,j,i⟩;obtain⟨c',B⟩:=j' _ e g _ o' H;exact⟨⟨g,o,c',j,i⟩,B⟩
    .rintro A w' ⟨g,o,S,j,i⟩;obtain⟨D,hF,Y,hL,_⟩:=wS L _ I d' S;have V:=Rel.rE s o i Y;have T:mz False L I D (λf=>f w'.heap):=by rw[mO L I hL];exact S
     have hd:=hF w'.heap T;refine su (jI y none r _ D A w' V hd) ?_;rintro e a1 w1 ⟨N,G,H,J,M⟩;refine⟨N,G,?_,j.trans J,i.trans (M.mono m')⟩;cases e with
     |goto z=>
      simp only[vB]at H⊢;cases C:Nat.beq z l with
      |false=>rw[C]at H;exact H.elim
      |true=>
       rw[C]at H;obtain⟨q1,q2⟩:=H;exact⟨q1,by rw[kT V (nL L I T)];exact q2⟩
     |normal=>exact H
     |exit id=>exact H
     |ret=>exact H
     |panic R=>exact H
     |outgrown=>exact H
    .rintro a0 w0 A w' _ ⟨g,o,H,j,i⟩;simp only[vB,Nat.beq_refl]at H;obtain⟨q1,q2⟩:=H;refine⟨⟨g,o,q1,j,i⟩,?_⟩;rw[kT o (nL L I q1)];exact q2
    .rintro a0 w0 e A w' _ he ⟨g,o,H,j,i⟩;obtain⟨c',B⟩:=j' _ e g _ he H;exact⟨⟨g,o,c',j,i⟩,B⟩
   .exact h.elim
  .exact h.elim
 | .gS _,some _,_,_,_,_,_,_,h=>h.elim
 | .jk _,some _,_,_,_,_,_,_,h=>h.elim
 | .cond _ _,some _,_,_,_,_,_,_,h=>h.elim
 | .block _,some _,_,_,_,_,_,_,h=>h.elim
 | .loop _ _,some _,_,_,_,_,_,_,h=>h.elim
 | .join _ _,some _,_,_,_,_,_,_,h=>h.elim
 | .scope _ _ _ _,some _,_,_,_,_,_,_,h=>h.elim
 | .typed _,some _,_,_,_,_,_,_,h=>h.elim
 | .typed ty,none,c,Q,σ,a,w,s,h=>by
  unfold den at h;split at h
  .rename_i id O;refine gE rfl (wp_mono (wp_region (Q:=wc n a w (cx O) (Q .normal)) ?_) (λe A w' H=>qe H));have:=rD (a0:=a) (w0:=w) O.toList 0 σ a w bM s (fc.refl w) (eV.refl _ _) h;rw[fu];simpa using this
  .exact h.elim
def rF(P:Program):List ResultVar->Env->ai->(List Value->Prop)->Prop
 | [],_,_,F=>F []
 | .tmp t::r,σ,h,F=>aO (σ t) λv=>rF P r σ h λvs=>F (v::vs)
 | .cell a t::r,σ,h,F=>(match σ a with
  |some (.pointer p)=>aO p λA=>qb P t h A λv _=>rF P r σ h λvs=>F (v::vs)
  |_=>False)
def vD(vs:List Value):Value:=
 match vs with
 | [v]=>v
 |vs=> .tuple vs.toArray
def Qh(P:Program)(r:Array ResultVar)(R:fx):Exit->Env->ai->Prop
 | .normal,σ,h=>rF P r.toList σ h λvs=>R (vD vs) h
 | .ret,σ,h=>rF P r.toList σ h λvs=>R (vD vs) h
 |_,_,_=>False
def lj(args:List Value):Env:=λt=>args[t]?
def ID(a:Act):ResultVar->Sem Value
 | .tmp t=>pure (a.tmps.getD t undef)
 | .cell A t=>do loadVar t (<-asAddr (a.tmps.getD A undef))
theorem Bp{P:Program}{n:Nat}{σ:Env}{a:Act}{h:ai}(c:Rel n σ a): ∀(r:List ResultVar)(F:List Value->Prop),rF P r σ h F->∃vs,F vs/\
  rd P (r.mapM (ID a)) h=some vs
 | [],F,H=>⟨[],H,rfl⟩
 | .tmp t::r,F,H=>by
  obtain⟨v,m,H⟩:=bZ.1 H;obtain⟨vs,d,e⟩:=Bp c r _ H;refine⟨v::vs,d,?_⟩;rw[List.mapM_cons];have f:rd P (ID a (.tmp t)) h=some v:=by
   show some (a.tmps.getD t undef)=some v;rw[c.at_ t v m]
  rw[bm _ _ _ _ f,bm _ _ _ _ e];rfl
 | .cell A t::r,F,H=>by
  simp only[rF]at H;split at H
  .rename_i p l;obtain⟨b,rfl,k⟩:=bZ.1 H;obtain⟨v,S,d,e,g⟩:=xe k;obtain⟨vs,i,j⟩:=Bp c r _ d;refine⟨v::vs,i,?_⟩;rw[List.mapM_cons];have f:rd P (ID a (.cell A t)) h=some v:=by
    show rd P (do loadVar t (<-asAddr (a.tmps.getD A undef))) h=_;rw[c.at_ A _ l];exact g h e
   rw[bm _ _ _ _ f,bm _ _ _ _ j];rfl
  .exact H.elim
theorem rG{P:Program}{n:Nat}{σ:Env}{a:Act}{h:ai}{f:Func}{F:Value->Prop}(g:Rel n σ a)(e:rF P f.results.toList σ h λvs=>F (vD vs)):
  ∃v,F v/\rd P (results f a.tmps) h=some v:=by
 obtain⟨vs,H,b⟩:=Bp g _ _ e;refine⟨_,H,?_⟩;have c:rd P (f.results.mapM (ID a)) h=some vs.toArray:=by
  rw[Array.mapM_eq_mapM_toList];show rd P (f.results.toList.mapM (ID a)>>=λl=>pure (List.toArray l)) h=_;rw[bm _ _ _ _ b];rfl
 have d:results f a.tmps=f.results.mapM (ID a)>>=λvs=>pure (if h:vs.size=1 then vs[0]else .tuple vs):=by
  unfold results;congr 1
 rw[d,bm _ _ _ _ c]
 match vs with
 | []=>rfl
 | [v]=>rfl
 |u::v::vs=>rfl
theorem ze{P:Program}{f:FuncId}{b:Func}{c:Code}{args:List Value}{h:ai}{R:fx}(A:sf)(n:P.funcs[f]? =some b)(m:b.body=some c)(i:Nat.ble args.length b.ntmps=true)(hd:den P b.ntmps A none c (Qh P b.results R) (lj args) h):ar P f args.toArray h R:=by
 intro w r;subst r;have i:=Nat.le_of_ble_eq_true i;refine calls_of_wp n m ?_;have d:Rel b.ntmps (lj args) { tmps:=args.toArray++Array.replicate (b.ntmps - args.toArray.size) undef,defers:= [] } :=by
  refine⟨rfl,by simp;omega,λt v g=> ?_⟩;unfold lj at g;have p:t<args.length:=(aC.1 g).1;simp only[eu];rw[dv (by simpa using p)];simp[g]
 refine wp_mono (jI A none c _ _ _ w d hd).wp ?_;rintro e a w' ⟨σ,d,H,q,_⟩;have fin:rF P b.results.toList σ w'.heap (λvs=>R (vD vs) w'.heap)->a.defers= []/\∃v,(results b a.tmps).run P w'=.ok v w'/\∃V,Ending.returned v=.returned V/\R V w'.heap/\fc w w':=λo=>by
  obtain⟨v,j,k⟩:=rG (F:=λv=>R v w'.heap) d o;exact⟨d.defers,v,oT _ _ _ k,v,rfl,j,q⟩
 cases e with
 |normal=>exact fin H
 |ret=>exact fin H
 |exit id=>exact H.elim
 |goto l=>exact H.elim
 |panic C=>exact H.elim
 |outgrown=>exact H.elim
def rH(f:Func):Code:=f.body.getD .skip
theorem xj{P:Program}{f:FuncId}{F:Func}{args:List Value}{h:ai}{R:fx}(a:sf)(d:P.funcs[f]? =some F)(b:F.body.isSome=true)(e:Nat.ble args.length F.ntmps=true)(hd:den P F.ntmps a none (rH F) (Qh P F.results R) (lj args) h):ar P f args.toArray h R:=by
 obtain⟨c,H⟩:=eL.1 b;refine ze a d H e ?_;rw[rH,H]at hd;exact hd
end Go.Den
namespace Go.Den
theorem jX{h:ai}{b i:Nat}{c:Array Value}{t:TypeId}{f:Nat×Nat}(H:h[b]? =some (.cells c t f)):aB h (AA b i)=c[i]? :=by
 simp[aB,H]
theorem me{h:ai}{b i:Nat}{c:Array Value}{t:TypeId}(H:h[b]? =some (.cells c t (0,0))):nF h (AA b i)=false:=by
 simp[nF,H]
theorem xm{h:ai}{a:Addr}{v:Value}(H:aB h a=some v): ∃c t f,h[a.block]? =some (.cells c t f)/\a.spot=none/\c[a.off]? =some v:=by
 unfold aB at H;split at H
 .rename_i c t f b;split at H
  .cases H
  .rename_i d;exact⟨c,t,f,b,by simpa using d,H⟩
 .cases H
theorem aF{h:ai}{b:Nat}{o:Obj}(H:h[b]? =some o):b<h.size:=(Array.getElem?_eq_some_iff.1 H).1
theorem xo{h:ai}{b:Nat}{o x:Obj}(H:h[b]? =some o):(h.push x)[b]? =some o:=by
 rw[fb,ag (Nat.ne_of_lt (aF H)),H]
theorem bT{h:ai}{x:Obj}:(h.push x)[h.size]? =some x:=bM
theorem ud{h:ai}{b i:Nat}{c:Array Value}{t:TypeId}{f:Nat×Nat}{v:Value}(H:h[b]? =some (.cells c t f)):(mN h (AA b i) v)[b]? =some (.cells (c.setIfInBounds i v) t f):=by
 simp[mN,dE,H]
theorem rJ{h:ai}{a:Addr}{b:Nat}{v:Value}(H:b≠a.block):(mN h a v)[b]? =h[b]? :=by
 simp[mN,dE,e6 H]
theorem Af{h:ai}{a:Addr}{v:Value}:(mN h a v).size=h.size:=by simp[mN]
theorem gl(b o n:Nat):((AA b o):Addr).add n=(AA b (o+n)):=by
 unfold Addr.add;split
 .rename_i h;subst h;rfl
 .rfl
theorem add_add(a:Addr)(m n:Nat):(a.add m).add n=a.add (m+n):=by
 unfold Addr.add;split
 .rename_i h;subst h;simp
 .split
  .rename_i h H;subst H;simp[h]
  .rename_i h H;have:m+n≠0:=ae
   rw[ag this];simp[Nat.add_assoc]
def Fr(S:Nat->Prop)(h h':ai):Prop:=h.size<=h'.size/\∀c,c<h.size->¬S c->h'[c]? =h[c]?
theorem Fr.refl(S:Nat->Prop)(h:ai):Fr S h h:=⟨aZ _,λ_ _ _=>rfl⟩
theorem Fr.get{S:Nat->Prop}{h h':ai}(a:Fr S h h'){c:Nat}{o:Obj}(H:h[c]? =some o)(b: ¬S c):h'[c]? =some o:=
 (a.2 c (aF H) b).trans H
theorem Fr.trans{S s S'':Nat->Prop}{h d e:ai}(a:Fr S h d)(f:Fr s d e)(i: ∀c,c<h.size->S c->S'' c)(j: ∀c,c<h.size->s c->S'' c):Fr S'' h e:=
 ⟨cJ a.1 f.1,λc H g=>(f.2 c (cy H a.1) (λb=>g (j c H b))).trans (a.2 c H (λb=>g (i c H b)))⟩
theorem Fr.mono{S s:Nat->Prop}{h h':ai}(a:Fr S h h')(e: ∀c,c<h.size->S c->s c):Fr s h h':=
 ⟨a.1,λc H b=>a.2 c H (λd=>b (e c H d))⟩
theorem Fr.push{S:Nat->Prop}(h:ai)(o:Obj):Fr S h (h.push o):=
 ⟨bM,λc H _=>by rw[fb,ag (Nat.ne_of_lt H)]⟩
theorem Fr.cell{S:Nat->Prop}{h h':ai}(d:Fr S h h'){a:Addr}{v:Value}(b:aB h a=some v)(e: ¬S a.block):aB h' a=some v:=by
 obtain⟨c,t,f,H,g,i⟩:=xm b;have:=d.get H e;unfold aB;rw[this];simp[g,i]
def im(l:List (Int×Value))(k:Int):Option Value:=(l.find? (·.1==k)).map (·.2)
def CY(l:List (Int×Value))(k:Int)(v:Value):List (Int×Value):=if(im l k).isSome=true then l.map (λe=>if e.1==k then(k,v)else e)else l++ [(k,v)]
def ue(l:List (Int×Value))(k:Int):List (Int×Value):=l.filter (λe=> !(e.1==k))
theorem KB(k:Int):im [] k=none:=rfl
theorem fZ(e:Int×Value)(l:List (Int×Value))(k:Int):im (e::l) k=if e.1=k then some e.2 else im l k:=by
 unfold im;by_cases h:e.1=k<;>simp[h]
theorem CZ{l:List (Int×Value)}{k:Int}:(im l k).isSome=true↔k∈l.map (·.1):=by
 induction l with
 |nil=>simp[im]
 |cons e l i=>
  rw[fZ,bV,bD];by_cases h:e.1=k
  .simp[h]
  .rw[ag h,i];constructor
   .exact λhm=> .inr hm
   .rintro(E|hm)
    .exact absurd E.symm h
    .exact hm
theorem xp(l:List (Int×Value))(k k':Int)(v:Value)(H:k'≠k):im (l.map (λe=>if e.1==k then(k,v)else e)) k'=im l k':=by
 induction l with
 |nil=>rfl
 |cons e l i=>
  rw[bV,fZ,fZ,i];by_cases h:e.1=k
  .simp[h,e6 H]
  .simp[h]
theorem zh(l:List (Int×Value))(k:Int)(v:Value)(H:(im l k).isSome=true):im (l.map (λe=>if e.1==k then(k,v)else e)) k=some v:=by
 induction l with
 |nil=>simp[im]at H
 |cons e l i=>
  rw[bV,fZ];by_cases h:e.1=k
  .simp[h]
  .rw[fZ,ag h]at H;have a:(e.1==k)=false:=by simp[h]
   rw[a];simp only[au,aN,ag h];exact i H
theorem C0(l L:List (Int×Value))(k:Int):im (l++L) k=(im l k).or (im L k):=by
 induction l with
 |nil=>simp[im]
 |cons e l i=>
  rw[dB,fZ,fZ,i];by_cases h:e.1=k<;>simp[h]
theorem IE(l:List (Int×Value))(k k':Int)(v:Value):im (CY l k v) k'=if k'=k then some v else im l k':=by
 unfold CY;by_cases H:(im l k).isSome=true
 .rw[af H];by_cases h:k'=k
  .subst h;rw[af rfl,zh _ _ _ H]
  .rw[ag h,xp _ _ _ _ h]
 .rw[ag H,C0,fZ,KB];have a:im l k=none:=by simpa using H
  by_cases h:k'=k
  .subst h;simp[a]
  .simp[h,e6 h]
theorem IF(l:List (Int×Value))(k k':Int):im (ue l k) k'=if k'=k then none else im l k':=by
 unfold ue;induction l with
 |nil=>simp[im]
 |cons e l i=>
  rw[bU,fZ];by_cases h:e.1=k
  .subst h;simp only[eP,cQ,au,aN];rw[i];by_cases hk:k'=e.1
   .simp[hk]
   .simp[hk,e6 hk]
  .have H:(!(e.1==k))=true:=by simp[h]
   rw[af H,fZ,i];by_cases hk:k'=k
   .subst hk;simp[h]
   .simp[hk]
theorem IG(l:List (Int×Value))(k:Int)(v:Value)(d:(l.map (·.1)).Nodup):((CY l k v).map (·.1)).Nodup:=by
 unfold CY;by_cases H:(im l k).isSome=true
 .rw[af H];have:(l.map (λe=>if e.1==k then(k,v)else e)).map (·.1)=l.map (·.1):=by
   rw[dH];apply dS
   intro e _;by_cases h:e.1=k<;>simp[h]
  rw[this];exact d
 .rw[ag H,bf];rw[CZ]at H;rw[dX];exact⟨d,bM,by intro a f b c;simp at c;subst c;intro e;subst e;exact H f⟩
theorem II(l:List (Int×Value))(k:Int)(h:(l.map (·.1)).Nodup):((ue l k).map (·.1)).Nodup:=
 List.Sublist.nodup (ff _ cA) h
def pc(h:ai)(m:Nat)(l:List (Int×Value)):Prop:=
 ∃(es:Array MapEntry)(c:Nat),h[m]? =some (.map es c)/\es.toList.map (λe=>(e.key,e.val))=l.map (λe=>(Value.int .i64 e.1,e.2))/\(l.map (·.1)).Nodup/\
  (∀e∈es.toList,e.born<c)/\(es.toList.map (·.born)).Nodup
def lX(h:ai)(m:Nat)(f:Int->Option Value):Prop:= ∃l,pc h m l/\∀k,im l k=f k
theorem pc.lu{h h':ai}{m:Nat}{l:List (Int×Value)}(d:pc h m l)(b:h'[m]? =h[m]?):pc h' m l:=by
 obtain⟨es,c,H,a⟩:=d;exact⟨es,c,b.trans H,a⟩
theorem pc.lt{h:ai}{m:Nat}{l:List (Int×Value)}(a:pc h m l):m<h.size:=by
 obtain⟨es,c,H,_⟩:=a;exact aF H
theorem pc.frame{S:Nat->Prop}{h h':ai}{m:Nat}{l:List (Int×Value)}(H:pc h m l)(a:Fr S h h')(b: ¬S m):pc h' m l:=
 H.lu (a.2 m H.lt b)
theorem lX.lu{h h':ai}{m:Nat}{f:Int->Option Value}(c:lX h m f)(b:h'[m]? =h[m]?):lX h' m f:=by
 obtain⟨l,H,a⟩:=c;exact⟨l,H.lu b,a⟩
theorem lX.lt{h:ai}{m:Nat}{f:Int->Option Value}(a:lX h m f):m<h.size:=by
 obtain⟨l,H,_⟩:=a;exact H.lt
theorem lX.frame{S:Nat->Prop}{h h':ai}{m:Nat}{f:Int->Option Value}(c:lX h m f)(b:Fr S h h')(d: ¬S m):lX h' m f:=by
 obtain⟨l,H,a⟩:=c;exact⟨l,H.frame b d,a⟩
theorem lX.map{h:ai}{m:Nat}{f:Int->Option Value}(a:lX h m f): ∃es c,h[m]? =some (.map es c):=by
 obtain⟨l,⟨es,c,H,_⟩,_⟩:=a;exact⟨es,c,H⟩
theorem pc.push(h:ai):pc (h.push (.map #[] 0)) h.size []:=⟨#[],0,bT,rfl,bM,bM,bM⟩
theorem lX.push(h:ai):lX (h.push (.map #[] 0)) h.size (λ_=>none):=⟨[],pc.push h,λ_=>rfl⟩
theorem pd{k:Int}: ∀(es:List MapEntry)(l:List (Int×Value))(i:Nat)(d:IntKind),es.map (λe=>(e.key,e.val))=l.map (λe=>(Value.I e.1,e.2))->
  (im l k=none->Instr.findNow (.int d) (.I k) es i=some none)/\
  (∀v,im l k=some v->∃j,Instr.findNow (.int d) (.I k) es i=some (some (i+j,v))/\∃e,es[j]? =some e/\e.key=.I k/\e.val=v)
 | [],l,i,d,h=>by
  have:l= []:=by cases l<;>simp at h⊢
  subst this;exact⟨λ_=>rfl,λv f=>by simp[im]at f⟩
 |e::es,l,i,d,h=>by
  cases l with
  |nil=>simp at h
  |cons x l=>
   simp only[bV,List.cons.injEq,fS]at h;obtain⟨⟨hk,f⟩,p⟩:=h;have I:=pd (k:=k) es l (i+1) d p;have c:Instr.sameNow (.int d) (.I k) e.key=some (k==x.1):=by rw[hk];simp[Instr.sameNow]
   by_cases a:x.1=k
   .refine⟨(λb=>by rw[fZ,af a]at b;cases b),λv H=>⟨0,?_,e,rfl,by rw[hk,a],?_⟩⟩
    .rw[fZ,af a]at H;simp only[bw]at H;simp[Instr.findNow,c,a,f,H]
    .rw[fZ,af a]at H;simp only[bw]at H;rw[f,H]
   .have o:(k==x.1)=false:=by simp[e6 a]
    rw[o]at c;refine⟨λb=> ?_,λv H=> ?_⟩
    .rw[fZ,ag a]at b;simp only[Instr.findNow,c];exact I.1 b
    .rw[fZ,ag a]at H;obtain⟨j,g,E,m,n⟩:=I.2 v H;refine⟨j+1,?_,E,by simpa using m,n⟩;simp only[Instr.findNow,c];rw[g,show i+1+j=i+(j+1) by omega]
section
variable {P : Program}
theorem pf{e:Bool}{n:Nat}{t:TypeId}{d:IntKind}{v:Value}{h:ai}(H:P.underlying t=some (.int d)):rd P (Instr.checkKey e (n+1) t v) h=some ():=by
 unfold Instr.checkKey;rw[bm _ _ _ _ (bu H)];rfl
theorem ky{t:TypeId}{d:IntKind}{k:Int}{es:List MapEntry}{l:List (Int×Value)}{h:ai}(a:P.underlying t=some (.int d))(H:es.map (λe=>(e.key,e.val))=l.map (λe=>(Value.I e.1,e.2)))(hk:im l k=none):rd P (Instr.findKey t (.I k) es) h=some none:=by
 unfold Instr.findKey;rw[bm _ _ _ _ (bu a)];simp only[(pd es l 0 d H).1 hk];rfl
theorem kz{t:TypeId}{d:IntKind}{k:Int}{v:Value}{es:List MapEntry}{l:List (Int×Value)}{h:ai}(c:P.underlying t=some (.int d))(b:es.map (λe=>(e.key,e.val))=l.map (λe=>(Value.I e.1,e.2)))(hk:im l k=some v): ∃j,rd P (Instr.findKey t (.I k) es) h=some (some (j,v))/\∃e,es[j]? =some e/\e.key=.I k/\e.val=v:=by
 obtain⟨j,H,a⟩:=(pd es l 0 d b).2 v hk;refine⟨j,?_,a⟩;unfold Instr.findKey;rw[bm _ _ _ _ (bu c)];simp only[H,bE];rfl
theorem iq{t:TypeId}{i:TypeInfo}{z:Value}{h:ai}(H:P.info? t=some i)(a:i.zero=some z):rd P (zeroValue t) h=some z:=by
 unfold zeroValue;rw[bm _ _ _ _ (gA H),a];rfl
theorem iE{r:Nat}{es:Array MapEntry}{c:Nat}{h:ai}(H:h[r]? =some (.map es c)):rd P (getObj r) h=some (.map es c):=by
 unfold getObj;simp only[rd,H]
structure pg (P:Program) (t:TypeId) (z:Value):Prop where
 ty: ∃k e d,P.underlying t=some (.map k e)/\P.underlying k=some (.int d)/\∃i,P.info? e=some i/\i.zero=some z
theorem pg.of{P:Program}{t:TypeId}{z:Value}(k e:TypeId)(d:IntKind)(a:P.underlying t=some (.map k e))(b:P.underlying k=some (.int d))(h:(P.info? e).bind (·.zero)=some z):pg P t z:=by
 cases H:P.info? e with
 |none=>rw[H]at h;cases h
 |some i=>exact⟨k,e,d,a,b,i,H,by rw[H]at h;exact h⟩
theorem C1{t:TypeId}{z:Value}(T:pg P t z){h:ai}{m:Nat}{l:List (Int×Value)}(g:pc h m l)(k:Int):
  rd P (Instr.lookup t (.map (some m)) (.I k) false) h=some ((im l k).getD z)/\
  rd P (Instr.lookup t (.map (some m)) (.I k) true) h=some (.tuple #[(im l k).getD z,.bool (im l k).isSome]):=by
 obtain⟨kt,e,d,n,hk,i,f,o⟩:=T.ty;obtain⟨es,C,c,a,_⟩:=g;have gen: ∀ok:Bool,rd P (Instr.lookup t (.map (some m)) (.I k) ok) h=some (if ok then .tuple #[(im l k).getD z,.bool (im l k).isSome]else(im l k).getD z):=λok=>by
  unfold Instr.lookup;rw[bm _ _ _ _ (bu n)];simp only;rw[bm _ _ _ _ (iE c)];simp only;rw[bm _ _ _ _ (iJ _),bm _ _ _ _ (pf hk)];cases H:im l k with
  |none=>
   rw[bm _ _ _ _ (ky hk a H)];simp only;rw[bm _ _ _ _ (iq f o)];cases ok<;>rfl
  |some v=>
   obtain⟨j,b,_⟩:=kz (h:=h) hk a H;rw[bm _ _ _ _ b];simp only;cases ok<;>rfl
 exact⟨gen false,gen true⟩
theorem Ag{t:TypeId}{z:Value}(T:pg P t z){h:ai}{m:Nat}{f:Int->Option Value}(b:lX h m f)(k:Int):
  gP P t (.map (some m)) (.I k) false h ((f k).getD z):=λh' c=>by
 obtain⟨l,a,H⟩:=b;rw[<-H k];exact(C1 T (a.lu c) k).1
theorem Bq{t:TypeId}{z:Value}(T:pg P t z){h:ai}{m:Nat}{f:Int->Option Value}(b:lX h m f)(k:Int):
  gP P t (.map (some m)) (.I k) true h (.tuple #[(f k).getD z,.bool (f k).isSome]):=λh' c=>by
 obtain⟨l,a,H⟩:=b;rw[<-H k];exact(C1 T (a.lu c) k).2
theorem bK{α b:Type}{s:Sem α}{g:α->Sem b}{h:ai}{a:α}{K:b->ai->Prop}(H:rd P s h=some a)(hk:aV P (g a) h K):aV P (s>>=g) h K:=
 (dw s g K).2 (Ks s h a H _ hk)
theorem EO{es:List MapEntry}{l:List (Int×Value)}{k:Int}{v:Value}{j:Nat}(q:es.map (λe=>(e.key,e.val))=l.map (λe=>(Value.I e.1,e.2)))(r:(l.map (·.1)).Nodup){e:MapEntry}(d:es[j]? =some e)(hk:e.key=.I k)(f:MapEntry->MapEntry)(o: ∀e:MapEntry,(f e).key=.I k/\(f e).val=v):
  (es.modify j f).map (λe=>(e.key,e.val))=(l.map (λe=>if e.1==k then(k,v)else e)).map (λe=>(Value.I e.1,e.2)):=by
 apply e8
 intro i;have m: ∀i:Nat,(es[i]?).map (λe:MapEntry=>(e.key,e.val))=(l[i]?).map (λe:Int×Value=>(Value.I e.1,e.2)):=λi=>by
  have:=bY (·[i]?) q;simpa using this
 have H:=m j;rw[d]at H;cases a:l[j]? with
 |none=>rw[a]at H;simp at H
 |some x=>
  rw[a]at H;simp only[cO,bw,fS]at H;have n:x.1=k:=by have:=H.1.symm.trans hk;simpa using this
  simp only[aM,List.getElem?_modify,Option.map_map];by_cases c:j=i
  .subst c;simp[d,a,o,n]
  .have h:=m i;cases g:es[i]? with
   |none=>
    rw[g]at h;cases b:l[i]? with
    |none=>simp
    |some y=>rw[b]at h;simp at h
   |some E=>
    rw[g]at h;cases b:l[i]? with
    |none=>rw[b]at h;simp at h
    |some y=>
     rw[b]at h;simp only[cO,bw,fS]at h;have t:y.1≠k:=by
      intro s;apply c
      have p:j<(l.map (·.1)).length:=by simpa using (aC.1 a).1
      refine(dR p r).1 ?_;simp[a,b,n,s]
     simp[c,t,h.1,h.2]
theorem zj{t:TypeId}{z:Value}(T:pg P t z){h:ai}{m:Nat}{l:List (Int×Value)}(R:pc h m l){k:Int}{v:Value}{K:Unit->ai->Prop}(hk: ∀h',pc h' m (CY l k v)->h'.size=h.size->(∀c,c≠m->h'[c]? =h[c]?)->K () h'):aV P (Instr.mapUpdate t (.map (some m)) (.I k) v) h K:=by
 obtain⟨kt,e,d,U,s,_⟩:=T.ty;obtain⟨es,V,r,o,F,x,G⟩:=R;have Q:=aF r;unfold Instr.mapUpdate;refine bK (bu U) ?_;simp only;refine bK (iE r) ?_;simp only;refine bK (pf s) ?_;have fin: ∀(E:Array MapEntry)(C:Nat),E.toList.map (λe=>(e.key,e.val))=(CY l k v).map (λe=>(Value.I e.1,e.2))->(∀e∈E.toList,e.born<C)->(E.toList.map (·.born)).Nodup->
   aV P (setObj m (.map E C)) h K:=λE C q I J=>by
  refine⟨⟨_,r,λc e f N=>by cases N⟩,?_⟩;refine hk _ ⟨E,C,by simp[Q],q,IG l k v F,I,J⟩ bM (λc M=> ?_);rw[ct,ag (e6 M)]
 cases n:im l k with
 |none=>
  refine bK (ky s o n) ?_;simp only;refine fin _ _ ?_ ?_ ?_
  .unfold CY;rw[n];simp[o]
  .intro p H;simp only[Array.toList_push,bJ,bH]at H;rcases H with H|rfl
   .exact Nat.lt_succ_of_lt (x _ H)
   .exact Nat.lt_succ_self _
  .simp only[Array.toList_push,bf,bV,List.map_nil];rw[dX];refine⟨G,bM,?_⟩;intro a L b A;simp at A;subst A;obtain⟨p,H,rfl⟩:=bg.1 L;exact Nat.ne_of_lt (x _ H)
 |some u=>
  obtain⟨j,q,p,H,D,_⟩:=kz (h:=h) s o n;refine bK q ?_;simp only;have O:es[j]? =some p:=by simpa using H
  have S:rd P (Instr.keyThatStays (((es[j]?).map (·.key)).getD (.I k)) (.I k)) h=some (.I k):=by
   rw[O];simp only[cO,Option.getD_some,D];unfold Instr.keyThatStays;have:Instr.sameBits 10000 (.I k) (.I k)=true:=by unfold Instr.sameBits;simp
   rw[af this];rfl
  refine bK S ?_;refine fin _ _ ?_ ?_ ?_
  .unfold CY;rw[n];simp only[Option.isSome_some,bh];rw[Array.toList_modify];exact EO o F H D _ (λe=>⟨rfl,rfl⟩)
  .intro e2 B;rw[Array.toList_modify]at B;obtain⟨i,g⟩:=bx B;rw[List.getElem?_modify]at g;cases w:es.toList[i]? with
   |none=>rw[w]at g;simp at g
   |some y=>
    rw[w]at g;have:=x y (bj w);simp only[Option.map_eq_map,cO,bw]at g;subst g;split<;>exact this
  .rw[Array.toList_modify];have:(es.toList.modify j λe=> { e with key:=Value.I k,val:=v }).map (·.born)=es.toList.map (·.born):=by
    apply e8
    intro i;simp only[aM,List.getElem?_modify];cases es.toList[i]? with
    |none=>rfl
    |some y=>simp only[Option.map_eq_map,cO];split<;>rfl
   rw[this];exact G
theorem lA{t:TypeId}{z:Value}(T:pg P t z){h:ai}{m:Nat}{f:Int->Option Value}(g:lX h m f){k:Int}{v:Value}{K:Unit->ai->Prop}(hk: ∀h',lX h' m (λx=>if x=k then some v else f x)->h'.size=h.size->(∀c,c≠m->h'[c]? =h[c]?)->K () h'):aV P (Instr.mapUpdate t (.map (some m)) (.I k) v) h K:=by
 obtain⟨l,e,d⟩:=g;refine zj T e λh' H a b=>hk h' ⟨_,H,λx=> ?_⟩ a b
 rw[IE,d]
theorem erase_filter{es:List MapEntry}{l:List (Int×Value)}{k:Int}(f:es.map (λe=>(e.key,e.val))=l.map (λe=>(Value.I e.1,e.2)))(c:(l.map (·.1)).Nodup):
  ∀{j:Nat}{e:MapEntry},es[j]? =some e->e.key=.I k->(es.eraseIdx j).map (λe=>(e.key,e.val))=(ue l k).map (λe=>(Value.I e.1,e.2)):=by
 induction es generalizing l with
 |nil=>intro j e b;simp at b
 |cons x es I=>
  intro j e b hk;cases l with
  |nil=>simp at f
  |cons y l=>
   simp only[bV,List.cons.injEq,fS]at f;obtain⟨⟨i,o⟩,d⟩:=f;simp only[bV,en]at c;obtain⟨n,c⟩:=c;cases j with
   |zero=>
    simp only[dt,bw]at b;subst b;have H:y.1=k:=by have:=i.symm.trans hk;simpa using this
    have:ue (y::l) k=l:=by
     unfold ue;rw[bU,ag (by simp[H])];rw[cb];intro a p;have:a.1≠k:=λe=>n (by rw[H,<-e];exact br p)
     simp[this]
    rw[this];simpa using d
   |succ j=>
    have m:es[j]? =some e:=by simpa using b
    have H:y.1≠k:=by
     intro H;apply n
     have h:=bY (·[j]?) d;simp only[aM,m,cO]at h;cases g:l[j]? with
     |none=>rw[g]at h;simp at h
     |some z=>
      rw[g]at h;simp only[cO,bw,fS]at h;have q:z.1=k:=by have:=h.1.symm.trans hk;simpa using this
      rw[H,<-q];exact br (bj g)
    have:ue (y::l) k=y::ue l k:=by
     unfold ue;rw[bU,af (by simp[H])]
    rw[this];simp only[List.eraseIdx_cons_succ,bV,i,o];rw[I d c m hk]
theorem EP{t L ty:TypeId}{z:Value}(T:pg P t z){h:ai}{m:Nat}{l:List (Int×Value)}(b:pc h m l){k:Int}{K:fx}(hk: ∀h',pc h' m (ue l k)->h'.size=h.size->(∀c,c≠m->h'[c]? =h[c]?)->K (.tuple #[]) h'):aV P (Builtin.delete_ #[t,L] ty #[.map (some m),.I k]) h K:=by
 obtain⟨kt,e,d,J,p,_⟩:=T.ty;obtain⟨es,C,n,H,q,s,r⟩:=b;have I:=aF n;unfold Builtin.delete_;refine bK (bu J) ?_;show aV P (do
   let __x<-getObj m
   match __x with
    |Obj.map es C=>do
     Instr.checkKey es.isEmpty 10000 kt (Value.int IntKind.i64 k)
     let __do_lift<-Instr.findKey kt (Value.int IntKind.i64 k) es.toList
     match __do_lift with
      |some (i,_)=>do
       setObj m (Obj.map (es.eraseIdxIfInBounds i) C)
       pure (Value.tuple #[])
      |none=>do
       setObj m (Obj.map es C)
       pure (Value.tuple #[])
    |_=>do
     stuck "delete: map expected"
     pure (Value.tuple #[])) h K
 refine bK (iE n) ?_;simp only;refine bK (pf p) ?_;have fin: ∀(E:Array MapEntry),E.toList.map (λe=>(e.key,e.val))=(ue l k).map (λe=>(Value.I e.1,e.2))->(∀e∈E.toList,e.born<C)->(E.toList.map (·.born)).Nodup->
   aV P (do setObj m (.map E C);pure (Value.tuple #[])) h K:=λE g w x=>by
  rw[dw];refine⟨⟨_,n,λc e f B=>by cases B⟩,?_⟩;refine hk _ ⟨E,C,by simp[I],g,II l k q,w,x⟩ bM (λc A=> ?_);rw[ct,ag (e6 A)]
 cases o:im l k with
 |none=>
  refine bK (ky p H o) ?_;refine fin es ?_ s r;have:ue l k=l:=by
   unfold ue;rw[cb];intro a y;have:a.1≠k:=λe=>by
    have b:k∈l.map (·.1):=e▸br y;rw[<-CZ,o]at b;cases b
   simp[this]
  rw[this];exact H
 |some u=>
  obtain⟨j,g,M,D,G,_⟩:=kz (h:=h) p H o;refine bK g ?_;have v:List.Sublist (es.eraseIdxIfInBounds j).toList es.toList:=by
   rw[Array.toList_eraseIdxIfInBounds];exact List.eraseIdx_sublist _ _
  refine fin _ ?_ ?_ ?_
  .rw[Array.toList_eraseIdxIfInBounds];exact erase_filter H q D G
  .intro e2 F;exact s e2 (v.subset F)
  .exact(v.map _).nodup r
theorem vE{t i ty:TypeId}{z:Value}(T:pg P t z){h:ai}{m:Nat}{f:Int->Option Value}(g:lX h m f){k:Int}{K:fx}(hk: ∀h',lX h' m (λx=>if x=k then none else f x)->h'.size=h.size->(∀c,c≠m->h'[c]? =h[c]?)->K (.tuple #[]) h'):aV P (Builtin.delete_ #[t,i] ty #[.map (some m),.I k]) h K:=by
 obtain⟨l,e,d⟩:=g;refine EP T e λh' H a b=>hk h' ⟨_,H,λx=> ?_⟩ a b
 rw[IF,d]
end
end Go.Den
namespace Go.Den
theorem cz{h:ai}{b i:Nat}{c:Array Value}{t:TypeId}{f:Nat×Nat}{v:Value}(H:h[b]? =some (.cells c t f))(a:c[i]? =some v):aB h (AA b i)=some v:=by
 rw[jX H,a]
theorem bB{h:ai}{b i:Nat}{c:Array Value}{t:TypeId}{v:Value}{K:ai->Prop}(H:h[b]? =some (.cells c t (0,0)))(a:i<c.size)(hk: ∀h',h'[b]? =some (.cells (c.setIfInBounds i v) t (0,0))->h'.size=h.size->(∀x,x≠b->h'[x]? =h[x]?)->K h'):aE h (AA b i) v K:=by
 refine⟨?_,me H,?_⟩
 .rw[jX H];simp[a]
 .rintro _ rfl;exact hk _ (ud H) Af (λx d=>rJ d)
theorem Fr.of_eq{S:Nat->Prop}{h h':ai}(b:h'.size=h.size)(a: ∀c,¬S c->h'[c]? =h[c]?):Fr S h h':=⟨ae,λc _ H=>a c H⟩
theorem bz{n:Int}(h: -9223372036854775808<=n)(H:n<=9223372036854775807):IntKind.wrap .i64 n=n:=IntWalk.i64_in n ⟨h,H⟩
theorem wrap_u64{n:Int}(h:0<=n)(H:n<=18446744073709551615):IntKind.wrap .u64 n=n:=IntWalk.u64_in n ⟨h,H⟩
theorem wrap_u8{n:Int}(h:0<=n)(H:n<=255):IntKind.wrap .u8 n=n:=IntWalk.u8_in n ⟨h,H⟩
theorem Fr.kp{h h':ai}{l:List (cj)}(f:Fr (λ_=>False) h h'):Kp h h' l:=λ_ _ x _ H=>f.2 x.block H id
theorem Fr.Tt{S:Nat->Prop}{h h':ai}{l:List (cj)}(f:Fr S h h')(H: ∀p∈l,∀x,p=some x->¬S x.block):Kp h h' l:=λp a x e b=>f.2 x.block b (H p a x e)
theorem Fr.no{h H a:ai}{S:Nat->Prop}(b:Fr (λ_=>False) h H)(c:Fr S H a):Fr S h a:=b.trans c (λ_ _=>False.elim) (λ_ _=>id)
theorem Fr.on{h H a:ai}{S:Nat->Prop}(b:Fr S h H)(c:Fr (λ_=>False) H a):Fr S h a:=b.trans c (λ_ _=>id) (λ_ _=>False.elim)
theorem Fr.tt{h H a:ai}{S:Nat->Prop}(b:Fr S h H)(c:Fr S H a):Fr S h a:=b.trans c (λ_ _=>id) (λ_ _=>id)
theorem Fr.step{S:Nat->Prop}{h a b:ai}(e:Fr (λ_=>False) h a)(g:Fr S a b)(f: ∀c,c<h.size->¬S c):Fr (λ_=>False) h b:=
 e.trans g (λ_ _ H=>H) (λc d H=>f c d H)
end Go.Den
namespace Go.Den
section
variable {h:ai}
abbrev sw(h:ai)(a:Addr)(K:Int→Prop):Prop:= ∃t,aB h a=some (.int .u64 t)∧K t
abbrev xq(h:ai)(a:Addr)(K:Int→Prop):Prop:= ∃t,aB h a=some (.int .i64 t)∧K t
abbrev GO(h:ai)(a:Addr)(K:Int→Prop):Prop:= ∃t,aB h a=some (.int .u8 t)∧K t
abbrev Vt(h:ai)(a:Addr)(K:Bool→Prop):Prop:= ∃t,aB h a=some (.bool t)∧K t
abbrev y8(h:ai)(a:Addr)(K:Option Addr→Prop):Prop:= ∃t,aB h a=some (.pointer t)∧K t
abbrev WH(h:ai)(a:Addr)(K:ByteArray→Prop):Prop:= ∃t,aB h a=some (.string t)∧K t
abbrev zp(h:ai)(a:Addr)(K:Option Addr→Nat→Nat→Prop):Prop:= ∃p l c,aB h a=some (.slice p l c)∧K p l c
abbrev Hu(h:ai)(b i:Nat)(K:Int→Prop):Prop:= ∃t,aB h ⟨b,i,none⟩=some (.int .u64 t)∧K t
abbrev Hi(h:ai)(b i:Nat)(K:Int→Prop):Prop:= ∃t,aB h ⟨b,i,none⟩=some (.int .i64 t)∧K t
abbrev Hy(h:ai)(b i:Nat)(K:Int→Prop):Prop:= ∃t,aB h ⟨b,i,none⟩=some (.int .u8 t)∧K t
abbrev Hb(h:ai)(b i:Nat)(K:Bool→Prop):Prop:= ∃t,aB h ⟨b,i,none⟩=some (.bool t)∧K t
abbrev Hp(h:ai)(b i:Nat)(K:Option Addr→Prop):Prop:= ∃t,aB h ⟨b,i,none⟩=some (.pointer t)∧K t
abbrev Hs(h:ai)(b i:Nat)(K:ByteArray→Prop):Prop:= ∃t,aB h ⟨b,i,none⟩=some (.string t)∧K t
abbrev Hl(h:ai)(b i:Nat)(K:Option Addr→Nat→Nat→Prop):Prop:= ∃p l c,aB h ⟨b,i,none⟩=some (.slice p l c)∧K p l c
abbrev Vb(v:Value)(K:Bool→Prop):Prop:= ∃t,v=.bool t∧K t
abbrev Vi(v:Value)(K:Int→Prop):Prop:= ∃t,v=.int .i64 t∧K t
abbrev Vu(v:Value)(K:Int→Prop):Prop:= ∃t,v=.int .u64 t∧K t
abbrev Vp(v:Value)(K:Option Addr→Prop):Prop:= ∃t,v=.pointer t∧K t
abbrev Vl(v:Value)(K:Option Addr→Nat→Nat→Prop):Prop:= ∃p l c,v=.slice p l c∧K p l c
abbrev Bd(i:Int)(n:Nat):Prop:=(0:Int)≤i∧i<((n:Nat):Int)
abbrev Cc(h:ai)(b i:Nat)(v:Value):Prop:=aB h ⟨b,i,none⟩=some v
abbrev No:Nat→Prop:=λ_=>False
abbrev lf:sf:=.leaf
abbrev ll:sf:=.seq .leaf .leaf
abbrev lq(a:sf):sf:=.seq .leaf a
abbrev sq(a b:sf):sf:=.seq a b
abbrev cq(a b:sf):sf:=.cond a b
abbrev bq(a:sf):sf:=.block a
abbrev pK(n:Nat):sf:=.jk (fE n 0 .done)
abbrev pN(n:Nat):sf:=.gS (fE n 0 .done)
theorem aR{P:Program}{f:FuncId}{F:Func}{args:List Value}{R:Value→ai→Prop}{A:Prop}(a:sf)(b:P.funcs[f]? =some F)(d:A)(H:F.body.isSome=true:=by rfl)(c:Nat.ble args.length F.ntmps=true:=by rfl)(e:A=den P F.ntmps a none (rH F) (Qh P F.results R) (lj args) h:=by kernel_rfl):ar P f args.toArray h R:=xj a b H c (Eq.mp e d)
theorem aw{b i:Nat}{c:Array Value}{t:TypeId}{f:Nat×Nat}(H:h[b]? =some (.cells c t f)):aB h ⟨b,i,none⟩=c[i]? :=jX H
abbrev gW(h:ai)(R:Value→ai→Prop)(v:Value):Prop:= ∀h',Fr (λ_=>False) h h'→R v h'
abbrev mf(x:Int):BitVec (IntKind.bits .u64):=BitVec.ofInt (IntKind.bits .u64) x
abbrev oR(x:Int):BitVec (IntKind.bits .u8):=BitVec.ofInt (IntKind.bits .u8) x

end
def Row(h:ai)(p:cj)(cs:List Value):Prop:=cs= []\/∃a,p=some a/\dF a cs 0 h
theorem Row.nil{h:ai}{p:cj}:Row h p []:=.inl rfl
theorem jJ{h:ai}{a:Addr}: ∀{cs:List Value}{i:Nat},dF a cs i h↔ ∀j v,cs[j]? =some v->aB h (a.add (i+j))=some v
 | [],i=>by simp[dF]
 |c::cs,i=>by
  simp only[dF];rw[jJ (cs:=cs)];constructor
  .rintro⟨d,e⟩ j v H;cases j with
   |zero=>simp only[dt,bw]at H;subst H;exact d
   |succ j=>have:=e j v (cD H);rwa[show i+1+j=i+(j+1) by omega]at this
  .intro b;refine⟨b 0 c rfl,λj v H=> ?_⟩;have:=b (j+1) v (cD H);rwa[show i+(j+1)=i+1+j by omega]at this
theorem gF{h:ai}{b off:Nat}{c:Array Value}{t:TypeId}{f:Nat×Nat}{cs:List Value}(H:h[b]? =some (.cells c t f))(a: ∀j v,cs[j]? =some v->c[off+j]? =some v):dF (AA b off) cs 0 h:=by
 rw[jJ];intro j v d;rw[bE,gl,jX H];exact a j v d
theorem kf{S:Nat->Prop}{h h':ai}(H:Fr S h h'){a:Addr}(c: ¬S a.block): ∀{cs:List Value}{i:Nat},dF a cs i h->dF a cs i h'
 | [],_,_=>trivial
 |_::_,i,b=>⟨H.cell b.1 (by unfold Addr.add;split<;>exact c),kf H c b.2⟩
theorem Row.frame{S:Nat->Prop}{h h':ai}(H:Fr S h h'){p:cj}{cs:List Value}(d:Row h p cs)(c: ∀a,p=some a->¬S a.block):Row h' p cs:=by
 rcases d with rfl|⟨a,rfl,b⟩
 .exact .inl rfl
 .exact .inr ⟨a,rfl,kf H (c a rfl) b⟩
theorem Row.cell{h:ai}{a:Addr}{cs:List Value}(c:Row h (some a) cs){j:Nat}{v:Value}(H:cs[j]? =some v):aB h (a.add j)=some v:=by
 rcases c with rfl|⟨A,e,b⟩
 .simp at H
 .cases e;have:=jJ.1 b j v H;rwa[bE]at this
theorem Row.some{h:ai}{p:cj}{cs:List Value}(b:Row h p cs)(H:cs≠ []): ∃a,p=some a:=by
 rcases b with rfl|⟨a,e,_⟩
 .exact absurd rfl H
 .exact⟨a,e⟩
section
variable {P : Program}
theorem j4{h:ai}{q:cj}{n cq sz:Nat}{ds:List Value}(b:Row h q ds)(c:ds.length=n*sz):rd P (Builtin.firstCells sz n (.slice q n cq)) h=some ds.toArray:=by
 cases q with
 |none=>
  have:ds= []:=by
   rcases b with rfl|⟨a,e,_⟩
   .rfl
   .cases e
  subst this;rfl
 |some a=>
  show rd P (loadCells a (n*sz)) h=_;have H:dF a ds 0 h:=by
   rcases b with rfl|⟨A,e,H⟩
   .trivial
   .cases e;exact H
  unfold loadCells;rw[<-c,hY ds 0 #[] h H];simp
theorem Ah{need:Nat}: ∀(r c:Nat),c<2*need->256<=c->Builtin.growBy need r c<=2*need
 |0,c,h,_=>by unfold Builtin.growBy;omega
 |r+1,c,h,a=>by
  unfold Builtin.growBy;split
  .omega
  .rename_i b;by_cases H:c+(c+768)/4<2*need
   .exact Ah r _ H ae
   .have:c+(c+768)/4<=2*need:=ae
    cases r with
    |zero=>unfold Builtin.growBy;exact this
    |succ r=>unfold Builtin.growBy;rw[fO];exact this
theorem nextslicecap_le{need cap:Nat}(h:cap<need):Builtin.nextslicecap need cap<=2*need:=by
 unfold Builtin.nextslicecap;split
 .omega
 .split
  .omega
  .exact Ah 4 cap ae ae
inductive fy (h:ai) (p:cj) (len cap sz:Nat) (cs:List Value):Prop
 |nil (hp:p=none) (hl:len=0) (hc:cap=0) (Vv:cs= [])
 |row (b off:Nat) (c:Array Value) (t:TypeId) (hp:p=some ⟨b,off,none⟩) (hb:h[b]? =some (.cells c t (0,0))) (hl:len<=cap) (hc:off+cap*sz<=c.size) (hn:cs.length=len*sz) (Vv: ∀j v,cs[j]? =some v->c[off+j]? =some v)
def aP(p:cj)(c:Nat):Prop:= ∃a,p=some a/\a.block=c
theorem fy.length{h:ai}{p:cj}{len cap sz:Nat}{cs:List Value}(o:fy h p len cap sz cs):cs.length=len*sz:=by
 cases o with
 |nil _ a _ H=>subst a H;simp
 |row b off c t _ _ _ _ d _=>exact d
theorem fy.iT{h:ai}{p:cj}{len cap sz:Nat}{cs:List Value}(o:fy h p len cap sz cs):Row h p cs:=by
 cases o with
 |nil _ _ _ H=>exact .inl H
 |row b off c t d a _ _ _ H=>exact .inr ⟨_,d,gF a H⟩
theorem fy.frame{S:Nat->Prop}{h h':ai}{p:cj}{len cap sz:Nat}{cs:List Value}(o:fy h p len cap sz cs)(g:Fr S h h')(j: ∀c,aP p c->¬S c):fy h' p len cap sz cs:=by
 cases o with
 |nil H e a d=>exact .nil H e a d
 |row b off c t H f e a i d=>exact .row b off c t H (g.get f (j b ⟨_,H,rfl⟩)) e a i d
theorem fy.eg{h:ai}{p:cj}{len cap sz:Nat}{cs:List Value}(o:fy h p len cap sz cs){c:Nat}(f:aP p c):c<h.size:=by
 obtain⟨a,e,rfl⟩:=f;cases o with
 |nil H _ _ _=>rw[H]at e;cases e
 |row b off c t H d _ _ _ _=>rw[H]at e;cases e;exact aF d
theorem fy.cells{h:ai}{p:cj}{len cap sz:Nat}{cs:List Value}(o:fy h p len cap sz cs){b:Nat}(H:aP p b): ∃c t,h[b]? =some (.cells c t (0,0)):=by
 obtain⟨a,e,rfl⟩:=H;cases o with
 |nil d _ _ _=>rw[d]at e;cases e
 |row b off c t d H _ _ _ _=>rw[d]at e;cases e;exact⟨c,t,H⟩
theorem fy.le{h:ai}{p:cj}{len cap sz:Nat}{cs:List Value}(o:fy h p len cap sz cs):len<=cap:=by
 cases o with
 |nil _ H a _=>omega
 |row b off c t _ _ H _ _ _=>exact H
theorem fy.some{h:ai}{p:cj}{len cap sz:Nat}{cs:List Value}(o:fy h p len cap sz cs)(a:0<cs.length): ∃b off,p=some (AA b off):=by
 cases o with
 |nil _ _ _ H=>subst H;simp at a
 |row b off c t d _ _ _ _ _=>exact⟨b,off,d⟩
theorem fy.cell{h:ai}{a:Addr}{len cap sz:Nat}{cs:List Value}(o:fy h (.some a) len cap sz cs){j:Nat}{v:Value}(H:cs[j]? =.some v):aB h (a.add j)=.some v:=o.iT.cell H
theorem fy.store{h:ai}{a:Addr}{len cap sz:Nat}{cs:List Value}{j:Nat}{v:Value}{K:ai->Prop}(o:fy h (.some a) len cap sz cs)(q:j<cs.length)(hk: ∀h',fy h' (.some a) len cap sz (cs.set j v)->h'.size=h.size->(∀x,¬aP (.some a) x->h'[x]? =h[x]?)->K h'):aE h (a.add j) v K:=by
 cases o with
 |nil d _ _ _=>cases d
 |row b off c t d m f n r p=>
  cases d;rw[gl];have u:len*sz<=cap*sz:=cB _ f;refine bB m ae λh' g k l=>hk h' (.row b off _ t rfl g f (cD n) (by simpa using r) ?_) k (λx s=>l x (λe=>s ⟨_,rfl,e.symm⟩))
  intro i w H;rw[di]at H;rw[ct];by_cases e:j=i
  .subst e;rw[af rfl,af q]at H;rw[af rfl,fO];exact H
  .rw[ag e]at H;rw[cW];exact p i w H
theorem fy.sub{h:ai}{p:cj}{len cap sz:Nat}{cs:List Value}(o:fy h p len cap sz cs){l u:Nat}(m:l<=u)(n:u<=len):fy h (cE p cap l sz) (u - l) (cap - l) sz ((cs.take (u*sz)).drop (l*sz)):=by
 cases o with
 |nil g d k a=>
  subst g d k a;refine .nil ?_ ae ae bM;unfold cE;split<;>rfl
 |row b off c t g i d k w a=>
  subst g;have M:u*sz<=len*sz:=cB _ n;have x:l*sz<=u*sz:=cB _ m;have y:len*sz<=cap*sz:=cB _ d;have q: ∀j v,((cs.take (u*sz)).drop (l*sz))[j]? =.some v->c[off+l*sz+j]? =.some v:=λj v H=>by
   rw[ft,cI]at H;split at H
   .have:=a _ v H;rwa[<-Nat.add_assoc]at this
   .cases H
  have f:((cs.take (u*sz)).drop (l*sz)).length=(u - l)*sz:=by
   rw[bN,bF,Nat.sub_mul];omega
  have s:(cap - l)*sz=cap*sz - l*sz:=Nat.sub_mul _ _ _;unfold cE;split
  .rename_i e;have e1:u - l=0:=ae
   refine .row b off c t rfl i ae ae f (λj v H=> ?_);have r:((cs.take (u*sz)).drop (l*sz)).length=0:=by rw[f,e1];simp
   rw[List.eq_nil_of_length_eq_zero r]at H;cases H
  .show fy h (.some (((AA b off):Addr).add (l*sz))) _ _ _ _;rw[gl];exact .row b (off+l*sz) c t rfl i ae ae f q
theorem kU{p:cj}{cap l sz c:Nat}(h:aP (cE p cap l sz) c):aP p c:=by
 obtain⟨a,e,rfl⟩:=h;unfold cE at e;split at e
 .exact⟨a,e,rfl⟩
 .cases p with
  |none=>cases e
  |some b=>cases e;exact⟨b,rfl,by unfold Addr.add;split<;>rfl⟩
theorem rK{c:Array Value}{off:Nat}: ∀(ds:List Value)(i:Nat)(h:ai)(b:Nat)(t:TypeId)(K:Unit->ai->Prop),(∀v∈ds,fH v=true)->h[b]? =some (.cells c t (0,0))->off+i+ds.length<=c.size->
  (∀h' C,h'[b]? =some (.cells C t (0,0))->C.size=c.size->(∀j,j<off+i\/off+i+ds.length<=j->C[j]? =c[j]?)->(∀j v,ds[j]? =some v->C[off+i+j]? =some v)->h'.size=h.size->(∀x,x≠b->h'[x]? =h[x]?)->K () h')->
  aV P (storeCells (AA b off) ds i) h K
 | [],i,h,b,t,K,_,a,_,hk=>by
  refine hk h c a rfl (λ_ _=>rfl) (λj v H=>by simp at H) rfl (λ_ _=>rfl)
 |v::ds,i,h,b,t,K,f,a,l,hk=>by
  simp only[storeCells];rw[dw];simp only[ba]at l;have d:off+i<c.size:=ae
  refine⟨f v cZ,?_,?_,?_⟩
  .rw[gl,jX a];simp[d]
  .rw[gl];exact me a
  .rw[gl];show aV P (storeCells (AA b off) ds (i+1)) (mN h (AA b (off+i)) v) K;refine rK (c:=c.setIfInBounds (off+i) v) ds (i+1) _ b t K (λu q=>f u (cu _ q)) (ud a) (by simp;omega) ?_;intro h' C k o e m p n;refine hk h' C k (by rw[o];simp) (λj H=> ?_) (λj u H=> ?_) (by rw[p,Af]) (λx g=>by rw[n x g,rJ g])
   .simp only[ba]at H;rw[e j ae,ct,cW]
   .cases j with
    |zero=>
     simp only[dt,bw]at H;subst H;rw[e (off+i+0) ae];simp[d]
    |succ j=>
     have:=m j u (cD H);rwa[show off+(i+1)+j=off+i+(j+1) by omega]at this
theorem Br{D X ty elem eT:TypeId}{i:TypeInfo}{z:Value}{h:ai}{p q:cj}{len cap n cq:Nat}{cs ds:List Value}{K:fx}(hs:P.underlying D=some (.slice elem))(A:P.underlying X=some (.slice eT))(f:P.info? elem=some i)(hz:i.zero=some z)(y:z.cells.size=i.size)(own:fy h p len cap i.size cs)(J:Row h q ds)(hd:ds.length=n*i.size)(Y: ∀v∈ds,fH v=true)(hb:(len+n)*i.bytes<=70368744177664)(c':len+n<=9223372036854775807)(hk: ∀B C h',fy h' B (len+n) C i.size (cs++ds)->fy h' p len cap i.size cs->Fr (aP p) h h'->(∀c,aP B c->aP p c\/h.size<=c)->K (.slice B (len+n) C) h'):
  aV P (Builtin.append_ #[D,X] ty #[.slice p len cap,.slice q n cq]) h K:=by
 unfold Builtin.append_;refine bK (s:=underlying D) (bu hs) ?_;refine bK (s:=sizeOf elem) (gD f) ?_;refine bK (s:=underlying X) (bu A) ?_;refine bK (s:=(pure false:Sem Bool)) (a:=false) rfl ?_;refine bK (s:=Builtin.lenOf (.slice q n cq)) (a:=n) rfl ?_;show aV P (if len+n<=cap then _ else _) h K;by_cases g:len+n<=cap
 .rw[af g];refine bK (s:=Builtin.firstCells i.size n (.slice q n cq)) (a:=ds.toArray) (j4 J hd) ?_;cases own with
  |nil w r d k=>
   subst w r d k;have V:n=0:=ae
   subst V;have N:ds= []:=by simpa using hd
   subst N;exact hk none 0 h (.nil rfl rfl rfl rfl) (.nil rfl rfl rfl rfl) (Fr.refl _ _) (λc ⟨a,e,_⟩=>by cases e)
  |row b off c t w M r d u k=>
   subst w;show aV P (storeCells (((AA b off):Addr).add (len*i.size)) ds>>=λ_=>pure (.slice (some (AA b off)) (len+n) cap)) h K;rw[gl];have T:(len+n)*i.size<=cap*i.size:=cB _ g;rw[dL]at T;rw[dw];refine rK (c:=c) (off:=off+len*i.size) ds 0 h b t _ Y M ae ?_;intro h' E F e' I U y Z;show K (.slice (some (AA b off)) (len+n) cap) h';refine hk _ cap h' (.row b off E t rfl F g ae (by rw[aA,u,hd,dL]) ?_) (.row b off E t rfl F r ae u ?_) (Fr.of_eq y λx A=>Z x (λe=>A ⟨_,rfl,e.symm⟩)) (λc d=> .inl d)
   .intro j v H;by_cases l:j<cs.length
    .rw[cN l]at H;rw[I _ ae];exact k j v H
    .rw[cH ae]at H;have:=U _ v H;rw[u]at this;rwa[show off+len*i.size+0+(j - len*i.size)=off+j by omega]at this
   .intro j v H;have l:j<cs.length:=(aC.1 H).1;rw[I _ ae];exact k j v H
 .rw[ag g];have Q:=nextslicecap_le (need:=len+n) (cap:=cap) ae;refine bK (s:=typeInfo elem) (gA f) ?_;have R: ¬(((len+n:Nat):Int)>IntKind.max .i64/\(False\/i.bytes=0)):=λd=>by
   have:IntKind.max .i64=9223372036854775807:=rfl;rw[this]at d;omega
  show aV P (if(((len+n:Nat):Int)>IntKind.max .i64/\(false=true\/i.bytes=0))then _ else _) h K;rw[ag (cD R)];refine bK (s:=typeInfo elem) (gA f) ?_;have W: ¬(Builtin.nextslicecap (len+n) cap*i.bytes>2 ^ 48):=by
   have o:Builtin.nextslicecap (len+n) cap*i.bytes<=2*(len+n)*i.bytes:=cB _ Q;rw[Nat.mul_assoc]at o;omega
  show aV P (if Builtin.nextslicecap (len+n) cap*i.bytes>2 ^ 48 then _ else _) h K;rw[ag W];show aV P (choose (.appendCap (len+n) cap elem)>>=_) h K;rw[dw];unfold choose;simp only[aV,Question.forced,au,aN,Question.cut];intro tq;refine bK (s:=typeInfo elem) (gA f) ?_;rw[dw];have a': ∀(m:Nat)(K':Unit->ai->Prop),K' () h->aV P (askRoom m) h K':=λm K' G=>by
   unfold askRoom;split
   .exact G
   .exact G
  refine a' _ _ ?_;refine bK (s:=Builtin.firstCells i.size len (.slice p len cap)) (a:=cs.toArray) (j4 own.iT own.length) ?_;refine bK (s:=Builtin.firstCells i.size n (.slice q n cq)) (a:=ds.toArray) (j4 J hd) ?_;refine bK (s:=zeroValue elem) (iq f hz) ?_;generalize d':len+n+tq%(2 ^ 63 - (len+n))=C;have O:len+n<=C:=ae
  show K (.slice (some (AA h.size 0)) (len+n) C) (h.push (.cells (cs.toArray++ds.toArray++Builtin.zeroCells z.cells (C - (len+n))) elem));have b':(cs.toArray++ds.toArray++Builtin.zeroCells z.cells (C - (len+n))).size=C*i.size:=by
   have o:(Builtin.zeroCells z.cells (C - (len+n))).size=(C - (len+n))*i.size:=by simp[Builtin.zeroCells,y]
   have L:=own.length;rw[Array.size_append,Array.size_append,o];simp only[List.size_toArray];rw[L,hd,<-dL,<-dL];congr 1;omega
  refine hk _ C _ (.row h.size 0 _ elem rfl bT O (by rw[b'];omega) (by rw[aA,own.length,hd,dL]) ?_) (own.frame (Fr.push (S:=λ_=>False) _ _) (λ_ _=>id)) (Fr.push _ _) ?_
  .intro j v H;rw[bE];have l:j<(cs++ds).length:=(aC.1 H).1;rw[dv (cD l)];simpa using H
  .rintro c ⟨a,e,rfl⟩;cases e;exact .inr (aZ _)
structure nP (P:Program) (sT elem:TypeId) (sz bytes:Nat) (z:Value):Prop where
 u:P.underlying sT=some (.slice elem)
 info:(P.info? elem).map (λi=>(i.size,i.bytes,i.zero))=some (sz,bytes,some z)
 zs:z.cells.size=sz
theorem nP.i{s elem:TypeId}{sz bytes:Nat}{z:Value}(T:nP P s elem sz bytes z): ∃i,P.info? elem=some i/\i.size=sz/\i.bytes=bytes/\i.zero=some z:=by
 have:=T.info;cases h:P.info? elem with
 |none=>rw[h]at this;cases this
 |some i=>
  rw[h]at this;simp only[cO,bw,fS]at this;exact⟨i,rfl,this⟩
theorem dO{s x ty elem eT:TypeId}{sz bytes:Nat}{z:Value}{h:ai}{p q:cj}{len cap n cq:Nat}{cs ds:List Value}{K:fx}(T:nP P s elem sz bytes z)(g:P.underlying x=some (.slice eT))(own:fy h p len cap sz cs)(f:Row h q ds)(hd:ds.length=n*sz)(e: ∀v∈ds,fH v=true)(H:(len+n)*bytes<=70368744177664)(b:len+n<=9223372036854775807)(hk: ∀a C h',fy h' a (len+n) C sz (cs++ds)->fy h' p len cap sz cs->Fr (aP p) h h'->(∀c,aP a c->aP p c\/h.size<=c)->K (.slice a (len+n) C) h'):
  aV P (Builtin.append_ #[s,x] ty #[.slice p len cap,.slice q n cq]) h K:=by
 obtain⟨i,d,rfl,rfl,j⟩:=T.i;exact Br T.u g d j T.zs own f hd e H b hk
end
section
open Go.RowKit
def C2(P:Program)(h:ai):Nat->TypeId->List Value->Prop
 |0,_,_=>False
 |n+1,t,cs=>
  match P.underlying t with
  |some .bool=> ∃b,cs= [.bool b]
  |some (.int k)=> ∃a,cs= [.int k a]/\(Lit.int k a).wf=true
  |some .string=> ∃s,cs= [.string s]/\s.size<=maxLen
  |some (.pointer e)=>cs= [.pointer none]\/∃a c,cs= [.pointer (some a)]/\c.length=P.cellsOf e/\dF a c 0 h/\C2 P h n e c
  |some (.slice e)=>cs= [.slice none 0 0]\/∃a len cap,cs= [.slice (some a) len cap]/\len<=cap/\cap<=maxLen/\∀i,i<len->∃c,c.length=P.cellsOf e/\dF (a.add (i*P.cellsOf e)) c 0 h/\C2 P h n e c
  |some (.struct fs)=>cs.length=P.cellsOf t/\∀f∈fs.toList,C2 P h n f.type ((cs.drop f.offset).take (P.cellsOf f.type))
  |some (.array m e)=>cs.length=P.cellsOf t/\∀i,i<m->C2 P h n e ((cs.drop (i*P.cellsOf e)).take (P.cellsOf e))
  |_=>True
theorem xr{w:World}{b:Nat}{a:Addr}{n:Nat}{cs:List Value}(h:w.cells? b a n=some cs):cs.length=n/\dF a cs 0 w.heap:=by
 obtain⟨_,d,c⟩:=World.cells?_some h;refine⟨d,jJ.2 λj v H=> ?_⟩;have e:j<cs.length:=(aC.1 H).1;have:=c j ae;rw[j0,H]at this;rw[bE];exact this
theorem kg{H:Type}{enc:TypeId×Value->H}{P:Program}{w:World}{B:Nat}{S:Nat->Bool}{held:Bool}:
  ∀(fuel:Nat)(t:TypeId)(cs:List Value)(x:DataW H×List MemPlace),DataW.trod enc P w B S held fuel t cs=some x->C2 P w.heap fuel t cs
 |0,_,_,_,h=>by simp[DataW.trod]at h
 |fuel+1,t,cs,x,h=>by
  unfold C2;cases hd:P.underlying t with
  |none=>trivial
  |some d=>
   cases d<;>simp only<;>first|trivial|skip
   case bool=>obtain⟨b,c,_⟩:=DataW.trod_bool hd h;exact⟨b,c⟩
   case int k=>obtain⟨n,c,_,u⟩:=DataW.trod_int hd h;exact⟨n,c,u⟩
   case string=>obtain⟨s,c,_,u⟩:=DataW.trod_string hd h;exact⟨s,c,u⟩
   case pointer e=>
    rcases DataW.trod_pointer hd h with⟨c,_⟩|⟨a,C,y,n,r,c,_,aB,G⟩
    .exact .inl c
    .obtain⟨j,p⟩:=xr aB;obtain rfl:n=fuel:=ae
     exact .inr ⟨a,C,c,j,p,kg n e C y G⟩
   case slice e=>
    rcases DataW.trod_slice hd h with⟨c,_⟩|⟨a,len,cap,I,rest,n,r,c,_,_,j,q,J,D,_⟩
    .exact .inl c
    .obtain rfl:n=fuel:=ae
     refine .inr ⟨a,len,cap,c,j,q,λi l=> ?_⟩;have g:=D i l;rw[aj ae]at g;cases aB:w.cells? B (a.add (i*P.cellsOf e)) (P.cellsOf e)with
     |none=>rw[aB]at g;cases g
     |some C=>
      rw[aB]at g;obtain⟨E,p⟩:=xr aB;exact⟨C,E,p,kg n e C _ g⟩
   case struct fs=>
    obtain⟨xs,n,r,_,j,A,o⟩:=DataW.trod_struct hd h;obtain rfl:n=fuel:=ae
    refine⟨j,λf q=> ?_⟩;obtain⟨i,l⟩:=bx q;have z:fs[i]? =some f:=by simpa using l
    have g:=o i f z;have F:i<xs.length:=by rw[A];exact(Array.getElem?_eq_some_iff.1 z).1
    rw[aj F]at g;exact kg n _ _ _ g
   case array m e=>
    obtain⟨xs,n,r,_,j,A,o⟩:=DataW.trod_array hd h;obtain rfl:n=fuel:=ae
    refine⟨j,λi l=> ?_⟩;have g:=o i l;rw[aj ae]at g;exact kg n _ _ _ g
def rL(P:Program)(h:ai)(t:TypeId)(v:Value):Prop:= ∃n,C2 P h n t v.cells.toList
theorem rL.of{H:Type}{enc:TypeId×Value->H}{P:Program}{w:World}{b:Nat}{s:Nat->Bool}{held:Bool}{t:TypeId}{v:Value}{d:DataW H}{p:List MemPlace}(h:DataW.Trod enc P w b s held t v d p):rL P w.heap t v:=by
 obtain⟨n,a⟩:=h;exact⟨n,kg n _ _ _ a⟩
theorem KC{w w':World}(a:Fr (λ_=>False) w.heap w'.heap)(H:fc w w'):Below w.heap.size w w':=
 ⟨H.1,H.2.2,H.2.1,a.1,λk hk=>a.2 k hk id⟩
def KD(P:Program)(f:FuncId)(args:Array Value)(h:ai):Prop:=ar P f args h (λv h'=>v=.bool true/\Fr (λ_=>False) h h')
theorem KD.calls{P:Program}{f:FuncId}{args:Array Value}{w:World}(b:KD P f args w.heap):Calls P f args w λe w'=>e=.returned (.bool true)/\Below w.heap.size w w':=
 (b w rfl).mono λ_ _ ⟨_,H,⟨d,a⟩,c⟩=>⟨by rw[H,d],KC a c⟩
theorem wf_u8{a:Int}(h:(Lit.int .u8 a).wf=true):0<=a/\a<=255:=by
 simpa[Lit.wf,IntKind.min,IntKind.max,IntKind.bits,IntKind.signed]using h
section
variable {P : Program} {h : ai} {t : TypeId} {v : Value}
theorem rL.int{k:IntKind}(d:P.underlying t=some (.int k))(e:rL P h t v)(c: ∀a,v.cells.toList= [.int k a]->v=.int k a): ∃a,v=.int k a/\(Lit.int k a).wf=true:=by
 obtain⟨n,H⟩:=e;cases n with
 |zero=>exact H.elim
 |succ n=>
  unfold C2 at H;rw[d]at H;obtain⟨a,b,f⟩:=H;exact⟨a,c a b,f⟩
theorem Bs{h:ai}{a:Addr}{cs ds:List Value}:dF a (cs++ds) 0 h↔dF a cs 0 h/\dF (a.add cs.length) ds 0 h:=by
 simp only[jJ,bE];constructor
 .intro b;refine⟨λj v H=>b j v ?_,λj v H=> ?_⟩
  .rw[cN (aC.1 H).1];exact H
  .rw[add_add];refine b _ v ?_;rw[cH ae];simpa using H
 .rintro⟨c,d⟩ j v H;by_cases e:j<cs.length
  .rw[cN e]at H;exact c j v H
  .rw[cH ae]at H;have:=d _ v H;rw[add_add]at this;rwa[show cs.length+(j - cs.length)=j by omega]at this
theorem eO{α:Type}(enc:α->List Value)(sz:Nat)(H: ∀x,(enc x).length=sz): ∀xs:List α,(xs.flatMap enc).length=xs.length*sz
 | []=>bM
 |x::xs=>by
  rw[fz,aA,H,eO enc sz H xs,ba,dL];omega
theorem qg{α:Type}(enc:α->List Value)(sz:Nat)(a: ∀x,(enc x).length=sz): ∀(xs:List α)(i:Nat)(x:α),xs[i]? =some x->∀j v,(enc x)[j]? =some v->(xs.flatMap enc)[i*sz+j]? =some v
 | [],i,x,h,_,_,_=>by simp at h
 |y::xs,0,x,h,j,v,H=>by
  simp at h;subst h;have b:=(aC.1 H).1;rw[fz,Nat.zero_mul,bE,cN b];exact H
 |y::xs,i+1,x,h,j,v,H=>by
  have:=qg enc sz a xs i x (cD h) j v H;rw[fz,cH (by rw[a,dL];omega),a];rwa[show(i+1)*sz+j - sz=i*sz+j by rw[dL];omega]
theorem rL.slice{α:Type}{e:TypeId}{p:cj}{len cap:Nat}(enc:α->List Value)(sz:Nat)(Q:α->Prop)(j:P.cellsOf e=sz)(s: ∀x,(enc x).length=sz)(q: ∀n c,c.length=sz->C2 P h n e c->∃x,c=enc x/\Q x)(A:P.underlying t=some (.slice e))(B:rL P h t (.slice p len cap)):
  ∃xs:List α,xs.length=len/\len<=cap/\cap<=maxLen/\Row h p (xs.flatMap enc)/\∀x∈xs,Q x:=by
 obtain⟨n,b⟩:=B;cases n with
 |zero=>exact b.elim
 |succ n=>
  unfold C2 at b;rw[A]at b;rcases b with H|⟨a,L,C,H,u,w,r⟩
  .simp[Value.cells]at H;obtain⟨rfl,rfl,rfl⟩:=H;exact⟨[],rfl,aZ _,bP _,.inl rfl,λ_ f=>by cases f⟩
  .simp[Value.cells]at H;obtain⟨rfl,rfl,rfl⟩:=H;have key: ∀k,k<=len->∃xs:List α,xs.length=k/\dF a (xs.flatMap enc) 0 h/\∀x∈xs,Q x:=by
    intro k;induction k with
    |zero=>intro _;exact⟨[],rfl,trivial,λ_ f=>by cases f⟩
    |succ k I=>
     intro hk;obtain⟨xs,d,g,i⟩:=I ae;obtain⟨c,l,m,o⟩:=r k ae;obtain⟨x,rfl,z⟩:=q n c (by rw[l,j]) o;refine⟨xs++ [x],by simp[d],?_,?_⟩
     .rw[cU,Bs];refine⟨g,?_⟩;rw[eO enc sz s,d,<-j];simpa using m
     .intro y hy;rcases bJ.1 hy with hy|hy
      .exact i y hy
      .simp at hy;subst hy;exact z
   obtain⟨xs,d,g,i⟩:=key len (aZ _);exact⟨xs,d,u,w,.inr ⟨a,rfl,g⟩,i⟩
theorem C2.int{k:IntKind}{n:Nat}{cs:List Value}(b:P.underlying t=some (.int k))(H:C2 P h n t cs): ∃a,cs= [.int k a]/\(Lit.int k a).wf=true:=by
 cases n with
 |zero=>exact H.elim
 |succ n=>unfold C2 at H;rw[b]at H;exact H
theorem C2.bool{n:Nat}{cs:List Value}(a:P.underlying t=some .bool)(H:C2 P h n t cs): ∃b,cs= [.bool b]:=by
 cases n with
 |zero=>exact H.elim
 |succ n=>unfold C2 at H;rw[a]at H;exact H
end
theorem aK.of{α:Type}{F:α}{B:α->Prop}(h: ∀J,J=F->B J):aK F B:=h F rfl
theorem rL.ints{P:Program}{h:ai}{t e:TypeId}{k:IntKind}{p:cj}{len cap:Nat}(c:P.cellsOf e=1)(hk:P.underlying e=some (.int k))(f:P.underlying t=some (.slice e))(g:rL P h t (.slice p len cap)):
  ∃xs:List Int,xs.length=len/\Row h p (xs.map (.int k ·))/\∀x∈xs,(Lit.int k x).wf=true:=by
 obtain⟨xs,H,_,_,a,b⟩:=rL.slice (e:=e) (λx:Int=> [Value.int k x]) 1 (λx=>(Lit.int k x).wf=true) c (λ_=>rfl) (λn C _ d=>C2.int hk d) f g;refine⟨xs,H,?_,b⟩;have:xs.flatMap (λx:Int=> [Value.int k x])=xs.map (.int k ·):=by
  clear H a b;induction xs with
  |nil=>rfl
  |cons x xs i=>rw[fz,i];rfl
 rwa[this]at a
theorem ER{h:ai}{p:cj}{k:IntKind}{xs:List Int}(b:Row h p (xs.map (.int k ·))){i:Nat}(c:i<xs.length): ∃a,p=some a/\aB h (a.add (i*1))=some (.int k (xs.getD i 0)):=by
 have H:(xs.map (Value.int k ·))[i]? =some (.int k (xs.getD i 0)):=by simp[c]
 obtain⟨a,rfl⟩:=b.some (λe=>by rw[e]at H;simp at H);exact⟨a,rfl,by rw[cr];exact b.cell H⟩
theorem KE{xs:List Int}{i:Nat}(H:i<xs.length):xs.getD i 0∈xs:=by
 rw[aX,aj H];exact dC H
end
def bc(bs:List UInt8):List Value:=bs.map λb=> .int .u8 (b.toNat:Int)
theorem jK(bs:List UInt8):(bc bs).length=bs.length:=by simp[bc]
theorem jA(bs cs:List UInt8):bc (bs++cs)=bc bs++bc cs:=by simp[bc]
theorem Nn(bs:List UInt8)(n:Nat):(bc bs).take n=bc (bs.take n):=by simp[bc,List.map_take]
theorem Np(bs:List UInt8)(n:Nat):(bc bs).drop n=bc (bs.drop n):=by simp[bc,List.map_drop]
theorem ph(bs:List UInt8): ∀v∈bc bs,fH v=true:=by
 intro v h;simp only[bc,bg]at h;obtain⟨b,_,rfl⟩:=h;rfl
def str(bs:List UInt8):ByteArray:=⟨bs.toArray⟩
theorem vF(b:ByteArray): ∀(k i:Nat)(r:List UInt8),b.size - i=k->i<=b.size->ByteArray.toList.loop b i r=r.reverse++b.data.toList.drop i
 |0,i,r,hk,H=>by
  have:i=b.size:=ae
  unfold ByteArray.toList.loop;rw[cW];have:b.data.toList.length<=i:=by rw[dQ];exact Nat.le_of_eq this.symm
  rw[dK this];simp
 |k+1,i,r,hk,H=>by
  have h:i<b.size:=ae
  unfold ByteArray.toList.loop;rw[af h,vF b k (i+1) _ ae ae];have a:i<b.data.toList.length:=by rw[dQ];exact h
  rw[cF a];have:b.get! i=b.data.toList[i]:=by
   show b.data[i]! =_;rw[getElem!_pos b.data i h];simp
  rw[this];simp
theorem toList_data(b:ByteArray):b.toList=b.data.toList:=by
 unfold ByteArray.toList;rw[vF b _ 0 [] rfl (bP _)];simp
theorem sy(bs:List UInt8):(str bs).toList=bs:=by rw[toList_data];simp[str]
theorem KF(s:ByteArray):str s.data.toList=s:=by cases s;simp[str]
section
variable {P : Program}
theorem C4(h:ai): ∀(bs:List UInt8)(s:ByteArray),rd P (forIn (bc bs).toArray s λc s=>(do
   let .int .u8 n:=c|stuck "bytesToString: byte expected"
   pure (ForInStep.yield (s.push (UInt8.ofNat n.toNat))))) h=some ⟨s.data++bs.toArray⟩:=by
 intro bs;simp only[List.forIn_toArray];induction bs with
 |nil=>intro s;simp only[bc,List.map_nil,List.forIn_nil];show some s=_;cases s;simp
 |cons b bs i=>
  intro s;have e:bc (b::bs)=.int .u8 (b.toNat:Int)::bc bs:=rfl;rw[e,List.forIn_cons];rw[bm _ _ h (ForInStep.yield (s.push b)) (by show some (ForInStep.yield (s.push (UInt8.ofNat b.toNat)))=_;simp)];show rd P (forIn (bc bs) (s.push b) _) h=_;rw[i];simp[ByteArray.push]
theorem KG{S D e:TypeId}{h:ai}{p:cj}{c n:Nat}{bs:List UInt8}(j:P.underlying S=some (.slice e))(f:P.underlying e=some (.int .u8))(hd:P.underlying D=some .string)(H:Row h p (bc bs))(i:n=bs.length):qV P S D (.slice p n c) h (str bs):=by
 subst i;unfold qV convert;rw[bm _ _ _ _ (bu j),bm _ _ _ _ (bu hd)];show rd P (underlying e>>=_) h=_;rw[bm _ _ _ _ (bu f)];show rd P (Conv.bytesToString (.slice p bs.length c)) h=_;cases p with
 |none=>
  have:bs= []:=by
   rcases H with H|⟨a,e,_⟩
   .cases bs with
    |nil=>rfl
    |cons b bs=>cases H
   .cases e
  subst this;rfl
 |some a=>
  have d:dF a (bc bs) 0 h:=by
   rcases H with H|⟨A,e,d⟩
   .rw[H];trivial
   .cases e;exact d
  have g:rd P (loadCells a bs.length) h=some (bc bs).toArray:=by
   unfold loadCells;rw[<-jK,hY (bc bs) 0 #[] h d];simp
  show rd P (loadCells a bs.length>>=λcells=>(forIn cells ByteArray.empty λc s=>(do
   let .int .u8 n:=c|stuck "bytesToString: byte expected"
   pure (ForInStep.yield (s.push (UInt8.ofNat n.toNat)))))>>=λs=>pure (Value.string s)) h=_
  rw[bm _ _ _ _ g,bm _ _ _ _ (C4 h bs ByteArray.empty)];show some (Value.string ⟨ByteArray.empty.data++bs.toArray⟩)=_;have:(⟨ByteArray.empty.data++bs.toArray⟩:ByteArray)=str bs:=by
   unfold str;congr 1;show #[]++bs.toArray=bs.toArray;simp
  rw[this]
theorem Nq{t e:TypeId}{h:ai}{a:Addr}{n c:Nat}{K:fx}(d:P.underlying t=some (.slice e))(g:P.underlying e=some (.int .u8)){cs:Array Value}{C:TypeId}{f:Nat×Nat}(H:h[a.block]? =some (.cells cs C f))(hk: ∀h' F,h'[a.block]? =some (.cells cs C F)->h'.size=h.size->(∀x,x≠a.block->h'[x]? =h[x]?)->K (.slice (some a) n c) h'):aV P (convert t t (.slice (some a) n c)) h K:=by
 unfold convert;refine bK (s:=underlying t) (bu d) ?_;refine bK (s:=underlying t) (bu d) ?_;show aV P (underlying e>>=_) h K;refine bK (s:=underlying e) (bu g) ?_;have j:(t==t)=true:=bM
 rw[j];show aV P (markStringish a>>=λ_=>pure (.slice (some a) n c)) h K;rw[dw];unfold markStringish shape;have i:nE h a.block=some (C,cs.size):=by simp[nE,H]
 show aV P (match nE h a.block with|some (_,n)=>freeze { block:=a.block,off:=n } 1|_=>pure ()) h _;rw[i];show K (.slice (some a) n c) (nG h { block:=a.block,off:=cs.size } 1);unfold nG;rw[cW];obtain⟨l,b⟩:=f;refine hk _ (if l==b then(cs.size,cs.size+1)else(min l cs.size,max b (cs.size+1))) ?_ bM (λx k=> ?_)
 .simp[dE,H]
 .simp[dE,e6 k]
theorem rL.bytes{h:ai}{t e:TypeId}{p:cj}{len cap:Nat}(c:P.cellsOf e=1)(hk:P.underlying e=some (.int .u8))(d:P.underlying t=some (.slice e))(f:rL P h t (.slice p len cap)):
  ∃bs:List UInt8,bs.length=len/\Row h p (bc bs):=by
 obtain⟨xs,H,a,b⟩:=rL.ints c hk d f;refine⟨xs.map λx=>UInt8.ofNat x.toNat,cD H,?_⟩;have:bc (xs.map λx=>UInt8.ofNat x.toNat)=xs.map (.int .u8 ·):=by
  unfold bc;rw[dH];refine dS λx g=> ?_
  have:=wf_u8 (b x g);simp only[Function.comp,eN,Value.int.injEq,true_and];omega
 rw[this];exact a
end
theorem kh(n:Nat):IntKind.wrap .u8 (n:Int)=((n%256:Nat):Int):=by
 show(n:Int)%256=_;omega
theorem nQ{n:Nat}(h:n<18446744073709551616):IntKind.wrap .u64 (n:Int)=(n:Int):=wrap_u64 ae ae
theorem Rz(n:Nat):IntKind.wrap .u8 ((BitVec.ofInt (IntKind.bits .u8) (IntKind.wrap .u8 (n:Int))|||BitVec.ofInt (IntKind.bits .u8) 128).toNat:Int)=((UInt8.ofNat (n%128+128)).toNat:Int):=by
 have key: ∀m:Fin 256,(((BitVec.ofInt 8 (m.val:Int)|||BitVec.ofInt 8 128).toNat%256:Nat))=m.val%128+128:=cM
 rw[kh n,kh];have k:=key ⟨n%256,ae⟩;simp only at k;have e:IntKind.bits .u8=8:=rfl;rw[e,k];rw[eN];omega
theorem Qi(c:UInt8):(IntKind.wrap .u8 ((BitVec.ofInt (IntKind.bits .u8) (c.toNat:Int) &&& BitVec.ofInt (IntKind.bits .u8) 128).toNat:Int)==0)=decide (c.toNat<128):=by
 have key: ∀m:Fin 256,(((((BitVec.ofInt 8 (m.val:Int) &&& BitVec.ofInt 8 128).toNat%256:Nat):Int))==0)=decide (m.val<128):=cM
 rw[kh];exact key ⟨c.toNat,c.toNat_lt⟩
theorem Qj(c:UInt8):IntKind.wrap .u8 ((BitVec.ofInt (IntKind.bits .u8) (c.toNat:Int) &&& BitVec.ofInt (IntKind.bits .u8) 127).toNat:Int)=((c.toNat%128:Nat):Int):=by
 have key: ∀m:Fin 256,((BitVec.ofInt 8 (m.val:Int) &&& BitVec.ofInt 8 127).toNat%256:Nat)=m.val%128:=cM
 rw[kh];exact bY (λx:Nat=>(x:Int)) (key ⟨c.toNat,c.toNat_lt⟩)
theorem Qk{n d i:Nat}(a:n<2 ^ i)(hd:d*2 ^ i<18446744073709551616)(h:i<=64):
  IntKind.wrap .u64 ((BitVec.ofInt (IntKind.bits .u64) (n:Int)|||BitVec.ofInt (IntKind.bits .u64) (IntKind.wrap .u64 ((d:Int)*2 ^ min (Int.toNat (i:Int)) (IntKind.bits .u64)))).toNat:Int)=((n+d*2 ^ i:Nat):Int):=by
 have E:IntKind.bits .u64=64:=rfl;have f:(0:Nat)<2 ^ i:=Nat.two_pow_pos i;rw[aI,E,Nat.min_eq_left h];have e1:((d:Int)*2 ^ i)=((d*2 ^ i:Nat):Int):=bM
 rw[e1,nQ hd];have b:n<18446744073709551616:=by
  have:(2:Nat) ^ i<=2 ^ 64:=fv ae h;omega
 have e2: ∀m:Nat,m<18446744073709551616->(BitVec.ofInt 64 (m:Int)).toNat=m:=λm c=>by
  rw[BitVec.toNat_ofInt];omega
 rw[BitVec.toNat_or,e2 n b,e2 _ hd];have e:n|||d*2 ^ i=n+d*2 ^ i:=by
  rw[Nat.or_comm,fG,<-Nat.two_pow_add_eq_or_of_lt a d];omega
 rw[e];refine nQ ?_;have H:d<2 ^ (64 - i):=by
  have:(18446744073709551616:Nat)=2 ^ (64 - i)*2 ^ i:=by rw[<-Nat.pow_add,Nat.sub_add_cancel h]
  rw[this]at hd;exact Nat.lt_of_mul_lt_mul_right hd
 have:(d+1)*2 ^ i<=2 ^ (64 - i)*2 ^ i:=cB _ H;rw[<-Nat.pow_add,Nat.sub_add_cancel h,dL]at this;omega
theorem Tu{n:Nat}:Int.fdiv (n:Int) (2 ^ min (Int.toNat 7) (IntKind.bits .u64))=((n/128:Nat):Int):=by
 show Int.fdiv (n:Int) 128=_;rw[Int.fdiv_eq_ediv_of_nonneg _ ae];omega
end Go.Den
namespace Go.Den
structure Step (S:Nat->Prop) (h:ai) (S':Nat->Prop) (h':ai):Prop where
 fr:Fr S h h'
 new: ∀c,S' c->S c\/h.size<=c
theorem Step.refl(S:Nat->Prop)(h:ai):Step S h S h:=⟨Fr.refl _ _,λ_=> .inl⟩
theorem Step.trans{S s d:Nat->Prop}{h H e:ai}(a:Step S h s H)(b:Step s H d e):Step S h d e:=
 ⟨a.fr.trans b.fr (λ_ _=>id) (λc hc f=>(a.new c f).resolve_right ae),λc hc=>by
  rcases b.new c hc with hc|hc
  .exact a.new c hc
  .have:=a.fr.1;exact .inr ae⟩
theorem Step.apart{S s Q:Nat->Prop}{h h':ai}(st:Step S h s h')(hd: ∀c,S c->¬Q c)(b: ∀c,Q c->c<h.size): ∀c,s c->¬Q c:=λc a H=>by
 rcases st.new c a with h1|h1
 .exact hd c h1 H
 .have:=b c H;omega
theorem Fr.fresh{S:Nat->Prop}{h H a:ai}(f:Fr (λ_=>False) h H)(g:Fr S H a)(b: ∀c,S c->h.size<=c):Fr (λ_=>False) h a:=
 f.step g λc e d=>by have:=b c d;omega
theorem IJ{h:ai}{c:Array Value}{t:TypeId}{f:Nat×Nat}{i:Nat}{v:Value}:mN (h.push (.cells c t f)) (AA h.size i) v=h.push (.cells (c.setIfInBounds i v) t f):=by
 apply Array.ext
 .simp[mN]
 .intro j a b;have e: ∀(x:ai)(H:j<x.size),x[j]? =some x[j]:=λx H=>Array.getElem?_eq_getElem H
  have:(mN (h.push (.cells c t f)) (AA h.size i) v)[j]? =(h.push (.cells (c.setIfInBounds i v) t f))[j]? :=by
   by_cases q:j=h.size
   .subst q;rw[ud bT,bT]
   .rw[rJ q];rw[fb,fb,ag q,ag q]
  rw[e _ a,e _ b]at this;exact bn this
theorem vG{h:ai}{c:Array Value}{t:TypeId}{i:Nat}{v:Value}{K:ai->Prop}(H:i<c.size)(hk:K (h.push (.cells (c.setIfInBounds i v) t (0,0)))):aE (h.push (.cells c t (0,0))) (AA h.size i) v K:=by
 refine⟨?_,me bT,?_⟩
 .rw[jX bT];simp[H]
 .rintro _ rfl;rw[IJ];exact hk
theorem cC{h:ai}{o:Obj}{K:Nat->ai->Prop}(hk:K h.size (h.push o)):aS h o K:=by
 rintro b h' rfl rfl;exact hk
section
variable {P : Program}
theorem iU{s x ty elem eT t:TypeId}{sz bytes:Nat}{z:Value}{h:ai}{p:cj}{len cap:Nat}{cs:List Value}{xs:Array Value}{K:fx}(T:nP P s elem sz bytes z)(m:P.underlying x=some (.slice eT))(own:fy h p len cap sz cs)(n:xs.size=sz)(l: ∀v∈xs.toList,fH v=true)(e:(len+1)*bytes<=70368744177664)(f:len+1<=9223372036854775807)(hk: ∀a C h',fy h' a (len+1) C sz (cs++xs.toList)->Fr (aP p) h h'->(∀c,aP a c->aP p c\/h.size<=c)->K (.slice a (len+1) C) h'):
  aS h (.cells xs t) λb H=>aV P (Builtin.append_ #[s,x] ty #[.slice p len cap,.slice (some (AA b 0)) 1 1]) H K:=by
 refine cC ?_;have f1:Fr (λ_=>False) h (h.push (.cells xs t)):=Fr.push _ _;refine dO T m (own.frame f1 (λ_ _=>id)) (ds:=xs.toList) (.inr ⟨_,rfl,gF bT (λj v k=>by rw[bE];simpa using k)⟩) (by simp[n]) l e f ?_;intro a C h' o1 _ f2 g;exact hk a C h' o1 (Fr.no f1 f2) (λc i=>(g c i).imp id (λd=>by simp at d;omega))
end
end Go.Den
namespace Go.Den
structure Up (h0:ai) (S:Nat->Prop) (h:ai):Prop where
 fr:Fr (λ_=>False) h0 h
 ge: ∀c,S c->h0.size<=c
theorem Up.step{H h h':ai}{S s:Nat->Prop}(u:Up H S h)(st:Step S h s h'):Up H s h':=
 ⟨u.fr.fresh st.fr u.ge,λc a=>by
  rcases st.new c a with h1|h1
  .exact u.ge c h1
  .have:=u.fr.1;omega⟩
theorem Up.Ai{H h h':ai}{S Q:Nat->Prop}(u:Up H S h)(f:Fr Q h h')(b: ∀c,Q c->S c):Up H S h':=⟨u.fr.fresh f (λc a=>u.ge c (b c a)),u.ge⟩
theorem jq{h:ai}{cs:List Value}{t:TypeId}:Row (h.push (.cells cs.toArray t)) (some (AA h.size 0)) cs:=.inr ⟨_,rfl,gF bT (λj v H=>by rw[bE];simpa using H)⟩
theorem fP(a:Addr):a.add 0=a:=by simp[Addr.add]
theorem kV(a:Addr)(n:Nat):(a.add n).block=a.block:=by unfold Addr.add;split<;>rfl
theorem ja{h:ai}{p:cj}{cs:List Value}(f:Row h p cs)(b:cs≠ []){x:Nat}(g:aP p x):x<h.size:=by
 obtain⟨a,rfl,rfl⟩:=g;rcases f with H|⟨A,e,H⟩
 .exact absurd H b
 .cases e;cases cs with
  |nil=>exact absurd rfl b
  |cons c cs=>
   obtain⟨_,_,_,d,_⟩:=xm H.1;have:=aF d;rwa[kV]at this
theorem Row.sub{h:ai}{p:cj}{cs:List Value}(d:Row h p cs){cap l u sz:Nat}(e:l<=u)(f:u<=cap):Row h (cE p cap l sz) ((cs.take (u*sz)).drop (l*sz)):=by
 by_cases b:cap=l
 .left;have:u=l:=ae
  subst this;rw[List.drop_eq_nil_iff,bF];exact Nat.min_le_left _ _
 .unfold cE;rw[ag b];rcases d with rfl|⟨a,rfl,c⟩
  .left;simp
  .refine .inr ⟨a.add (l*sz),rfl,jJ.2 λj v H=> ?_⟩;rw[add_add,bE];rw[ft,cI]at H;split at H
   .have:=jJ.1 c (l*sz+j) v H;rwa[bE]at this
   .cases H
structure Ft where
 M:Nat->Prop
 D:Nat->Prop
structure bC (F:Ft) (h:ai) (F':Ft) (h':ai):Prop where
 fr:Fr F.M h h'
 jl: ∀c,F'.M c->F.M c\/h.size<=c
 lB: ∀c,F'.D c->F.D c\/h.size<=c
 wg: ∀c,F.D c->F'.D c
theorem bC.refl(F:Ft)(h:ai):bC F h F h:=⟨Fr.refl _ _,λ_=> .inl,λ_=> .inl,λ_=>id⟩
theorem bC.trans{F f d:Ft}{h H e:ai}(a:bC F h f H)(b:bC f H d e):bC F h d e:=by
 have z:=a.fr.1;refine⟨a.fr.trans b.fr (λ_ _=>id) (λc hc g=>(a.jl c g).resolve_right ae),λc hc=> ?_,λc hc=> ?_,λc hc=>b.wg c (a.wg c hc)⟩
 .rcases b.jl c hc with hc|hc
  .exact a.jl c hc
  .exact .inr ae
 .rcases b.lB c hc with hc|hc
  .exact a.lB c hc
  .exact .inr ae
theorem bC.sC{F:Ft}{h h':ai}(f:Fr F.M h h'):bC F h F h':=⟨f,λ_=> .inl,λ_=> .inl,λ_=>id⟩
theorem bC.hM{F:Ft}{h h':ai}(f:Fr (λ_=>False) h h'):bC F h F h':=.sC (f.mono λ_ _=>False.elim)
theorem bC.no{F a:Ft}{h H c:ai}(f:Fr (λ_=>False) h H)(b:bC F H a c):bC F h a c:=(bC.hM f).trans b
theorem bC.on{F b:Ft}{h H c:ai}(a:bC F h b H)(f:Fr (λ_=>False) H c):bC F h b c:=a.trans (bC.hM f)
theorem bC.apart{F f:Ft}{Q:Nat->Prop}{h h':ai}(st:bC F h f h')(hd: ∀c,F.M c\/F.D c->¬Q c)(a: ∀c,Q c->c<h.size): ∀c,f.M c\/f.D c->¬Q c:=λc hc H=>by
 have:=a c H;rcases hc with hc|hc
 .rcases st.jl c hc with h1|h1
  .exact hd c (.inl h1) H
  .omega
 .rcases st.lB c hc with h1|h1
  .exact hd c (.inr h1) H
  .omega
structure KH (h0:ai) (F:Ft) (h:ai):Prop where
 fr:Fr (λ_=>False) h0 h
 ge: ∀c,F.M c\/F.D c->h0.size<=c
theorem KH.step{H h h':ai}{F f:Ft}(u:KH H F h)(st:bC F h f h'):KH H f h':=by
 have z:=u.fr.1;refine⟨u.fr.fresh st.fr (λc hc=>u.ge c (.inl hc)),λc hc=> ?_⟩;rcases hc with hc|hc
 .rcases st.jl c hc with h1|h1
  .exact u.ge c (.inl h1)
  .omega
 .rcases st.lB c hc with h1|h1
  .exact u.ge c (.inr h1)
  .omega
theorem KH.on{H h h':ai}{F:Ft}(u:KH H F h)(f:Fr (λ_=>False) h h'):KH H F h':=⟨u.fr.tt f,u.ge⟩
theorem pj{b:Nat}{t:TypeId}: ∀(vs:List Value)(i:Nat)(h:ai)(c:Array Value)(K:ai->Prop),h[b]? =some (.cells c t (0,0))->i+vs.length<=c.size->vs.all fH=true->
  (∀h' C,h'[b]? =some (.cells C t (0,0))->C.size=c.size->(∀j,j<i\/i+vs.length<=j->C[j]? =c[j]?)->(∀j v,vs[j]? =some v->C[i+j]? =some v)->h'.size=h.size->(∀x,x≠b->h'[x]? =h[x]?)->K h')->
  eS (AA b 0) vs i h K
 | [],i,h,c,K,a,_,_,hk=>hk h c a rfl (λ_ _=>rfl) (λj v H=>by simp at H) rfl (λ_ _=>rfl)
 |v::vs,i,h,c,K,a,l,d,hk=>by
  rw[List.all_cons,aT]at d;rw[ba]at l;unfold eS;rw[d.1];dsimp only;rw[gl,bE];refine bB a ae λg A s1 o1=> ?_
  refine pj vs (i+1) g _ K A (by rw[Array.size_setIfInBounds];omega) d.2 λk f B z q2 r s o2=>hk k f B (by rw[z,Array.size_setIfInBounds]) (λj H=> ?_) (λj u H=> ?_) ae (λx e=>by rw[o2 x e,o1 x e])
  .rw[ba]at H;rw[q2 j ae,ct,cW]
  .cases j with
   |zero=>
    simp only[dt,bw]at H;subst H;rw[Nat.add_zero,q2 i ae];rw[ct,af rfl,fO]
   |succ j=>
    have:=r j u (cD H);rwa[show i+1+j=i+(j+1) by omega]at this
theorem eE{h:ai}{b:Nat}{c:Array Value}{t:TypeId}{vs:List Value}{K:ai->Prop}(a:h[b]? =some (.cells c t (0,0)))(f:vs.length=c.size)(d:vs.all fH=true)(hk: ∀h',h'[b]? =some (.cells vs.toArray t (0,0))->h'.size=h.size->(∀x,x≠b->h'[x]? =h[x]?)->K h'):eS (AA b 0) vs 0 h K:=by
 refine pj vs 0 h c K a ae d λh' C B z _ r s o=>hk h' ?_ s o
 have:C=vs.toArray:=by
  apply Array.ext'
  apply e8
  intro j;by_cases H:j<vs.length
  .have e:=aj H;have:=r j _ e;rw[bE]at this;rw[df,this];exact e.symm
  .rw[dh (by rw[dQ];omega),dh (cD H)]
 rw[<-this];exact B
theorem gp{h:ai}{c:Array Value}{t:TypeId}{vs:List Value}{K:Nat->ai->Prop}(a:vs.length=c.size)(f:vs.all fH=true)(hk: ∀b h',b=h.size->h'[b]? =some (.cells vs.toArray t (0,0))->Fr (λ_=>False) h h'->K b h'):aS h (.cells c t) λb H=>eS (AA b 0) vs 0 H (K b):=
 cC (eE bT a f λh' B s o=>hk _ h' rfl B ((Fr.push h _).fresh (S:=λy=>y=h.size) ⟨ae,λy _ d=>o y d⟩ (λy e=>Nat.le_of_eq e.symm)))
end Go.Den
namespace Go.Den
structure BV where
 p:cj
 c:Nat
 b:List UInt8
abbrev BV.val(x:BV):Value:=.slice x.p x.b.length x.c
structure BV.ok (h:ai) (D:Nat->Prop) (x:BV):Prop where
 row:Row h x.p (bc x.b)
 own:x.b≠ []->∀c,aP x.p c->D c
 cap:x.b.length<=x.c
theorem BV.ok.frame{h h':ai}{D Q:Nat->Prop}{x:BV}(H:x.ok h D)(f:Fr Q h h')(d: ∀c,D c->¬Q c):x.ok h' D:=by
 refine⟨?_,H.own,H.cap⟩;by_cases b:x.b= []
 .rw[b];exact .inl rfl
 .exact H.row.frame f (λa e=>d a.block (H.own b a.block ⟨a,e,rfl⟩))
theorem BV.ok.mono{h:ai}{D D':Nat->Prop}{x:BV}(H:x.ok h D)(hd: ∀c,D c->D' c):x.ok h D':=⟨H.row,λa c b=>hd c (H.own a c b),H.cap⟩
theorem BV.lC{h:ai}{D:Nat->Prop}{p:cj}{c:Nat}{b:List UInt8}(o:fy h p b.length c 1 (bc b))(hd: ∀x,aP p x->D x):BV.ok h D ⟨p,c,b⟩:=⟨o.iT,λ_=>hd,o.le⟩
theorem jB(p:cj)(m sz:Nat):cE p m 0 sz=p:=by
 unfold cE;split
 .rfl
 .cases p with
  |none=>rfl
  |some a=>simp[Addr.add]
theorem fy.gv{h:ai}{a:Addr}{len cap sz:Nat}{α:Type}{enc:α->List Value}{xs:List α}(own:fy h (.some a) len cap sz (xs.flatMap enc))(H: ∀x,(enc x).length=sz){i:Nat}{x:α}(b:xs[i]? =.some x):dF (a.add (i*sz)) (enc x) 0 h:=by
 refine jJ.2 λj v c=> ?_
 rw[bE,add_add];exact own.cell (qg enc sz H xs i x b j v c)
theorem Row.gv{h:ai}{a:Addr}{sz:Nat}{α:Type}{enc:α->List Value}{xs:List α}(own:Row h (.some a) (xs.flatMap enc))(H: ∀x,(enc x).length=sz){i:Nat}{x:α}(b:xs[i]? =.some x):dF (a.add (i*sz)) (enc x) 0 h:=by
 refine jJ.2 λj v c=> ?_
 rw[bE,add_add];exact own.cell (qg enc sz H xs i x b j v c)
theorem fy.addr{h:ai}{p:cj}{len cap sz:Nat}{cs:List Value}(own:fy h p len cap sz cs)(d:0<len): ∃b off,p=.some (AA b off):=by
 cases own with
 |nil _ a _ _=>omega
 |row b off c t H _ _ _ _ _=>exact⟨b,off,H⟩
theorem fy.pre{h:ai}{p:cj}{len cap sz:Nat}{cs:List Value}(own:fy h p len cap sz cs){i:Nat}(H:i<=len):fy h p i cap sz (cs.take (i*sz)):=by
 have:=own.sub (l:=0) (u:=i) (bP _) H;rwa[jB,Nat.zero_mul,fY]at this
theorem kW{α:Type}(enc:α->List Value)(sz:Nat)(h: ∀x,(enc x).length=sz): ∀(xs:List α)(i:Nat),(xs.flatMap enc).take (i*sz)=(xs.take i).flatMap enc
 | [],i=>bM
 |x::xs,0=>bM
 |x::xs,i+1=>by
  rw[fz,fF,fz,List.take_append,h,bG (by rw[h,dL];omega),show(i+1)*sz - sz=i*sz by rw[dL];omega,kW enc sz h xs i]
theorem mR{α:Type}(enc:α->List Value)(sz:Nat)(h: ∀x,(enc x).length=sz): ∀(xs:List α)(i:Nat),(xs.flatMap enc).drop (i*sz)=(xs.drop i).flatMap enc
 | [],i=>bM
 |x::xs,0=>bM
 |x::xs,i+1=>by
  rw[fz,List.drop_succ_cons,List.drop_append,h,dK (by rw[h,dL];omega),dz,show(i+1)*sz - sz=i*sz by rw[dL];omega,mR enc sz h xs i]
theorem KI{α:Type}(enc:α->List Value)(sz:Nat)(h: ∀x,(enc x).length=sz): ∀(xs:List α)(i:Nat)(y:α),i<xs.length->∀(cs:List Value),cs.length=(xs.flatMap enc).length->(∀j,j/sz≠i\/sz=0->cs[j]? =(xs.flatMap enc)[j]?)->(∀j v,j<sz->(enc y)[j]? =some v->cs[i*sz+j]? =some v)->cs=(xs.set i y).flatMap enc:=by
 intro xs i y q cs s k p;apply e8
 intro j;by_cases n:sz=0
 .rw[k j (.inr n)];have e1: ∀zs:List α,zs.flatMap enc= []:=λzs=>by
   have:=eO enc sz h zs;rw[n,Nat.mul_zero]at this;exact List.eq_nil_of_length_eq_zero this
  rw[e1,e1]
 have g:0<sz:=ae
 by_cases d:j/sz=i
 .have f:j=i*sz+j%sz:=by rw[<-d,fG];exact(Nat.div_add_mod j sz).symm
  have c:=Nat.mod_lt j g;have H:(enc y)[j%sz]? =some ((enc y)[j%sz]'(by rw[h];exact c)):=aj _;have a:=p _ _ c H;have b:=qg enc sz h (xs.set i y) i y (by simp[q]) _ _ H;rw[<-f]at a b;rw[a,b]
 .rw[k j (.inl d)];by_cases m:j/sz<xs.length
  .have f:j=(j/sz)*sz+j%sz:=by rw[fG];exact(Nat.div_add_mod j sz).symm
   have c:=Nat.mod_lt j g;have o:xs[j/sz]? =some (xs[j/sz]):=aj m;have r:(xs.set i y)[j/sz]? =some (xs[j/sz]):=by rw[di,ag (λe=>d e.symm)];exact o
   have H:(enc xs[j/sz])[j%sz]? =some ((enc xs[j/sz])[j%sz]'(by rw[h];exact c)):=aj _;have a:=qg enc sz h xs _ _ o _ _ H;have b:=qg enc sz h (xs.set i y) _ _ r _ _ H;rw[<-f]at a b;rw[a,b]
  .have l:xs.length*sz<=j:=by
    have:=(Nat.le_div_iff_mul_le g).1 (Nat.le_of_not_lt m);exact this
   rw[dh (by rw[eO enc sz h];exact l),dh (by rw[eO enc sz h,du];exact l)]
section
variable {P : Program}
theorem Aj{S elem ty:TypeId}{sz bytes:Nat}{z:Value}{h:ai}{p:cj}{len cap i:Nat}{cs:List Value}{K:fx}(T:nP P S elem sz bytes z)(I: ∀v∈z.cells.toList,fH v=true)(own:fy h p len cap sz cs)(d:i<=len)(hk: ∀h',fy h' p i cap sz (cs.take (i*sz))->Fr (aP p) h h'->K (.tuple #[]) h'):aV P (Builtin.clear_ #[S] ty #[.slice (cE p cap i sz) (len - i) (cap - i)]) h K:=by
 have fin:K (.tuple #[]) h:=hk h (own.pre d) (Fr.refl _ _);obtain⟨b',B,a',_,O⟩:=T.i;unfold Builtin.clear_;show aV P (underlying S>>=_) h K;refine bK (s:=underlying S) (bu T.u) ?_;cases own with
 |nil f l w g=>
  subst f;have:cE none cap i sz=none:=by unfold cE;split<;>rfl
  rw[this];exact fin
 |row b off c t f q l w E g=>
  subst f;by_cases A:len - i=0
  .rw[A];cases Y:cE (some (AA b off)) cap i sz with
   |none=>exact fin
   |some a=>exact fin
  .obtain⟨n,m⟩: ∃n,len - i=n+1:=⟨len - i - 1,ae⟩;have y:cap≠i:=ae
   have u:cE (some (AA b off)) cap i sz=some ⟨b,off+i*sz,none⟩:=by
    unfold cE;rw[ag y];show some (((AA b off):Addr).add (i*sz))=_;rw[gl]
   rw[u,m];show aV P (zeroValue elem>>=λz=>storeCells ⟨b,off+i*sz,none⟩ (Builtin.zeroCells z.cells (n+1)).toList>>=λ_=>pure (Value.tuple #[])) h K;refine bK (s:=zeroValue elem) (iq B O) ?_;rw[dw];have R:=T.zs;have Q:(Builtin.zeroCells z.cells (n+1)).toList.length=(n+1)*sz:=by simp[Builtin.zeroCells,R]
   have V:off+i*sz+(n+1)*sz<=off+cap*sz:=by
    rw[<-m,Nat.sub_mul];have U:i*sz<=len*sz:=cB _ d;have m2:len*sz<=cap*sz:=cB _ l;omega
   refine rK (c:=c) (off:=off+i*sz) _ 0 h b t _ ?_ q (by rw[Q];omega) ?_
   .intro v o;simp only[Builtin.zeroCells,Array.toList_map,bg]at o;obtain⟨k,D,rfl⟩:=o;have L:0<z.cells.size:=by
     rcases Nat.eq_zero_or_pos z.cells.size with e|e
     .simp[e]at D
     .exact e
    have F:=Nat.mod_lt k L;rw[getElem!_pos z.cells _ F];exact I _ bM
   .intro h' C r Z G X M J;refine hk h' (.row b off C t rfl r ae ae ?_ ?_) (Fr.of_eq M λx N=>J x (λe=>N ⟨_,rfl,e.symm⟩))
    .rw[bF,E];have U:i*sz<=len*sz:=cB _ d;omega
    .intro j v H;rw[cI]at H;split at H
     .rename_i W;rw[G (off+j) ae];exact g j v H
     .cases H
theorem uf{s X ty elem eT t:TypeId}{sz bytes:Nat}{z:Value}{h:ai}{q:cj}{n cq:Nat}{ds:List Value}{K:fx}(T:nP P s elem sz bytes z)(H:P.underlying X=some (.slice eT))(m:Row h q ds)(hd:ds.length=n*sz)(l: ∀v∈ds,fH v=true)(i:n*bytes<=70368744177664)(o:n<=9223372036854775807)(hk: ∀p C h',fy h' p n C sz ds->Fr (λ_=>False) h h'->(∀c,aP p c->h.size<=c)->K (.slice p n C) h'):
  aS h (.cells #[] t) λb f=>aV P (Builtin.append_ #[s,X] ty #[.slice (some (AA b 0)) 0 0,.slice q n cq]) f K:=by
 refine cC ?_;have f1:Fr (λ_=>False) h (h.push (.cells #[] t)):=Fr.push _ _;refine dO (cs:= []) T H (.row h.size 0 #[] t rfl bT (aZ _) bM bM (λj v k=>by cases k)) (m.frame f1 (λ_ _=>id)) hd l (cD i) ae ?_;intro p d h' o1 _ f2 g;rw[bE,dz]at o1;rw[bE];refine hk p d h' o1 (f1.step f2 (λc r ⟨a,e,e2⟩=>by cases e;simp at e2;omega)) (λx H=> ?_);rcases g x H with⟨a,e,rfl⟩|h2
 .cases e;exact aZ _
 .simp at h2;omega
end
theorem IK{α:Type}{enc:α->List Value}(a: ∀x,(enc x).length=2){xs:List α}{i:Nat}{y:α}{V v1:Value}(b:i<xs.length)(c:enc y= [V,v1]):((xs.flatMap enc).set (i*2) V).set (i*2+1) v1=(xs.set i y).flatMap enc:=by
 have d:=eO enc 2 a xs;refine KI enc 2 a xs i y b _ bM (λj H=> ?_) (λj v H h=> ?_)
 .have H:j/2≠i:=ae
  rw[di,di,cW,cW]
 .rw[c]at h
  match j,H with
  |0,_=>
   simp only[dt,bw]at h;rw[di,cW,di,fO,fO,h]
  |1,_=>
   simp only[dq,dt,bw]at h;rw[di,af rfl,af (by rw[du];omega),h]
end Go.Den
namespace Go.Proofs.YtlenamcfacpheaaGreatDoor
open Go.Den
open IntKind (wrap)
open Int (toNat)
section
namespace Cb
inductive Tr where
 |mk (k:Int) (n:Nat) (b:List UInt8) (l:List Tr)
namespace Tr
def k:Tr->Int| .mk k _ _ _=>k
def n:Tr->Nat| .mk _ n _ _=>n
def b:Tr->List UInt8| .mk _ _ b _=>b
def l:Tr->List Tr| .mk _ _ _ l=>l
end Tr
abbrev num(n:Nat):Tr:=.mk 0 n [] []
abbrev oL(b:List UInt8):Tr:=.mk 2 0 b []
abbrev qC(l:List Tr):Tr:=.mk 4 0 [] l
def GP:Tr:=.mk 0 0 [] []
mutual
def mM:Tr->Tr->Bool
 | .mk k n b l,.mk k' n' b' l'=>decide (k=k') && decide (n=n') && decide (b=b') && qD l l'
def qD:List Tr->List Tr->Bool
 | [], []=>true
 |t::ts,u::us=>mM t u && qD ts us
 |_,_=>false
end
mutual
theorem Nr: ∀(a b:Tr),mM a b=true↔a=b
 | .mk k n b l,.mk k' n' b' l'=>by
  simp only[mM,Bool.and_eq_true,decide_eq_true_eq,xt,Tr.mk.injEq,and_assoc]
theorem xt: ∀(a b:List Tr),qD a b=true↔a=b
 | [], []=>by simp[qD]
 |t::ts,u::us=>by simp only[qD,Bool.and_eq_true,Nr t u,xt ts us,List.cons.injEq]
 | [],u::us=>by simp[qD]
 |t::ts, []=>by simp[qD]
end
def KJ(V:List UInt8->Bool)(k:Int)(n:Nat)(b:List UInt8)(l:List Tr):Bool:=
 if k=0 then b.isEmpty && l.isEmpty else if k=2 then decide (n=0) && l.isEmpty else if k=3 then decide (n=0) && l.isEmpty && V b else if k=4 then decide (n=0) && b.isEmpty else false
mutual
def mg (V:List UInt8->Bool):Tr->Int->Int->Int
 | .mk k n b l,d,left=>if d>6\/left<1 then -1 else if KJ V k n b l=true then lD V l (d+1) (left - 1)else -1
def lD (V:List UInt8->Bool):List Tr->Int->Int->Int
 | [],_,left=>left
 |t::ts,d,left=>if mg V t d left<0 then -1 else lD V ts d (mg V t d left)
end
mutual
theorem C6 {V:List UInt8->Bool} : ∀ {t:Tr} {d left:Int},mg V t d left= -1\/0<=mg V t d left/\mg V t d left<left
 | .mk k n b l,d,left=>by
  unfold mg;split
  ·exact .inl rfl
  ·split
   ·rcases Ak (V:=V) (ts:=l) (d:=d+1) (left:=left - 1) ae with h|h
    ·exact .inl h
    ·exact .inr ae
   ·exact .inl rfl
theorem Ak {V:List UInt8->Bool} : ∀ {ts:List Tr} {d left:Int},0<=left->lD V ts d left= -1\/0<=lD V ts d left/\lD V ts d left<=left
 | [],d,left,hl=>by unfold lD;exact .inr ⟨hl,Int.le_refl _⟩
 |t::ts,d,left,hl=>by
  unfold lD;split
  ·exact .inl rfl
  ·rcases C6 (V:=V) (t:=t) (d:=d) (left:=left)with h1|h1
   ·omega
   ·rcases Ak (V:=V) (ts:=ts) (d:=d) (left:=mg V t d left) ae with h|h
    ·exact .inl h
    ·exact .inr ae
end
def gw(V:List UInt8->Bool)(t:Tr):Bool:=decide (mg V t 1 256≥0)
def C7(n:Nat):Nat:=if n<24 then 0 else if n<256 then 1 else if n<65536 then 2 else if n<4294967296 then 4 else 8
def wh(n:Nat):Nat:=if n<24 then n else if n<256 then 24 else if n<65536 then 25 else if n<4294967296 then 26 else 27
def OW(k n:Nat):List UInt8:=(List.range k).map λi=>UInt8.ofNat (n/2 ^ (8*(k - 1 - i)))
def KK(m:Int)(n:Nat):List UInt8:=if 0<=m/\m<=7 then UInt8.ofNat (32*m.toNat+wh n)::OW (C7 n) n else []
theorem GQ(n:Nat):C7 n<=8:=by unfold C7;repeat (first|omega|split)
theorem wT(k n:Nat):(OW k n).length=k:=by simp[OW]
theorem GR(m:Int)(n:Nat):(KK m n).length<=9:=by
 unfold KK;split
 .rw[ba,wT];have:=GQ n;omega
 .simp
def OX(l:List UInt8):Nat:=l.foldl (λv b=>v*256+b.toNat) 0
theorem C8(l:List UInt8)(b:UInt8):OX (l++ [b])=OX l*256+b.toNat:=by simp[OX]
theorem KL(l:List UInt8):OX l<256 ^ l.length:=by
 suffices h: ∀(n:Nat)(l:List UInt8),l.length=n->OX l<256 ^ n from h _ l rfl
 intro n;induction n with
 |zero=>intro l H;rw[List.length_eq_zero_iff.1 H];simp[OX]
 |succ n i=>
  intro l H;obtain⟨a,b,rfl⟩: ∃a b,l=a++ [b]:=⟨l.dropLast,l.getLast (by intro e;rw[e]at H;simp at H),(List.dropLast_concat_getLast _).symm⟩;rw[aA]at H;have:=i a (cD H);rw[C8,Nat.pow_succ];have:=b.toNat_lt;omega
def pk(m:Nat):Bool:=decide (2<=m/\m<=5)||decide (m=7)
def CJ(bs:List UInt8)(pos:Nat):Except Int (Nat×Nat×Bool×Nat):=
 match bs[pos]? with
 |none=> .error 8
 |some x=>
  if x.toNat%32<24 then .ok (x.toNat/32,x.toNat%32,false,pos+1)
  else if x.toNat%32=31/\pk (x.toNat/32)=true then .ok (x.toNat/32,0,true,pos+1)
  else if x.toNat%32>27 then .error 3
  else if pos+1+2 ^ (x.toNat%32 - 24)>bs.length then .error 8
  else .ok (x.toNat/32,OX ((bs.drop (pos+1)).take (2 ^ (x.toNat%32 - 24))),false,pos+1+2 ^ (x.toNat%32 - 24))
theorem xu{bs:List UInt8}{pos m n N:Nat}{o:Bool}(h:CJ bs pos=.ok (m,n,o,N)):pos<N/\N<=bs.length/\n<18446744073709551616/\m<8/\pos<bs.length:=by
 unfold CJ at h;split at h
 .cases h
 .rename_i x c;have b:=(aC.1 c).1;have:=x.toNat_lt;split at h
  .cases h;omega
  .split at h
   .cases h;omega
   .split at h
    .cases h
    .split at h
     .cases h
     .rename_i H d f g;cases h;have a:=KL ((bs.drop (pos+1)).take (2 ^ (x.toNat%32 - 24)));have:((bs.drop (pos+1)).take (2 ^ (x.toNat%32 - 24))).length<=8:=by
       rw[bF];have:x.toNat%32 - 24=0\/x.toNat%32 - 24=1\/x.toNat%32 - 24=2\/x.toNat%32 - 24=3:=ae
       rcases this with e|e|e|e<;>rw[e]<;>omega
      have:=fv (n:=256) ae this;have H:1<=2 ^ (x.toNat%32 - 24):=Nat.one_le_two_pow;refine⟨ae,ae,?_,ae,b⟩
      calc _<_:=a
       _<=_:=this
       _=18446744073709551616:=cM
def lE(V:List UInt8->Bool)(bs:List UInt8)(pos m n:Nat):Except Int (List UInt8):=
 if n<=bs.length - pos then(if m≠3\/V ((bs.drop pos).take n)=true then .ok ((bs.drop pos).take n)else .error 3)else .error 8
def sD(bs:List UInt8)(pos:Nat):Bool:=match bs[pos]? with|some x=>decide (x.toNat=255)|none=>false
def C9(V:List UInt8->Bool)(bs:List UInt8)(m:Nat):Nat->Nat->List UInt8->Except Int (List UInt8×Nat)
 |0,_,_=> .error 8
 |k+1,pos,a=>if sD bs pos=true then .ok (a,pos+1)else match CJ bs pos with
  | .error e=> .error e
  | .ok (M,n,o,N)=>if M=m/\o=false then(match lE V bs N M n with| .error e=> .error e| .ok w=>C9 V bs m k (N+n) (a++w))else .error 3
def Bt(V:List UInt8->Bool)(bs:List UInt8)(pos m n:Nat)(o:Bool):Except Int (List UInt8×Nat):=
 match o with
 |true=>C9 V bs m (bs.length+1) pos []
 |false=>match lE V bs pos m n with| .error e=> .error e| .ok w=> .ok (w,pos+n)
abbrev RF:=Nat->Nat->Except Int (Tr×Nat×Nat)
def vH(bs:List UInt8)(f:RF):Nat->Nat->Nat->List Tr->Except Int (List Tr×Nat×Nat)
 |0,_,_,_=> .error 8
 |k+1,pos,left,ts=>if sD bs pos=true then .ok (ts,pos+1,left)else match f pos left with
  | .error e=> .error e
  | .ok (t,n,lf)=>vH bs f k n lf (ts++ [t])
def sE(f:RF):Nat->Nat->Nat->List Tr->Except Int (List Tr×Nat×Nat)
 |0,pos,left,ts=> .ok (ts,pos,left)
 |k+1,pos,left,ts=>match f pos left with
  | .error e=> .error e
  | .ok (t,n,lf)=>sE f k n lf (ts++ [t])
def mh(bs:List UInt8)(f:RF)(pos left n:Nat)(o:Bool):Except Int (List Tr×Nat×Nat):=
 match o with
 |true=>vH bs f (bs.length+1) pos left []
 |false=>if n<=bs.length - pos then sE f n pos left []else .error 8
def gB(V : List UInt8 -> Bool)(bs : List UInt8): Nat -> RF
  | lv, pos, left => match CJ bs pos with
    | .error e => .error e
    | .ok (m, n, o, N) => if m = 0 \/ m = 2 \/ m = 3 \/ m = 4 then (match lv with
      | 0 => .error 9
      | lv + 1 => if left = 0 then .error 2 else if m = 0 then .ok (num n, N, left - 1)
        else if m = 4 then (match mh bs (gB V bs lv) N (left - 1) n o with | .error e => .error e | .ok (ts, p, lf) => .ok (qC ts, p, lf))
        else (match Bt V bs N m n o with | .error e => .error e | .ok (w, p) => .ok (.mk m 0 w [], p, left - 1))) else .error 3
def oy(V:List UInt8->Bool)(bs:List UInt8):Except Int (Tr×Nat):=match gB V bs 6 0 256 with| .error e=> .error e| .ok (t,n,_)=> .ok (t,n)
mutual
def room:Tr->Nat
 | .mk _ _ b l=>9+b.length+da l
def da:List Tr->Nat
 | []=>0
 |t::ts=>room t+da ts
end
-- WI deep an item is
mutual
def deep:Tr->Nat
 | .mk _ _ _ l=>1+GS l
def GS:List Tr->Nat
 | []=>0
 |t::ts=>max (deep t) (GS ts)
end
theorem gX{a b:List Tr}:da (a++b)=da a+da b:=by
 induction a with
 |nil=>simp[da]
 |cons t a i=>simp only[dB,da,i];omega
theorem qh{t:Tr}{l:List Tr}(h:t∈l):deep t<=GS l:=by
 induction l with
 |nil=>cases h
 |cons u l i=>
  simp only[GS];rcases bD.1 h with rfl|h
  .omega
  .have:=i h;omega
def vI(k:Int)(n:Nat)(b:List UInt8)(l:List Tr):Nat:=if k=2\/k=3 then b.length else if k=4 then l.length else n
mutual
def enc:Tr->List UInt8
 | .mk k n b l=>KK k (vI k n b l)++b++wi l
def wi:List Tr->List UInt8
 | []=> []
 |t::ts=>enc t++wi ts
end
mutual
theorem jr: ∀(t:Tr),(enc t).length<=room t
 | .mk k n b l=>by
  simp only[enc,room,List.length_append];have:=GR k (vI k n b l);have:=xw l;omega
theorem xw: ∀(l:List Tr),(wi l).length<=da l
 | []=>Nat.zero_le _
 |t::ts=>by
  simp only[wi,da,List.length_append];have:=jr t;have:=xw ts;omega
end
theorem IM(l:List Tr)(t:Tr):wi (l++ [t])=wi l++enc t:=by
 induction l with
 |nil=>simp[wi]
 |cons u l i=>simp only[dB,wi,i,cX]
theorem Ns{V:List UInt8->Bool}{bs:List UInt8}{m:Nat}: ∀(k pos:Nat)(a w:List UInt8)(n:Nat),pos<=bs.length->C9 V bs m k pos a=.ok (w,n)->w.length+pos<=a.length+n/\pos<n/\n<=bs.length:=by
 intro k;induction k with
 |zero=>intro pos a w n _ h;cases h
 |succ k i=>
  intro pos a w n f h;unfold C9 at h;split at h
  .rename_i b;cases h;unfold sD at b;split at b
   .rename_i x d;have:=(aC.1 d).1;omega
   .cases b
  .split at h
   .cases h
   .rename_i M N o g c;have e:=xu c;split at h
    .split at h
     .cases h
     .rename_i v H;unfold lE at H;split at H
      .split at H
       .cases H;have:=i _ _ _ _ ae h;rw[aA,bF,bN]at this;omega
       .cases H
      .cases H
    .cases h
def Ql(bs:List UInt8)(f:RF):Prop:= ∀pos left t n lf,pos<=bs.length->f pos left=.ok (t,n,lf)->room t<=10*(n - pos)/\pos<n/\n<=bs.length/\lf<=left
theorem KM{bs:List UInt8}{f:RF}(b:Ql bs f): ∀(k pos left:Nat)(ts u:List Tr)(n lf:Nat),pos<=bs.length->vH bs f k pos left ts=.ok (u,n,lf)->da u+10*pos<=da ts+10*n/\pos<=n/\n<=bs.length/\lf<=left:=by
 intro k;induction k with
 |zero=>intro pos left ts u n lf _ h;cases h
 |succ k i=>
  intro pos left ts u n lf d h;unfold vH at h;split at h
  .rename_i H;cases h;unfold sD at H;split at H
   .rename_i x e;have:=(aC.1 e).1;omega
   .cases H
  .split at h
   .cases h
   .rename_i t N l c;have g:=b _ _ _ _ _ d c;have a:=i _ _ _ _ _ _ ae h;rw[gX]at a;simp only[da]at a;omega
theorem KN{bs:List UInt8}{f:RF}(a:Ql bs f): ∀(k pos left:Nat)(ts u:List Tr)(n lf:Nat),pos<=bs.length->sE f k pos left ts=.ok (u,n,lf)->da u+10*pos<=da ts+10*n/\pos<=n/\n<=bs.length/\lf<=left:=by
 intro k;induction k with
 |zero=>intro pos left ts u n lf _ h;cases h;omega
 |succ k i=>
  intro pos left ts u n lf c h;unfold sE at h;split at h
  .cases h
  .rename_i t N l b;have d:=a _ _ _ _ _ c b;have H:=i _ _ _ _ _ _ ae h;rw[gX]at H;simp only[da]at H;omega
theorem Da{V:List UInt8->Bool}{bs:List UInt8}: ∀l,Ql bs (gB V bs l):=by
 intro l;induction l with
 |zero=>
  intro pos left t N lf e h;unfold gB at h;split at h
  .cases h
  .split at h<;>cases h
 |succ l i=>
  intro pos left t N lf e h;unfold gB at h;split at h
  .cases h
  .rename_i m n o c d;have f:=xu d;split at h
   .dsimp only at h;split at h
    .cases h
    .split at h
     .cases h;simp only[room,da,bt];omega
     .split at h
      .split at h
       .cases h
       .rename_i ts p L H;cases h;have:da ts+10*c<=10*N/\c<=N/\N<=bs.length/\lf<=left - 1:=by
         unfold mh at H;split at H
         .have:=KM i _ _ _ _ _ _ _ ae H;simpa[da]using this
         .split at H
          .have:=KN i _ _ _ _ _ _ _ ae H;simpa[da]using this
          .cases H
        simp only[room,bt];omega
      .split at h
       .cases h
       .rename_i w p a;cases h;have:w.length+c<=N/\c<=N/\N<=bs.length:=by
         unfold Bt at a;split at a
         .have:=Ns _ _ _ _ _ ae a;simp only[bt]at this;omega
         .split at a
          .cases a
          .rename_i v b;cases a;unfold lE at b;split at b
           .split at b
            .cases b;rw[bF,bN];omega
            .cases b
           .cases b
        simp only[room,da];omega
   .cases h
theorem Bu{bs:List UInt8}{pos:Nat}{e:Int}(h:CJ bs pos=.error e):e≠0:=by
 unfold CJ at h;repeat (first|decide|cases h|split at h)
theorem xx{V:List UInt8->Bool}{bs:List UInt8}{pos m n:Nat}{e:Int}(h:lE V bs pos m n=.error e):e≠0:=by
 unfold lE at h;repeat (first|decide|cases h|split at h)
theorem KO{V:List UInt8->Bool}{bs:List UInt8}{m:Nat}{e:Int}: ∀(k pos:Nat)(a:List UInt8),C9 V bs m k pos a=.error e->e≠0:=by
 intro k;induction k with
 |zero=>intro pos a h;cases h;decide
 |succ k i=>
  intro pos a h;unfold C9 at h;split at h
  .cases h
  .split at h
   .rename_i H;cases h;exact Bu H
   .split at h
    .split at h
     .rename_i H;cases h;exact xx H
     .exact i _ _ h
    .cases h;decide
def U5(f:RF):Prop:= ∀pos left e,f pos left=.error e->e≠0
theorem IN{bs:List UInt8}{f:RF}(a:U5 f){pos left n:Nat}{o:Bool}{e:Int}(h:mh bs f pos left n o=.error e):e≠0:=by
 have op: ∀(k pos left:Nat)(ts:List Tr),vH bs f k pos left ts=.error e->e≠0:=by
  intro k;induction k with
  |zero=>intro pos left ts h;cases h;decide
  |succ k i=>
   intro pos left ts h;unfold vH at h;split at h
   .cases h
   .split at h
    .rename_i H;cases h;exact a _ _ _ H
    .exact i _ _ _ h
 have m: ∀(k pos left:Nat)(ts:List Tr),sE f k pos left ts=.error e->e≠0:=by
  intro k;induction k with
  |zero=>intro pos left ts h;cases h
  |succ k i=>
   intro pos left ts h;unfold sE at h;split at h
   .rename_i H;cases h;exact a _ _ _ H
   .exact i _ _ _ h
 unfold mh at h;split at h
 .exact op _ _ _ _ h
 .split at h
  .exact m _ _ _ _ h
  .cases h;decide
theorem IP{V:List UInt8->Bool}{bs:List UInt8}: ∀l,U5 (gB V bs l):=by
 intro l;induction l with
 |zero=>
  intro pos left e h;unfold gB at h;split at h
  .rename_i H;cases h;exact Bu H
  .split at h<;>(cases h;decide)
 |succ l i=>
  intro pos left e h;unfold gB at h;split at h
  .rename_i H;cases h;exact Bu H
  .split at h
   .dsimp only at h;split at h
    .cases h;decide
    .split at h
     .cases h
     .split at h
      .split at h
       .rename_i H;cases h;exact IN i H
       .cases h
      .split at h
       .rename_i H;cases h;unfold Bt at H;split at H
        .exact KO _ _ _ H
        .split at H
         .rename_i a;cases H;exact xx a
         .cases H
       .cases h
   .cases h;decide
theorem qi{V:List UInt8->Bool}{bs:List UInt8}{e:Int}(h:oy V bs=.error e):e≠0:=by
 unfold oy at h;split at h
 .rename_i H;cases h;exact IP 6 _ _ _ H
 .cases h
theorem xy{V:List UInt8->Bool}{bs:List UInt8}{t:Tr}{n:Nat}(h:oy V bs=.ok (t,n)):room t<=10*bs.length/\n<=bs.length:=by
 unfold oy at h;split at h
 .cases h
 .rename_i t N lf H;cases h;have:=Da 6 _ _ _ _ _ (bP _) H;omega
end Cb
end
end Go.Proofs.YtlenamcfacpheaaGreatDoor
