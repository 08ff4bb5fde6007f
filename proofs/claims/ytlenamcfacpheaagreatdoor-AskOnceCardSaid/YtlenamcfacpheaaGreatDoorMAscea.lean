/-
  Ei is proved here: parts of xi proof, one behind xi other (texts of this work, merged by a program; GH xi theorem GI not use is left out). No condition.
-/
import Derived.OrdersHeld
import Derived.Scope
import Derived.KernelRfl
import Derived.Recover
import Derived.IntWalk
import Derived.ProofKit
import Derived.ChangeOld
import Derived.Below
import Derived.Carry
import Derived.OpenShut
set_option maxRecDepth 100000
set_option maxHeartbeats 4000000
namespace Go
section
variable {c p q r:Prop}
abbrev bZ:=Option Addr
abbrev cM:=List UInt8
abbrev fG:=Value→Array Obj→Prop
abbrev hC:ByteArray:=⟨#[]⟩
abbrev AA(b i:Nat):Addr:=⟨b,i,none⟩
abbrev Sa(b i:Nat):Option Addr:=some ⟨b,i,none⟩
abbrev Value.I(x:Int):Value:=.int .i64 x
abbrev Value.U(x:Int):Value:=.int .u64 x
abbrev Value.P(b i:Nat):Value:=.pointer (some ⟨b,i,none⟩)
abbrev Value.Z:Value:=.slice none 0 0
theorem dz{i:Decidable c}{α:Sort _}{t e:α}(h: ¬c:=by first|decide|omega|(simp only[decide_eq_true_eq];omega)):ite c t e=e:=if_neg h
theorem gh{i:Decidable c}{α:Sort _}{t e:α}(h:c:=by first|decide|omega|exact decide_eq_true (by omega)):ite c t e=t:=if_pos h
theorem cb{α:Sort _}{e:α→Sort _}{d:(a:α)→e a→Prop}: ∀a b,d a b→d a b:=λ_ _=>id
theorem ae(h:p:=by omega):p:=h
theorem dt(h:p:=by decide):p:=h
theorem bQ(h:p:=by simp):p:=h
theorem cZ(h:p:=by kernel_rfl):p:=h
theorem bR(h:q)(g:q→p:=by intro;omega):p:=g h
theorem gv(h:q)(k:r)(g:q→r→p:=by intro _ _;omega):p:=g h k
theorem sY{s:Prop}(h:q)(k:r)(l:s)(g:q→r→s→p:=by intro _ _ _;omega):p:=g h k l
theorem cH(h:q)(g:q→p:=by intro h;simpa using h):p:=g h
theorem fh:type_of% @Array.getD_eq_getD_getElem?:=@Array.getD_eq_getD_getElem?
theorem dP:type_of% @Array.getElem?_append_left:=@Array.getElem?_append_left
theorem dy:type_of% @Array.getElem?_modify:=@Array.getElem?_modify
theorem fN:type_of% @Array.getElem?_push:=@Array.getElem?_push
theorem cJ:type_of% @Array.getElem?_setIfInBounds:=@Array.getElem?_setIfInBounds
theorem dH:type_of% @Array.getElem?_toList:=@Array.getElem?_toList
theorem eR:type_of% @Array.length_toList:=@Array.length_toList
theorem du:type_of% @Array.size_push:=@Array.size_push
theorem aS:type_of% @Bool.and_eq_true:=@Bool.and_eq_true
theorem ft:type_of% @Bool.false_and:=@Bool.false_and
theorem au:type_of% @Bool.false_eq_true:=@Bool.false_eq_true
theorem eL:type_of% @Bool.not_false:=@Bool.not_false
theorem dh:type_of% @Bool.not_true:=@Bool.not_true
theorem dX:type_of% @Bool.true_and:=@Bool.true_and
theorem eU:type_of% @Iff.rfl:=@Iff.rfl
theorem e8:type_of% @Int.eq_ofNat_of_zero_le:=@Int.eq_ofNat_of_zero_le
theorem dT:type_of% @Int.le_refl:=@Int.le_refl
theorem aC:type_of% @Int.toNat_natCast:=@Int.toNat_natCast
theorem fU:type_of% @List.Pairwise.filter:=@List.Pairwise.filter
theorem fu:type_of% @List.Pairwise.sublist:=@List.Pairwise.sublist
theorem fP:type_of% @List.Sublist.map:=@List.Sublist.map
theorem cT:type_of% @List.append_assoc:=@List.append_assoc
theorem dC:type_of% @List.cons_append:=@List.cons_append
theorem da:type_of% @List.drop_eq_getElem_cons:=@List.drop_eq_getElem_cons
theorem eJ:type_of% @List.drop_of_length_le:=@List.drop_of_length_le
theorem gL:type_of% @List.drop_zero:=@List.drop_zero
theorem fK:type_of% @List.ext_getElem?:=@List.ext_getElem?
theorem fQ:type_of% @List.filter_append:=@List.filter_append
theorem ee:type_of% @List.filter_congr:=@List.filter_congr
theorem cz:type_of% @List.filter_cons:=@List.filter_cons
theorem cB:type_of% @List.filter_eq_self:=@List.filter_eq_self
theorem dN:type_of% @List.filter_map:=@List.filter_map
theorem cU:type_of% @List.filter_sublist:=@List.filter_sublist
theorem dB:type_of% @List.findIdx?_eq_none_iff:=@List.findIdx?_eq_none_iff
theorem cN:type_of% @List.findIdx?_eq_some_iff_getElem:=@List.findIdx?_eq_some_iff_getElem
theorem bY:type_of% @List.flatMap_append:=@List.flatMap_append
theorem fp:type_of% @List.flatMap_cons:=@List.flatMap_cons
theorem bh:type_of% @List.getD_eq_getElem?_getD:=@List.getD_eq_getElem?_getD
theorem dc:type_of% @List.getElem?_append_left:=@List.getElem?_append_left
theorem cY:type_of% @List.getElem?_append_right:=@List.getElem?_append_right
theorem dA:type_of% @List.getElem?_cons_succ:=@List.getElem?_cons_succ
theorem dO:type_of% @List.getElem?_cons_zero:=@List.getElem?_cons_zero
theorem fD:type_of% @List.getElem?_drop:=@List.getElem?_drop
theorem aj:type_of% @List.getElem?_eq_getElem:=@List.getElem?_eq_getElem
theorem dI:type_of% @List.getElem?_eq_none:=@List.getElem?_eq_none
theorem aB:type_of% @List.getElem?_eq_some_iff:=@List.getElem?_eq_some_iff
theorem dU:type_of% @List.getElem?_inj:=@List.getElem?_inj
theorem aF:type_of% @List.getElem?_map:=@List.getElem?_map
theorem bK:type_of% @List.getElem?_of_mem:=@List.getElem?_of_mem
theorem di:type_of% @List.getElem?_set:=@List.getElem?_set
theorem db:type_of% @List.getElem?_take:=@List.getElem?_take
theorem dQ:type_of% @List.getElem_mem:=@List.getElem_mem
theorem ar:type_of% @List.length_append:=@List.length_append
theorem aW:type_of% @List.length_cons:=@List.length_cons
theorem bX:type_of% @List.length_drop:=@List.length_drop
theorem gG:type_of% @List.length_eq_zero_iff:=@List.length_eq_zero_iff
theorem cC:type_of% @List.length_filter_le:=@List.length_filter_le
theorem aA:type_of% @List.length_map:=@List.length_map
theorem bw:type_of% @List.length_nil:=@List.length_nil
theorem dj:type_of% @List.length_set:=@List.length_set
theorem dG:type_of% @List.length_singleton:=@List.length_singleton
theorem bC:type_of% @List.length_take:=@List.length_take
theorem aV:type_of% @List.map_append:=@List.map_append
theorem dV:type_of% @List.map_congr_left:=@List.map_congr_left
theorem cj:type_of% @List.map_cons:=@List.map_cons
theorem dK:type_of% @List.map_map:=@List.map_map
theorem bz:type_of% @List.mem_append:=@List.mem_append
theorem eH:type_of% @List.mem_append_left:=@List.mem_append_left
theorem eV:type_of% @List.mem_append_right:=@List.mem_append_right
theorem bG:type_of% @List.mem_cons:=@List.mem_cons
theorem ct:type_of% @List.mem_cons_of_mem:=@List.mem_cons_of_mem
theorem df:type_of% @List.mem_cons_self:=@List.mem_cons_self
theorem ba:type_of% @List.mem_filter:=@List.mem_filter
theorem bj:type_of% @List.mem_map:=@List.mem_map
theorem bu:type_of% @List.mem_map_of_mem:=@List.mem_map_of_mem
theorem eX:type_of% @List.mem_of_find?_eq_some:=@List.mem_of_find?_eq_some
theorem aJ:type_of% @List.mem_of_getElem?:=@List.mem_of_getElem?
theorem bM:type_of% @List.mem_singleton:=@List.mem_singleton
theorem cy:type_of% @List.nil_append:=@List.nil_append
theorem eY:type_of% @List.nodup_append:=@List.nodup_append
theorem fb:type_of% @List.nodup_cons:=@List.nodup_cons
theorem dS:type_of% @List.pairwise_cons:=@List.pairwise_cons
theorem en:type_of% @List.pairwise_map:=@List.pairwise_map
theorem dY:type_of% @List.perm_append_singleton:=@List.perm_append_singleton
theorem fV:type_of% @List.range_eq_range':=@List.range_eq_range'
theorem bm:type_of% @List.take_add_one:=@List.take_add_one
theorem dZ:type_of% @List.take_length:=@List.take_length
theorem bk:type_of% @List.take_of_length_le:=@List.take_of_length_le
theorem gg:type_of% @List.take_succ_cons:=@List.take_succ_cons
theorem eM:type_of% @List.take_zero:=@List.take_zero
theorem dW:type_of% @Nat.add_mul:=@Nat.add_mul
theorem bT:type_of% @Nat.eq_of_beq_eq_true:=@Nat.eq_of_beq_eq_true
theorem bn:type_of% @Nat.le_refl:=@Nat.le_refl
theorem cD:type_of% @Nat.le_trans:=@Nat.le_trans
theorem cE:type_of% @Nat.lt_of_lt_of_le:=@Nat.lt_of_lt_of_le
theorem gp:type_of% @Nat.mod_eq_of_lt:=@Nat.mod_eq_of_lt
theorem gi:type_of% @Nat.mul_comm:=@Nat.mul_comm
theorem cQ:type_of% @Nat.mul_le_mul_right:=@Nat.mul_le_mul_right
theorem cp:type_of% @Nat.mul_one:=@Nat.mul_one
theorem fW:type_of% @Nat.pow_le_pow_right:=@Nat.pow_le_pow_right
theorem bH:type_of% @Nat.zero_add:=@Nat.zero_add
theorem br:type_of% @Nat.zero_le:=@Nat.zero_le
theorem fv:type_of% @Ne.symm:=@Ne.symm
theorem fw:type_of% @Option.isSome_iff_exists:=@Option.isSome_iff_exists
theorem dk:type_of% @Option.map_some:=@Option.map_some
theorem bp:type_of% @Option.some.inj:=@Option.some.inj
theorem bA:type_of% @Option.some.injEq:=@Option.some.injEq
theorem gC:type_of% @Prod.mk.injEq:=@Prod.mk.injEq
theorem fC:type_of% @UInt8.toNat_ofNat':=@UInt8.toNat_ofNat'
theorem dL:type_of% @beq_eq_false_iff_ne:=@beq_eq_false_iff_ne
theorem dp:type_of% @beq_iff_eq:=@beq_iff_eq
theorem ff:type_of% @beq_self_eq_true:=@beq_self_eq_true
theorem gI:type_of% @bne_eq_false_iff_eq:=@bne_eq_false_iff_eq
theorem eI:type_of% @bne_iff_ne:=@bne_iff_ne
theorem bP:type_of% @congrArg:=@congrArg
theorem aD:type_of% @decide_eq_false:=@decide_eq_false
theorem fa:type_of% @decide_eq_false_iff_not:=@decide_eq_false_iff_not
theorem aw:type_of% @decide_eq_true:=@decide_eq_true
theorem aZ:type_of% @decide_eq_true_eq:=@decide_eq_true_eq
theorem bf:type_of% @decide_false:=@decide_false
theorem bt:type_of% @decide_true:=@decide_true
theorem aM:type_of% @if_false:=@if_false
theorem af:type_of% @if_neg:=@if_neg
theorem ah:type_of% @if_pos:=@if_pos
theorem bg:type_of% @if_true:=@if_true
theorem fL:type_of% @ne_eq:=@ne_eq
theorem fR:type_of% @of_decide_eq_false:=@of_decide_eq_false
theorem aP:type_of% @of_decide_eq_true:=@of_decide_eq_true

end
end Go
namespace Go.Den
section
variable {P:Program} {F:Value->Prop} {t:TypeId}
abbrev ak:=Array Obj
abbrev Env:=Nat->Option Value
def aX(h:ak)(a:Addr):Option Value:=
 match h[a.block]? with
 |some (.cells c _ _)=>if a.spot.isSome then none else c[a.off]?
 |_=>none
def oZ(h:ak)(r:Nat):Option (TypeId×Nat):=
 match h[r]? with
 |some (.cells c elem _)=>some (elem,c.size)
 |_=>none
def o0(h:ak)(a:Addr):Bool:=
 match h[a.block]? with
 |some (.cells _ _ (l,H))=>l<=a.off && a.off<H
 |_=>false
def pd(h:ak)(a:Addr)(n:Nat):ak:=
 if n=0 then h else
 h.modify a.block fun
   | .cells c elem (l,H)=> .cells c elem (if l==H then(a.off,a.off+n)else(min l a.off,max H (a.off+n)))
   |o=>o
def oy(h:ak)(a:Addr)(v:Value):ak:=
 h.modify a.block fun
   | .cells c elem frozen=> .cells (if a.spot.isSome then c else c.setIfInBounds a.off v) elem frozen
   |o=>o
theorem ky(w:World)(a:Addr):w.cell? a=aX w.heap a:=rfl
theorem Mb(w:World)(r:Nat):w.shape? r=oZ w.heap r:=rfl
theorem rM(w:World)(a:Addr):w.frozen? a=o0 w.heap a:=rfl
theorem sZ(w:World)(a:Addr)(v:Value):(w.setCell a v).heap=oy w.heap a v:=rfl
theorem Ki(w:World)(a:Addr)(n:Nat):(w.freeze a n).heap=pd w.heap a n:=by
 unfold World.freeze pd;split<;>rfl
def fM(w w':World):Prop:=w'.os=w.os/\w'.output=w.output/\w'.tape=w.tape
theorem fM.refl(w:World):fM w w:=⟨rfl,rfl,rfl⟩
theorem fM.trans{a b c:World}(h:fM a b)(h':fM b c):fM a c:=⟨h'.1.trans h.1,h'.2.1.trans h.2.1,h'.2.2.trans h.2.2⟩
def fX:Value->Bool
 | .agg _| .tuple _=>false
 |_=>true
def aU(P:Program){α:Type}:Sem α->ak->(α->ak->Prop)->Prop
 | .pure a,h,K=>K a h
 | .load _ a k,h,K=> ∃v,aX h a=some v/\aU P (k v) h K
 | .store _ a v k,h,K=>fX v=true/\(aX h a).isSome=true/\o0 h a=false/\aU P k (oy h a v) K
 | .new o k,h,K=>aU P (k h.size) (h.push o) K
 | .shape r k,h,K=>aU P (k (oZ h r)) h K
 | .freeze a n k,h,K=>aU P k (pd h a n) K
 | .frozen a k,h,K=>aU P (k (o0 h a)) h K
 | .getObj r k,h,K=> ∃o,h[r]? =some o/\(∀c e f,o≠ .cells c e f)/\aU P (k o) h K
 | .setObj r o k,h,K=>(∃O,h[r]? =some O/\(∀c e f,O≠ .cells c e f))/\aU P k (h.setIfInBounds r o) K
 | .choose q k,h,K=>if q.forced=true then aU P (k 0) h K else∀t,aU P (k (q.cut t)) h K
 | .sys _ _,_,_=>False
 | .program k,h,K=>aU P (k P) h K
 | .mark _ k,h,K=>aU P k h K
 | .halt _,_,_=>False
theorem ke{α:Type}(s:Sem α): ∀(h:ak){K K':α->ak->Prop},(∀a h,K a h->K' a h)->aU P s h K->aU P s h K':=by
 induction s with
 |pure a=>intro h K K' hk H;exact hk _ _ H
 |load m a k i=>intro h K K' hk H;obtain⟨v,b,d⟩:=H;exact⟨v,b,i v h hk d⟩
 |store m a v k i=>intro h K K' hk H;obtain⟨b,d,e,g⟩:=H;exact⟨b,d,e,i _ hk g⟩
 |new o k i=>intro h K K' hk H;exact i _ _ hk H
 |shape r k i=>intro h K K' hk H;exact i _ _ hk H
 |freeze a n k i=>intro h K K' hk H;exact i _ hk H
 |frozen a k i=>intro h K K' hk H;exact i _ _ hk H
 |getObj r k i=>intro h K K' hk H;obtain⟨o,b,d,e⟩:=H;exact⟨o,b,d,i _ _ hk e⟩
 |setObj r o k i=>intro h K K' hk H;exact⟨H.1,i _ hk H.2⟩
 |choose q k i=>
  intro h K K' hk H;unfold aU at H⊢;split
  .rename_i f;rw[ah f]at H;exact i _ _ hk H
  .rename_i f;rw[af f]at H;exact λt=>i _ _ hk (H t)
 |sys c k i=>intro h K K' hk H;exact H
 |program k i=>intro h K K' hk H;exact i _ _ hk H
 |mark m k i=>intro h K K' hk H;exact i _ hk H
 |halt x=>intro h K K' hk H;exact H
theorem Ej{α b:Type}(s:Sem α)(f:α->Sem b): ∀(h:ak)(K:b->ak->Prop),aU P (s.bind f) h K↔aU P s h (λa h'=>aU P (f a) h' K):=by
 induction s with
 |pure a=>intro h K;exact eU
 |load m a k i=>intro h K;simp only[Sem.bind,aU,i]
 |store m a v k i=>intro h K;simp only[Sem.bind,aU,i]
 |new o k i=>intro h K;simp only[Sem.bind,aU,i]
 |shape r k i=>intro h K;simp only[Sem.bind,aU,i]
 |freeze a n k i=>intro h K;simp only[Sem.bind,aU,i]
 |frozen a k i=>intro h K;simp only[Sem.bind,aU,i]
 |getObj r k i=>intro h K;simp only[Sem.bind,aU,i]
 |setObj r o k i=>intro h K;simp only[Sem.bind,aU,i]
 |choose q k i=>intro h K;simp only[Sem.bind,aU,i]
 |sys c k i=>intro h K;simp only[Sem.bind,aU]
 |program k i=>intro h K;simp only[Sem.bind,aU,i]
 |mark m k i=>intro h K;simp only[Sem.bind,aU,i]
 |halt x=>intro h K;simp only[Sem.bind,aU]
theorem pf{α:Type}(s:Sem α): ∀(h:ak)(K:α->ak->Prop),aU P s h K->
  ∀w:World,w.heap=h->∃a w',s.run P w=.ok a w'/\K a w'.heap/\fM w w':=by
 induction s with
 |pure a=>intro h K H w b;subst b;exact⟨a,w,rfl,H,fM.refl w⟩
 |load m a k i=>
  intro h K H w b;subst b;obtain⟨v,d,e⟩:=H;obtain⟨x,w',r1,r2⟩:=i v _ _ e w rfl;exact⟨x,w',by simp[Sem.run,ky,d,r1],r2⟩
 |store m a v k i=>
  intro h K H w b;subst b;obtain⟨d,e,f,l⟩:=H;obtain⟨u,j⟩:=fw.1 e;obtain⟨x,w',r1,r2,R⟩:=i _ _ l (w.setCell a v) (sZ w a v);refine⟨x,w',?_,r2,R⟩;rw[<-ky]at j;rw[<-rM]at f;cases v<;>simp[fX]at d<;>simp[Sem.run,j,f,r1]
 |new o k i=>
  intro h K H w b;subst b;obtain⟨x,w',r1,r2,R⟩:=i _ _ _ H { w with heap:=w.heap.push o } rfl;exact⟨x,w',r1,r2,R⟩
 |shape r k i=>
  intro h K H w b;subst b;obtain⟨x,w',r1,r2⟩:=i _ _ _ H w rfl;exact⟨x,w',by rw[<-Mb]at r1;simp[Sem.run,r1],r2⟩
 |freeze a n k i=>
  intro h K H w b;subst b;obtain⟨x,w',r1,r2,R⟩:=i _ _ H (w.freeze a n) (Ki w a n);refine⟨x,w',by simp[Sem.run,r1],r2,?_⟩;refine fM.trans ?_ R;unfold World.freeze;split<;>exact⟨rfl,rfl,rfl⟩
 |frozen a k i=>
  intro h K H w b;subst b;obtain⟨x,w',r1,r2⟩:=i _ _ _ H w rfl;exact⟨x,w',by rw[<-rM]at r1;simp[Sem.run,r1],r2⟩
 |getObj r k i=>
  intro h K H w b;subst b;obtain⟨o,d,e,f⟩:=H;obtain⟨x,w',r1,r2⟩:=i _ _ _ f w rfl;refine⟨x,w',?_,r2⟩;cases o<;>first|exact absurd rfl (e _ _ _)|simp[Sem.run,d,r1]
 |setObj r o k i=>
  intro h K H w b;subst b;obtain⟨⟨O,d,e⟩,f⟩:=H;obtain⟨x,w',r1,r2,R⟩:=i _ _ f { w with heap:=w.heap.setIfInBounds r o } rfl;refine⟨x,w',?_,r2,R⟩;cases O<;>first|exact absurd rfl (e _ _ _)|simp[Sem.run,d,r1]
 |choose q k i=>
  intro h K H w b;subst b;unfold aU at H;split at H
  .rename_i g;obtain⟨x,w',r1,r2⟩:=i _ _ _ H w rfl;exact⟨x,w',by simp[Sem.run,g,r1],r2⟩
  .rename_i g;obtain⟨x,w',r1,r2,R⟩:=i _ _ _ (H (w.tape w.drawn q)) { w with drawn:=w.drawn+1 } rfl;exact⟨x,w',by simp only[Sem.run,af g];exact r1,r2,R⟩
 |sys c k i=>intro h K H;exact H.elim
 |program k i=>
  intro h K H w b;subst b;obtain⟨x,w',r1,r2⟩:=i _ _ _ H w rfl;exact⟨x,w',by simp[Sem.run,r1],r2⟩
 |mark m k i=>
  intro h K H w b;subst b;obtain⟨x,w',r1,r2⟩:=i _ _ H w rfl;exact⟨x,w',by simp[Sem.run,r1],r2⟩
 |halt x=>intro h K H;exact H.elim
def rd(P:Program){α:Type}:Sem α->ak->Option α
 | .pure a,_=>some a
 | .load _ a k,h=>(match aX h a with|some v=>rd P (k v) h|none=>none)
 | .shape r k,h=>rd P (k (oZ h r)) h
 | .frozen a k,h=>rd P (k (o0 h a)) h
 | .getObj r k,h=>(match h[r]? with|some (.cells _ _ _)=>none|some o=>rd P (k o) h|none=>none)
 | .program k,h=>rd P (k P) h
 | .mark _ k,h=>rd P k h
 |_,_=>none
theorem Mc{α:Type}(s:Sem α): ∀(h:ak)(a:α),rd P s h=some a->∀K:α->ak->Prop,K a h->aU P s h K:=by
 induction s with
 |pure b=>intro h a e K hk;simp only[rd,bA]at e;subst e;exact hk
 |load m b k i=>
  intro h a e K hk;simp only[rd]at e;split at e
  .rename_i v j;exact⟨v,j,i v h a e K hk⟩
  .cases e
 |shape r k i=>intro h a e K hk;exact i _ h a e K hk
 |frozen b k i=>intro h a e K hk;exact i _ h a e K hk
 |getObj r k i=>
  intro h a e K hk;simp only[rd]at e;split at e
  .cases e
  .rename_i o d g;exact⟨o,g,λc e f H=>d c e f (H▸rfl),i _ h a e K hk⟩
  .cases e
 |program k i=>intro h a e K hk;exact i _ h a e K hk
 |mark m k i=>intro h a e K hk;exact i h a e K hk
 |_=>intro h a e;simp[rd]at e
theorem qk{α:Type}(s:Sem α): ∀(w:World)(a:α),rd P s w.heap=some a->s.run P w=.ok a w:=by
 induction s with
 |pure b=>intro w a e;simp only[rd,bA]at e;subst e;rfl
 |load m b k i=>
  intro w a e;simp only[rd]at e;split at e
  .rename_i v h;rw[<-ky]at h;simp only[Sem.run,h];exact i v w a e
  .cases e
 |shape r k i=>intro w a e;exact i _ w a e
 |frozen b k i=>intro w a e;exact i _ w a e
 |getObj r k i=>
  intro w a e;simp only[rd]at e;split at e
  .cases e
  .rename_i o H c;cases o<;>first|exact absurd rfl (H _ _ _)|(simp only[Sem.run,c];exact i _ w a e)
  .cases e
 |program k i=>intro w a e;exact i _ w a e
 |mark m k i=>intro w a e;exact i w a e
 |_=>intro w a e;simp[rd]at e
theorem bE{α g:Type}(s:Sem α)(f:α->Sem g): ∀(h:ak)(a:α),rd P s h=some a->rd P (s>>=f) h=rd P (f a) h:=by
 show∀(h:ak)(a:α),rd P s h=some a->rd P (s.bind f) h=rd P (f a) h;induction s with
 |pure b=>intro h a e;simp only[rd,bA]at e;subst e;rfl
 |load m b k i=>
  intro h a e;simp only[rd]at e;split at e
  .rename_i v d;simp only[Sem.bind,rd,d];exact i v h a e
  .cases e
 |shape r k i=>intro h a e;exact i _ h a e
 |frozen b k i=>intro h a e;exact i _ h a e
 |getObj r k i=>
  intro h a e;simp only[rd]at e;split at e
  .cases e
  .rename_i o H c;cases o<;>first|exact absurd rfl (H _ _ _)|(simp only[Sem.bind,rd,c];exact i _ h a e)
  .cases e
 |program k i=>intro h a e;exact i _ h a e
 |mark m k i=>intro h a e;exact i h a e
 |_=>intro h a e;simp[rd]at e
def mE(P:Program)(f:FuncId)(args:Array Value)(h:ak)(R:fG):Prop:=
 ∀w:World,w.heap=h->Calls P f args w (λe w'=> ∃v,e=.returned v/\R v w'.heap/\fM w w')
theorem mE.mono{f:FuncId}{args:Array Value}{h:ak}{R r:fG}(b:mE P f args h R)(c: ∀v h',R v h'->r v h'):mE P f args h r:=
 λw e=>(b w e).mono λ_ _ ⟨v,a,H,d⟩=>⟨v,a,c _ _ H,d⟩
def Tg(P:Program)(K:fG):Next->ak->Prop
 | .value v,h=>K v h
 | .skip,h=>K undef h
 | .enter f args,h=>mE P f args h K
 |_,_=>False
def qm(P:Program)(o:Oper)(a:Operand->Value)(h:ak)(K:fG):Prop:=
 aU P (execOp a o) h (Tg P K)
theorem qm.wp{o:Oper}{a:Act}{w:World}{K:fG}{next:Act->World->Prop}{Q:Exit->Act->World->Prop}(b:qm P o a.eval w.heap K)(h: ∀v w',K v w'.heap->fM w w'->next (a.put o.dst v) w'):o.wp P a w next Q:=by
 obtain⟨x,w',r1,r2,r⟩:=pf _ _ _ b w rfl;unfold Oper.wp;rw[r1];cases x with
 |value v=>exact h _ _ r2 r
 |skip=>exact h _ _ r2 r
 |enter f args=>
  refine(r2 w' rfl).mono ?_;rintro e W ⟨v,rfl,H,c⟩;exact h _ _ H (r.trans c)
 |_=>exact r2.elim
inductive gJ where
 |int (k:IntKind)
 |bool
 |str
 |ptr
 |slice
 |map
 |raw
inductive Sh where
 |one (l:gJ)
 |agg (ls:List gJ)
def gJ.ex:gJ->(Value->Prop)->Prop
 | .int k,F=> ∃n:Int,F (.int k n)
 | .bool,F=> ∃b:Bool,F (.bool b)
 | .str,F=> ∃s:ByteArray,F (.string s)
 | .ptr,F=> ∃p:bZ,F (.pointer p)
 | .slice,F=> ∃(p:bZ)(l c:Nat),F (.slice p l c)
 | .map,F=> ∃m:Option Nat,F (.map m)
 | .raw,F=> ∃v:Value,F v
def Vr:List gJ->(List Value->Prop)->Prop
 | [],F=>F []
 |l::ls,F=>l.ex λv=>Vr ls λvs=>F (v::vs)
def Sh.ex:Sh->(Value->Prop)->Prop
 | .one l,F=>l.ex F
 | .agg ls,F=>Vr ls λvs=>F (.agg vs.toArray)
def Md:List Sh->(List Value->Prop)->Prop
 | [],F=>F []
 |s::S,F=>s.ex λv=>Md S λvs=>F (v::vs)
theorem gJ.mf{l:gJ}(h:l.ex F): ∃v,F v:=by
 cases l<;>simp only[gJ.ex]at h
 all_goals first
  |(obtain⟨a,b,c,h⟩:=h;exact⟨_,h⟩)
  |(obtain⟨a,h⟩:=h;exact⟨_,h⟩)
theorem Ek: ∀{ls:List gJ}{F:List Value->Prop},Vr ls F->∃vs,vs.length=ls.length/\F vs
 | [],_,h=>⟨[],rfl,h⟩
 |_::_,_,h=>by
  obtain⟨v,h⟩:=gJ.mf h;obtain⟨vs,H,h⟩:=Ek h;exact⟨v::vs,by simp[H],h⟩
theorem Sh.mf{s:Sh}(h:s.ex F): ∃v,F v:=by
 cases s with
 |one l=>exact gJ.mf h
 |agg ls=>obtain⟨vs,_,h⟩:=Ek h;exact⟨_,h⟩
theorem yO: ∀{ls:List Sh}{F:List Value->Prop},Md ls F->∃vs,F vs
 | [],_,h=>⟨[],h⟩
 |_::_,_,h=>by
  obtain⟨v,h⟩:=Sh.mf h;obtain⟨vs,h⟩:=yO h;exact⟨v::vs,h⟩
def vS(P:Program)(t:TypeId):Option gJ:=
 match P.underlying t with
 |some .bool=>some .bool
 |some (.int k)=>some (.int k)
 |some .string=>some .str
 |some (.pointer _)=>some .ptr
 |some (.slice _)=>some .slice
 |some (.map _ _)=>some .map
 |some (.struct _)=>none
 |some (.array _ _)=>none
 |some (.tuple _)=>none
 |some _=>some .raw
 |none=>none
def uE(P:Program):Nat->TypeId->Option (List gJ)
 |0,_=>none
 |n+1,t=>
  match P.underlying t with
  |some (.struct fs)=>fs.toList.foldr (λf A=>match uE P n f.type,A with|some a,some b=>some (a++b)|_,_=>none) (some [])
  |some (.array m e)=>(uE P n e).map λl=>(List.replicate m l).flatten
  |_=>(vS P t).map ([·])
def yP(P:Program)(t:TypeId):Bool:=
 match P.underlying t with
 |some (.struct _)=>true
 |some (.array _ _)=>true
 |_=>false
def Th(P:Program)(t:TypeId):Option Sh:=
 match yP P t with
 |true=>(uE P 20 t).map .agg
 |false=>(vS P t).map .one
def Rj(P:Program):List TypeId->Option (List Sh)
 | []=>some []
 |t::ts=>match Th P t,Rj P ts with
  |some s,some S=>some (s::S)
  |_,_=>none
def sN(P:Program)(t:TypeId)(F:Value->Prop):Prop:=
 match P.underlying t with
 |some (.tuple ts)=>(match Rj P ts.toList with|some l=>Md l λvs=>F (.tuple vs.toArray)|none=>False)
 |_=>(match Th P t with|some s=>s.ex F|none=>False)
theorem yQ(h:sN P t F): ∃v,F v:=by
 unfold sN at h;split at h
 .split at h
  .obtain⟨_,h⟩:=yO h;exact⟨_,h⟩
  .exact h.elim
 .split at h
  .exact Sh.mf h
  .exact h.elim
theorem yR{v:Value}{K:Value->Prop}(h:sN P t λV=>v=V/\K V):K v:=by
 obtain⟨V,rfl,h⟩:=yQ h;exact h
def aO{α:Type}(p:Option α)(F:α->Prop):Prop:=
 match p with
 |some a=>F a
 |none=>False
theorem cA{α:Type}{p:Option α}{F:α->Prop}:aO p F↔ ∃a,p=some a/\F a:=by
 cases p<;>simp[aO]
@[simp] theorem az{α:Type}{a:α}{F:α->Prop}:aO (some a) F↔F a:=eU
def Env.set(σ:Env)(d:Nat)(v:Value):Env:=λt=>bif Nat.beq t d then some v else σ t
def Env.ev(σ:Env):Operand->Option Value
 | .tmp t=>σ t
 | .const v=>some v
 | .global g=>some (.pointer (some ⟨g,0,none⟩))
 | .func f=>some (.func (.func f) #[] #[])
def Env.xj(σ:Env):Operand->Value:=λx=>(σ.ev x).getD undef
def RT(σ:Env)(o:Oper):Bool:=o.op.operands.toList.all λx=>(σ.ev x).isSome
def Fits(σ:Env)(a:Operand->Value):Prop:= ∀x v,σ.ev x=some v->a x=v
def kz(P:Program){α:Type}:Sem α->Option α
 | .pure a=>some a
 | .program k=>kz P (k P)
 | .mark _ k=>kz P k
 |_=>none
theorem El{α:Type}(s:Sem α): ∀(a:α),kz P s=some a->∀(h:ak)(K:α->ak->Prop),K a h->aU P s h K:=by
 induction s with
 |pure b=>intro a e h K hk;simp only[kz,bA]at e;subst e;exact hk
 |program k i=>intro a e h K hk;exact i P a e h K hk
 |mark m k i=>intro a e h K hk;exact i a e h K hk
 |_=>intro a e;simp[kz]at e
theorem te{α:Type}(s:Sem α): ∀(a:α),kz P s=some a->∀(h:ak),rd P s h=some a:=by
 induction s with
 |pure b=>intro a e h;exact e
 |program k i=>intro a e h;exact i P a e h
 |mark m k i=>intro a e h;exact i a e h
 |_=>intro a e;simp[kz]at e
def vT(P:Program){α:Type}:Sem α->Option (Obj×(Nat->Sem α))
 | .new o k=>some (o,k)
 | .program k=>vT P (k P)
 | .mark _ k=>vT P k
 |_=>none
theorem GJ{α:Type}(s:Sem α): ∀(o:Obj)(f:Nat->Sem α),vT P s=some (o,f)->∀(h:ak)(K:α->ak->Prop),aU P (f h.size) (h.push o) K->aU P s h K:=by
 induction s with
 |new b k i=>intro o f e h K hk;simp only[vT,bA,gC]at e;obtain⟨rfl,rfl⟩:=e;exact hk
 |program k i=>intro o f e h K hk;exact i P o f e h K hk
 |mark m k i=>intro o f e h K hk;exact i o f e h K hk
 |_=>intro o f e;simp[vT]at e
theorem Em{σ:Env}{a:Operand->Value}(c:Fits σ a)(o:Oper)(hd:RT σ o=true)(d: ∀cs b,o.op≠ .select cs b):execOp σ.xj o=execOp a o:=by
 refine execOp_congr o d λx e=> ?_
 have H:=List.all_eq_true.1 hd x (by simpa using e);obtain⟨v,h⟩:=fw.1 H;rw[c x v h];simp[Env.xj,h]
def aT(h:ak)(o:Obj)(K:Nat->ak->Prop):Prop:= ∀b h',b=h.size->h'=h.push o->K b h'
def aQ(h:ak)(a:Addr)(v:Value)(K:ak->Prop):Prop:=
 (aX h a).isSome=true/\o0 h a=false/\∀h',h'=oy h a v->K h'
def eu(a:Addr):List Value->Nat->ak->(ak->Prop)->Prop
 | [],_,h,K=>K h
 |v::vs,i,h,K=>(match fX v with|true=>aQ h (a.add i) v λh'=>eu a vs (i+1) h' K|false=>False)
def Me(h:ak)(a:Addr):List gJ->Nat->(List Value->Prop)->Prop
 | [],_,F=>F []
 |l::ls,i,F=>l.ex λv=>aX h (a.add i)=some v/\Me h a ls (i+1) λvs=>F (v::vs)
def dM(a:Addr):List Value->Nat->ak->Prop
 | [],_,_=>True
 |v::vs,i,h=>aX h (a.add i)=some v/\dM a vs (i+1) h
def rN(P:Program)(t:TypeId)(h:ak)(a:Addr)(K:Value->Option (ak->Prop)->Prop):Prop:=
 match yP P t with
 |true=>(match uE P 20 t,P.info? t with
  |some ls,some i=>(match Nat.beq i.size ls.length with
   |true=>Me h a ls 0 λvs=>K (.agg vs.toArray) (some (dM a vs 0))
   |false=>False)
  |_,_=>False)
 |false=>(match vS P t with
  |some l=>l.ex λv=>aX h a=some v/\K v (some λh'=>aX h' a=some v)
  |none=>False)
def qo(P:Program)(t:TypeId)(u v:Value):Option Bool:=
 match v with
 | .pointer none=>(match u,P.underlying t with| .pointer p,some (.pointer _)=>some p.isNone|_,_=>none)
 | .map none=>(match u,P.underlying t with| .map m,some (.map _ _)=>some m.isNone|_,_=>none)
 | .slice none _ _=>(match u,P.underlying t with| .slice p _ _,some (.slice _)=>some p.isNone|_,_=>none)
 |_=>none
def qp(P:Program)(o:Oper)(σ:Env)(K:Value->Option (ak->Prop)->Prop):Prop:=
 match RT σ o with
 |true=>(match kz P (execOp σ.xj o)with|some (.value v)=>K v none|_=>False)
 |false=>False
def yD(P:Program)(t:TypeId)(u v:Value)(b:Bool):Prop:= ∀h,rd P (Op.equal t u v) h=some b
def GK(o:Oper):Bool:=
 match o.op with
 | .binOp _ _ _ (.const _) _=>true
 |_=>false
def vU(P:Program)(o:Oper)(t:TypeId)(u v:Value):Bool:=
 match v with
 | .nilIface=>GK o
 | .agg _=>(match u with| .agg _=> !P.eqGuardType P.depth t|_=>false)
 | .pointer _=>(match u with| .pointer _=> !GK o|_=>false)
 |_=>false
def GL(P:Program)(o:Oper)(op:BinOp)(t:TypeId)(u v:Value)(σ:Env)(K:Value->Option (ak->Prop)->Prop):Prop:=
 match op with
 | .eql=>(match vU P o t u v with
  |true=> ∃b:Bool,yD P t u v b/\K (.bool b) none
  |false=>(match qo P t u v with|some b=>K (.bool b) none|none=>qp P o σ K))
 | .neq=>(match vU P o t u v with
  |true=> ∃b:Bool,yD P t u v b/\K (.bool (!b)) none
  |false=>(match qo P t u v with|some b=>K (.bool (!b)) none|none=>qp P o σ K))
 | .quo=>(match u,v with
  | .int k a,.int k' b=>(match decide (k=k')with|true=>if b=0 then False else K (.int k (k.wrap (a.tdiv b))) none|false=>False)
  |_,_=>False)
 | .rem=>(match u,v with
  | .int k a,.int k' b=>(match decide (k=k')with|true=>if b=0 then False else K (.int k (a.tmod b)) none|false=>False)
  |_,_=>False)
 | .shl=>(match u,v with
  | .int k a,.int _ b=>if b<0 then False else K (.int k (k.wrap (a*2 ^ min b.toNat k.bits))) none
  |_,_=>False)
 | .shr=>(match u,v with
  | .int k a,.int _ b=>if b<0 then False else K (.int k (a.fdiv (2 ^ min b.toNat k.bits))) none
  |_,_=>False)
 | .add=>(match u,v with
  | .string a,.string b=>((a.size+b.size:Nat):Int)<=IntKind.i64.max/\K (.string (a++b)) none
  |_,_=>qp P o σ K)
 |_=>qp P o σ K
def Eo(P:Program)(s:TypeId)(f:Nat):Option Nat:=
 match P.underlying s with
 |some (.struct fs)=>(match fs[f]? with
  |some fl=>(match P.info? fl.type with|some i=>(match Nat.beq i.size 0 with|true=>none|false=>some fl.offset)|none=>none)
  |none=>none)
 |_=>none
def GM(n:Int):List Value->Nat->(Value->Prop)->Prop
 | [],_,_=>True
 |v::vs,i,F=>(n=(i:Int)->F v)/\GM n vs (i+1) F
def tf(σ:Env):Option Operand->Option (Option Int)
 |none=>some none
 |some x=>match σ.ev x with
  |some (.int _ n)=>some (some n)
  |_=>none
def CS(len cap:Nat):Option Int->Option Int->(Nat->Nat->Prop)->Prop
 |none,none,F=>F 0 len
 |none,some b,F=>(0<=b/\b<=(cap:Int))/\F 0 b.toNat
 |some a,none,F=>(0<=a/\a<=(len:Int))/\F a.toNat len
 |some a,some b,F=>(0<=b/\b<=(cap:Int))/\(0<=a/\a<=b)/\F a.toNat b.toNat
def cR(p:bZ)(m l size:Nat):bZ:=if m=l then p else p.map (·.add (l*size))
def kA(m:Value)(h h':ak):Prop:=
 match m with
 | .map (some r)=>h'[r]? =h[r]?
 |_=>True
def ig(P:Program)(t:TypeId)(m k:Value)(ok:Bool)(h:ak)(v:Value):Prop:=
 ∀h',kA m h h'->rd P (Instr.lookup t m k ok) h'=some v
def O8(P:Program)(T:Array TypeId)(ty:TypeId)(m:Value)(h:ak)(v:Value):Prop:=
 ∀h',kA m h h'->rd P (Builtin.len_ T ty #[m]) h'=some v
def qq(P:Program)(s d:TypeId)(v:Value)(h:ak)(b:ByteArray):Prop:=rd P (convert s d v) h=some (.string b)
def RU:Value->Bool
 | .map _=>true
 |_=>false
def ny(P:Program)(o:Oper)(σ:Env)(h:ak)(K:Value->Option (ak->Prop)->Prop):Prop:=
 match o.op with
 | .pick c a b=>(match σ.ev c,σ.ev a,σ.ev b with
  |some (.bool q),some V,some j=>if q=true then K V none else K j none
  |_,_,_=>False)
 | .load t x=>(match σ.ev x with
  |some (.pointer p)=>aO p λa=>rN P t h a K
  |_=>False)
 | .nilCheck x=>(match σ.ev x with
  |some (.pointer p)=>aO p λa=>K (.pointer (some a)) none
  |_=>qp P o σ K)
 | .binOp op t x y _=>(match σ.ev x,σ.ev y with
  |some u,some v=>GL P o op t u v σ K
  |_,_=>False)
 | .fieldAddr s x f=>(match σ.ev x,Eo P s f with
  |some (.pointer p),some off=>aO p λa=>K (.pointer (some (a.add off))) none
  |_,_=>False)
 | .indexAddr t x i=>(match P.underlying t,σ.ev x,σ.ev i with
  |some (.slice e),some (.slice B len _),some (.int _ n)=>(match P.info? e with
   |some i=>(0<=n/\n<(len:Int))/\aO B λa=>K (.pointer (some (a.add (n.toNat*i.size)))) none
   |none=>False)
  |some (.array len e),some (.pointer B),some (.int _ n)=>(match P.info? e with
   |some i=>(0<=n/\n<(len:Int))/\aO B λa=>K (.pointer (some (a.add (n.toNat*i.size)))) none
   |none=>False)
  |_,_,_=>False)
 | .index t x i=>(match P.underlying t,σ.ev x,σ.ev i with
  |some .string,some (.string s),some (.int _ n)=>(0<=n/\n<(s.size:Int))/\K (.int .u8 (s.data.toList.getD n.toNat 0).toNat) none
  |some (.array len e),some (.agg cs),some (.int _ n)=>(match vS P e,P.info? e,Nat.beq len cs.toList.length with
   |some _,some i,true=>(match Nat.beq i.size 1 with
    |true=>(0<=n/\n<(len:Int))/\GM n cs.toList 0 λv=>K v none
    |false=>False)
   |_,_,_=>False)
  |_,_,_=>False)
 | .slice t x L g mx=>(match mx,P.underlying t,σ.ev x,tf σ L,tf σ g with
  |none,some (.slice e),some (.slice p len cap),some l,some H=>(match P.info? e with
   |some i=>CS len cap l H λa b=>K (.slice (cR p cap a i.size) (b - a) (cap - a)) none
   |none=>False)
  |none,some .string,some (.string s),some l,some H=>CS s.size s.size l H λa b=>K (.string (s.extract a b)) none
  |none,some (.array n e),some (.pointer p),some l,some H=>(match P.info? e with
   |some i=>aO p λA=>CS n n l H λa b=>K (.slice (cR (some A) n a i.size) (b - a) (n - a)) none
   |none=>False)
  |some M,some (.slice e),some (.slice p _ cap),some none,some (some b)=>(match σ.ev M,P.info? e with
   |some (.int _ m),some i=>(0<=m/\m<=(cap:Int))/\(0<=b/\b<=m)/\K (.slice (cR p m.toNat 0 i.size) b.toNat m.toNat) none
   |_,_=>False)
  |_,_,_,_,_=>False)
 | .lookup t x i ok=>(match σ.ev x,σ.ev i with
  |some m,some k=>sN P o.type λv=>ig P t m k ok h v/\K v (some (kA m h))
  |_,_=>False)
 | .call { callee:=.builtin .len,args:=args,argTypes:=T } =>(match args.toList with
  | [x]=>(match σ.ev x with
   |some m=>(match RU m with
    |true=> ∃n:Int,O8 P T o.type m h (.int .i64 n)/\K (.int .i64 n) (some (kA m h))
    |false=>qp P o σ K)
   |none=>False)
  |_=>False)
 | .convert s d x=>(match P.underlying d with
  |some .string=>(match σ.ev x with
   |some v=> ∃b:ByteArray,qq P s d v h b/\K (.string b) (some λh'=>qq P s d v h' b)
   |none=>False)
  |_=>qp P o σ K)
 | .select _ _=>False
 |_=>qp P o σ K
def lT(P:Program)(o:Oper):Bool:=
 match o.op with
 | .move _| .assign _| .pick .. | .load .. | .nilCheck _| .binOp .. | .unOp .. | .makeInterface .. | .makeFunc .. | .slice .. | .fieldAddr .. | .field .. | .indexAddr .. | .index .. | .lookup .. | .extract .. | .build .. =>true
 | .convert _ d _=>(match P.underlying d with|some (.int _)=>true|some .string=>true|_=>false)
 | .call { callee:=.builtin b,.. } =>(match b with| .len| .cap| .min| .max=>true|_=>false)
 |_=>false
def pg(P:Program)(g:FuncId):Bool:=
 match P.funcs[g]? with
 |some f=>f.body.isSome && !(f.name== "runtime.NumGoroutine")
 |none=>false
def O3(σ:Env):List Operand->Option (List Value)
 | []=>some []
 |x::xs=>match σ.ev x,O3 σ xs with
  |some v,some vs=>some (v::vs)
  |_,_=>none
def yS(b:Builtin)(T:Array TypeId)(ty:TypeId)(vs:Array Value):Option (Sem Value):=
 match b with
 | .append=>some (Builtin.append_ T ty vs)
 | .copy=>some (Builtin.copy_ T ty vs)
 | .delete=>some (Builtin.delete_ T ty vs)
 | .clear=>some (Builtin.clear_ T ty vs)
 |_=>none
def Kj(P:Program)(o:Oper)(σ:Env)(h:ak)(K:fG):Prop:=
 match RT σ o with
 |true=>(match vT P (execOp σ.xj o)with
  |some (O,k)=>aT h O λb h'=>(match kz P (k b)with|some (.value v)=>K v h'|_=>False)
  |none=>False)
 |false=>False
def ph(P:Program)(o:Oper)(σ:Env)(h:ak)(K:fG):Prop:=
 match o.op with
 | .alloc _=>Kj P o σ h K
 | .box _ _=>Kj P o σ h K
 | .buildSlice _ _ _=>Kj P o σ h K
 | .makeMap _ _=>Kj P o σ h K
 | .store t x y=>(match σ.ev x,σ.ev y with
  |some (.pointer p),some v=>aO p λa=>(match P.info? t with
   |some i=>(match Nat.beq i.size v.cells.toList.length with|true=>eu a v.cells.toList 0 h (K undef)|false=>False)
   |none=>False)
  |_,_=>False)
 | .mapUpdate t m k x=>(match σ.ev m,σ.ev k,σ.ev x with
  |some m,some k,some x=>aU P (Instr.mapUpdate t m k x) h λ_ h'=>K undef h'
  |_,_,_=>False)
 | .insert t m k x=>(match σ.ev m,σ.ev k,σ.ev x with
  |some m,some k,some x=>aU P (Instr.mapUpdate t m k x) h λ_ h'=>K undef h'
  |_,_,_=>False)
 | .makeSlice t l c=>(match σ.ev l,σ.ev c with
  |some l,some c=>aU P (Instr.makeSlice t l c) h λv h'=>sN P o.type λV=>v=V/\K V h'
  |_,_=>False)
 | .convert s d x=>(match σ.ev x with
  |some x=>aU P (convert s d x) h λv h'=>sN P o.type λV=>v=V/\K V h'
  |none=>False)
 | .call { callee:=.builtin b,args:=args,argTypes:=T } =>(match O3 σ args.toList with
  |some vs=>(match yS b T o.type vs.toArray with
   |some s=>aU P s h λv h'=>sN P o.type λV=>v=V/\K V h'
   |none=>False)
  |none=>False)
 | .call { callee:=.value f,args:=args,argTypes:=_ } =>(match σ.ev f,O3 σ args.toList with
  |some (.func (.func g) first C),some vs=>(match pg P g with
   |true=>mE P g (first.toList++vs++C.toList).toArray h λv h'=>sN P o.type λV=>v=V/\K V h'
   |false=>False)
  |_,_=>False)
 | .range t x=>(match σ.ev x with
  |some x=>aU P (Instr.range t x) h λv h'=> ∃r:Nat,v=.pointer (some ⟨r,0,none⟩)/\K (.pointer (some ⟨r,0,none⟩)) h'
  |none=>False)
 | .next it b=>(match σ.ev it with
  |some it=>aU P (Instr.next it b o.type) h λv h'=>(v=.tuple #[.bool false]/\K (.tuple #[.bool false]) h')\/∃k x:Value,v=.tuple #[.bool true,k,x]/\K (.tuple #[.bool true,k,x]) h'
  |none=>False)
 | .entry it=>(match σ.ev it with
  |some it=>aU P (Instr.entry it) h λv h'=> ∃k x:Value,v=.tuple #[k,x]/\K (.tuple #[k,x]) h'
  |none=>False)
 |_=>False

end
section
variable {P : Program} {h : ak}
theorem yT{α:Type}(a:α)(K:α->ak->Prop):aU P (pure a:Sem α) h K↔K a h:=eU
theorem dR{α b:Type}(s:Sem α)(f:α->Sem b)(K:b->ak->Prop):aU P (s>>=f) h K↔aU P s h (λa h'=>aU P (f a) h' K):=Ej s f h K
theorem Mf{t:TypeId}{d:TypeDesc}(hd:P.underlying t=some d)(K:TypeDesc->ak->Prop):aU P (underlying t) h K↔K d h:=by
 unfold underlying;rw[dR];show aU P (match P.underlying t with|some d=>pure d|none=>stuck "no such type") h K↔_;rw[hd];exact eU
theorem CT{t:TypeId}{i:TypeInfo}(H:P.info? t=some i)(K:TypeInfo->ak->Prop):aU P (typeInfo t) h K↔K i h:=by
 unfold typeInfo;rw[dR];show aU P (match P.info? t with|some d=>pure d|none=>stuck "no such type") h K↔_;rw[H];exact eU
theorem GN{t:TypeId}{i:TypeInfo}(H:P.info? t=some i)(K:Nat->ak->Prop):aU P (sizeOf t) h K↔K i.size h:=by
 unfold sizeOf;rw[dR,CT H];exact eU
theorem jw{α:Type}(a:α):rd P (pure a:Sem α) h=some a:=rfl
theorem bJ{t:TypeId}{d:TypeDesc}(hd:P.underlying t=some d):rd P (underlying t) h=some d:=by
 show rd P (match P.underlying t with|some d=>pure d|none=>stuck "no such type") h=_;rw[hd];rfl
theorem hT{t:TypeId}{i:TypeInfo}(H:P.info? t=some i):rd P (typeInfo t) h=some i:=by
 show rd P (match P.info? t with|some d=>pure d|none=>stuck "no such type") h=_;rw[H];rfl
theorem hY{t:TypeId}{i:TypeInfo}(H:P.info? t=some i):rd P (sizeOf t) h=some i.size:=by
 unfold sizeOf;rw[bE _ _ _ _ (hT H)];rfl
theorem Ep{t:TypeId}(H:yP P t=true): ∃d,P.underlying t=some d/\((∃fs,d=.struct fs)\/∃n e,d=.array n e):=by
 unfold yP at H;split at H
 .rename_i fs e;exact⟨_,e,.inl ⟨_,rfl⟩⟩
 .rename_i n el e;exact⟨_,e,.inr ⟨_,_,rfl⟩⟩
 .cases H
theorem sO{t:TypeId}(H:yP P t=true):rd P (isAgg t) h=some true:=by
 obtain⟨d,hd,a⟩:=Ep H;unfold isAgg;rw[bE _ _ _ _ (bJ hd)];rcases a with⟨fs,rfl⟩|⟨n,e,rfl⟩<;>rfl
theorem mF{t:TypeId}{l:gJ}(H:vS P t=some l):rd P (isAgg t) h=some false:=by
 unfold vS at H;unfold isAgg;cases hd:P.underlying t with
 |none=>rw[hd]at H;cases H
 |some d=>rw[bE _ _ _ _ (bJ hd)];rw[hd]at H;cases d<;>first|rfl|cases H
end
section
variable {P : Program}
theorem CU{a:Addr}{h:ak}{v:Value}(H:aX h a=some v):rd P (load a) h=some v:=by
 unfold load;simp only[rd,H]
theorem iT{a:Addr}: ∀(vs:List Value)(i:Nat)(A:Array Value)(h:ak),dM a vs i h->rd P (loadCellsFrom a i vs.length A) h=some (A++vs.toArray)
 | [],i,A,h,_=>by simp[loadCellsFrom,jw]
 |v::vs,i,A,h,c=>by
  obtain⟨H,b⟩:=c;simp only[aW,loadCellsFrom];rw[bE _ _ _ _ (CU H),iT vs (i+1) _ h b];simp
theorem th{h:ak}{a:Addr}: ∀(ls:List gJ)(i:Nat)(F:List Value->Prop),Me h a ls i F->∃vs,vs.length=ls.length/\dM a vs i h/\F vs
 | [],_,_,H=>⟨[],rfl,trivial,H⟩
 |_::ls,i,_,H=>by
  obtain⟨v,b,c⟩:=gJ.mf H;obtain⟨vs,f,d,e⟩:=th ls (i+1) _ c;exact⟨v::vs,by simp[f],⟨b,d⟩,e⟩
def pj:Option (ak->Prop)->ak->Prop
 |some S,h=>S h
 |none,_=>True
def Yv(P:Program)(s:Sem Value)(S:Option (ak->Prop))(v:Value):Prop:=
 ∀h',pj S h'->rd P s h'=some v
theorem yU{t:TypeId}{h:ak}{a:Addr}{K:Value->Option (ak->Prop)->Prop}(H:rN P t h a K):
  ∃v S,K v S/\pj S h/\Yv P (loadVar t a) S v:=by
 unfold rN at H;split at H
 .rename_i g;split at H
  .rename_i ls i m j;split at H
   .rename_i k;obtain⟨vs,d,b,c⟩:=th _ _ _ H;refine⟨_,_,c,b,λh' f=> ?_⟩;unfold loadVar;rw[bE _ _ _ _ (sO g)];simp only[bg];rw[bE _ _ _ _ (hY j)];have e:i.size=vs.length:=by rw[d];exact bT k
    unfold loadCells;rw[e,bE _ _ _ _ (iT vs 0 #[] h' f)];simp[jw]
   .exact H.elim
  .exact H.elim
 .split at H
  .rename_i l d;obtain⟨v,b,c⟩:=gJ.mf H;refine⟨v,_,c,b,λh' f=> ?_⟩;unfold loadVar;rw[bE _ _ _ _ (mF d)];exact CU f
  .exact H.elim
theorem qt{o:Oper}{σ:Env}{a:Operand->Value}{K:Value->Option (ak->Prop)->Prop}(H:Fits σ a)(c: ∀cs b,o.op≠ .select cs b)(h:qp P o σ K):
  ∃v,K v none/\∀h',rd P (execOp a o) h'=some (.value v):=by
 unfold qp at h;split at h
 .rename_i hd;split at h
  .rename_i v d;exact⟨v,h,λh'=>te _ _ (by rw[<-Em H o hd c];exact d) _⟩
  .exact h.elim
 .exact h.elim
theorem BR{t:TypeId}{u v:Value}{b:Bool}(h:qo P t u v=some b): ∀h',rd P (Op.equal t u v) h'=some b:=by
 intro h';unfold Op.equal Op.maxDepth;unfold qo at h;split at h
 .split at h
  .rename_i p e H;simp only[bA]at h;subst h;unfold Op.equalIn;rw[bE _ _ _ _ (bJ H)];cases p<;>rfl
  .cases h
 .split at h
  .rename_i m k e H;simp only[bA]at h;subst h;unfold Op.equalIn;rw[bE _ _ _ _ (bJ H)];cases m<;>rfl
  .cases h
 .split at h
  .rename_i p _ _ e H;simp only[bA]at h;subst h;unfold Op.equalIn;rw[bE _ _ _ _ (bJ H)];cases p<;>rfl
  .cases h
 .cases h
theorem uF{op:BinOp}{t:TypeId}{x y:Operand}{u v:Value}{b:Bool}(h:qo P t u v=some b): ∀h',rd P (eqGuard op t x y u v) h'=some ():=by
 intro h';unfold qo at h;unfold eqGuard;split at h
 .split at h
  .split<;>exact rfl
  .cases h
 .split at h
  .split<;>exact rfl
  .cases h
 .split at h
  .split<;>exact rfl
  .cases h
 .cases h
theorem xm{t:TypeId}{u v:Value}{b:Bool}(h:qo P t u v=some b):
  (∃p,u=.pointer p/\v=.pointer none)\/(∃m,u=.map m/\v=.map none)\/(∃p l c L C,u=.slice p l c/\v=.slice none L C):=by
 unfold qo at h;split at h
 .split at h
  .exact .inl ⟨_,rfl,rfl⟩
  .cases h
 .split at h
  .exact .inr (.inl ⟨_,rfl,rfl⟩)
  .cases h
 .split at h
  .exact .inr (.inr ⟨_,_,_,_,_,rfl,rfl⟩)
  .cases h
 .cases h
theorem jU{op:BinOp}{t:TypeId}{x y:Operand}{u v:Value}(h:op≠ .eql)(H:op≠ .neq):eqGuard op t x y u v=pure ():=by
 cases op<;>first|rfl|exact absurd rfl h|exact absurd rfl H
theorem lD{o:Oper}{op:BinOp}{t T:TypeId}{x y:Operand}{a:Operand->Value}{u v r:Value}{h:ak}(d:o.op=.binOp op t x y T)(e:a x=u)(f:a y=v)(H:rd P (eqGuard op t x y u v) h=some ())(b:rd P (binOp op t u v) h=some r):rd P (execOp a o) h=some (.value r):=by
 unfold execOp;rw[d];simp only[e,f];have c:rd P (do eqGuard op t x y u v;binOp op t u v) h=some r:=by rw[bE _ _ _ _ H];exact b
 rw[bE _ _ _ _ c];rfl
theorem BT{o:Oper}{op:BinOp}{t T:TypeId}{x y:Operand}{d:Operand->Value}{u v:Value}(e:o.op=.binOp op t x y T)(a:op=.eql\/op=.neq)(i:d x=u)(j:d y=v)(h:vU P o t u v=true){b:Bool}(H:yD P t u v b):
  ∀h',rd P (execOp d o) h'=some (.value (.bool (if op=.eql then b else !b))):=by
 intro h';have g:rd P (eqGuard op t x y u v) h'=some ():=by
  unfold vU at h;split at h
  .have f: ∃c,y=.const c:=by
    unfold GK at h;rw[e]at h;cases y<;>first|exact⟨_,rfl⟩|cases h
   obtain⟨c,rfl⟩:=f;unfold eqGuard;rcases a with rfl|rfl<;>cases u<;>first|rfl|(cases x<;>rfl)
  .split at h
   .unfold eqGuard;rcases a with rfl|rfl
    .show rd P (program>>=λp=>program>>=λq=>if(!p.eqGuardType q.depth t)=true then pure ()else _) h'=some ();rw[bE _ _ _ _ (show rd P program h'=some P from rfl),bE _ _ _ _ (show rd P program h'=some P from rfl),ah h];rfl
    .show rd P (program>>=λp=>program>>=λq=>if(!p.eqGuardType q.depth t)=true then pure ()else _) h'=some ();rw[bE _ _ _ _ (show rd P program h'=some P from rfl),bE _ _ _ _ (show rd P program h'=some P from rfl),ah h];rfl
   .cases h
  .split at h
   .unfold eqGuard;split<;>exact rfl
   .cases h
  .cases h
 refine lD e i j g ?_;have key: ∀u v:Value,(vU P o t u v=true)->yD P t u v b->rd P (binOp op t u v) h'=some (.bool (if op=.eql then b else !b)):=by
  intro u v h H;unfold vU at h;split at h
  .rcases a with rfl|rfl
   .have:binOp .eql t u .nilIface=(Op.equal t u .nilIface>>=λq=>pure (Value.bool q)):=by cases u<;>rfl
    rw[this,bE _ _ _ _ (H h')];rfl
   .have:binOp .neq t u .nilIface=(Op.equal t u .nilIface>>=λq=>pure (Value.bool (!q))):=by cases u<;>rfl
    rw[this,bE _ _ _ _ (H h')];rfl
  .split at h
   .rcases a with rfl|rfl
    .show rd P (Op.equal t _ _>>=λq=>pure (Value.bool q)) h'=_;rw[bE _ _ _ _ (H h')];rfl
    .show rd P (Op.equal t _ _>>=λq=>pure (Value.bool (!q))) h'=_;rw[bE _ _ _ _ (H h')];rfl
   .cases h
  .split at h
   .rcases a with rfl|rfl
    .show rd P (Op.equal t _ _>>=λq=>pure (Value.bool q)) h'=_;rw[bE _ _ _ _ (H h')];rfl
    .show rd P (Op.equal t _ _>>=λq=>pure (Value.bool (!q))) h'=_;rw[bE _ _ _ _ (H h')];rfl
   .cases h
  .cases h
 exact key u v h H
theorem Kk{o:Oper}{op:BinOp}{t T:TypeId}{x y:Operand}{σ:Env}{n:Operand->Value}{u v:Value}{K:Value->Option (ak->Prop)->Prop}(d:o.op=.binOp op t x y T)(i:Fits σ n)(f:n x=u)(g:n y=v)(h:GL P o op t u v σ K):
  ∃v,K v none/\∀h',rd P (execOp n o) h'=some (.value v):=by
 have j: ∀cs b,o.op≠ .select cs b:=by rw[d];intro cs b e;cases e
 unfold GL at h;split at h
 .split at h
  .rename_i s;obtain⟨b,H,q⟩:=h;exact⟨_,q,BT d (.inl rfl) f g s H⟩
  .split at h
   .rename_i b H;refine⟨_,h,λh'=>lD d f g (uF H h') ?_⟩;have r:binOp .eql t u v=(do pure (.bool (<-Op.equal t u v))):=by
     rcases xm H with⟨p,rfl,rfl⟩|⟨m,rfl,rfl⟩|⟨p,l,c,L,C,rfl,rfl⟩<;>rfl
    rw[r,bE _ _ _ _ (BR H h')];rfl
   .exact qt i j h
 .split at h
  .rename_i s;obtain⟨b,H,q⟩:=h;exact⟨_,q,BT d (.inr rfl) f g s H⟩
  .split at h
   .rename_i b H;refine⟨_,h,λh'=>lD d f g (uF H h') ?_⟩;have r:binOp .neq t u v=(do pure (.bool (!(<-Op.equal t u v)))):=by
     rcases xm H with⟨p,rfl,rfl⟩|⟨m,rfl,rfl⟩|⟨p,l,c,L,C,rfl,rfl⟩<;>rfl
    rw[r,bE _ _ _ _ (BR H h')];rfl
   .exact qt i j h
 .split at h
  .rename_i k a k' b;split at h
   .rename_i hk;obtain rfl:k=k':=aP hk;split at h
    .exact h.elim
    .rename_i H;refine⟨_,h,λh'=>lD d f g (by rw[jU bQ bQ];rfl) ?_⟩;simp only[binOp,fL,not_true,aM,Op.intDiv,H];rfl
   .exact h.elim
  .exact h.elim
 .split at h
  .rename_i k a k' b;split at h
   .rename_i hk;obtain rfl:k=k':=aP hk;split at h
    .exact h.elim
    .rename_i H;refine⟨_,h,λh'=>lD d f g (by rw[jU bQ bQ];rfl) ?_⟩;simp only[binOp,fL,not_true,aM,Op.intDiv,H];rfl
   .exact h.elim
  .exact h.elim
 .split at h
  .split at h
   .exact h.elim
   .rename_i H;refine⟨_,h,λh'=>lD d f g (by rw[jU bQ bQ];rfl) ?_⟩;simp only[binOp,Op.shift,H,aM];rfl
  .exact h.elim
 .split at h
  .split at h
   .exact h.elim
   .rename_i H;refine⟨_,h,λh'=>lD d f g (by rw[jU bQ bQ];rfl) ?_⟩;simp only[binOp,Op.shift,H,aM];rfl
  .exact h.elim
 .split at h
  .obtain⟨H,h⟩:=h;refine⟨_,h,λh'=>lD d f g (by rw[jU bQ bQ];rfl) ?_⟩;simp only[binOp,Op.stringOp];rw[dz];rfl
  .exact qt i j h
 .exact qt i j h
theorem jl{x:Value}{k:IntKind}{n:Int}{y:Nat}{c:BoundsCode}{h:ak}(b:x=.int k n)(H:0<=n)(a:n<=(y:Int)):rd P (Instr.sliceBound x y c) h=some n.toNat:=by
 subst b;show rd P (if 0<=n/\n<=(y:Int)then _ else _) h=_;rw[ah ⟨H,a⟩];rfl
theorem nz{σ:Env}{a:Operand->Value}(H:Fits σ a){x:Option Operand}{n:Option Int}(h:tf σ x=some n):
  (x=none/\n=none)\/∃k m,n=some m/\x.map a=some (.int k m):=by
 cases x with
 |none=>simp only[tf,bA]at h;exact .inl ⟨rfl,h.symm⟩
 |some x=>
  simp only[tf]at h;split at h
  .rename_i k m b;simp only[bA]at h;exact .inr ⟨k,m,h.symm,by simp[H _ _ b]⟩
  .cases h
theorem mG{σ:Env}{f:Operand->Value}(g:Fits σ f){L i:Option Operand}{l r:Option Int}(k:tf σ L=some l)(n:tf σ i=some r){isS:Bool}{len cap:Nat}{F:Nat->Nat->Prop}(e:CS len cap l r F): ∃a b,F a b/\∀(h:ak),
   rd P (Instr.sliceBounds isS len cap (L.map f) (i.map f) none) h=some (a,b,cap):=by
 rcases nz g k with⟨rfl,rfl⟩|⟨K,m,rfl,e1⟩<;>rcases nz g n with⟨rfl,rfl⟩|⟨p,M,rfl,e2⟩
 .exact⟨0,len,e,λh=>rfl⟩
 .obtain⟨⟨H,c⟩,d⟩:=e;refine⟨0,M.toNat,d,λh=> ?_⟩;unfold Instr.sliceBounds;rw[e2,bE _ _ _ _ (jw _),bE _ _ _ _ (jl rfl H c)];rfl
 .obtain⟨⟨H,c⟩,d⟩:=e;refine⟨m.toNat,len,d,λh=> ?_⟩;unfold Instr.sliceBounds;rw[e1,bE _ _ _ _ (jw _)];simp only[Option.map_none];rw[bE _ _ _ _ (jw _),bE _ _ _ _ (jl rfl H c)];rfl
 .obtain⟨⟨H,c⟩,⟨j,o⟩,d⟩:=e;refine⟨m.toNat,M.toNat,d,λh=> ?_⟩;unfold Instr.sliceBounds;rw[e1,e2,bE _ _ _ _ (jw _),bE _ _ _ _ (jl rfl H c),bE _ _ _ _ (jl rfl j ae)];rfl
theorem BU{n:Int}: ∀(vs:List Value)(i:Nat)(F:Value->Prop),GM n vs i F->∀j,n=((i+j:Nat):Int)->∀v,vs[j]? =some v->F v
 | [],_,_,_,j,_,v,h=>by simp at h
 |u::vs,i,F,b,j,c,v,h=>by
  obtain⟨H,a⟩:=b;cases j with
  |zero=>simp only[dO,bA]at h;subst h;exact H c
  |succ j=>exact BU vs (i+1) F a j ae v (by simpa using h)
theorem kB{s:Sem Value}{v:Value}{h:ak}(H:rd P s h=some v):rd P (do pure (Next.value (<-s))) h=some (.value v):=by
 rw[bE _ _ _ _ H];rfl
theorem pk{o:Oper}{σ:Env}{O:Operand->Value}{h:ak}{K:Value->Option (ak->Prop)->Prop}(g:Fits σ O)(H:ny P o σ h K):
  ∃v S,K v S/\pj S h/\∀h',pj S h'->rd P (execOp O o) h'=some (.value v):=by
 have V:(∀cs b,o.op≠ .select cs b)->qp P o σ K->∃v S,K v S/\pj S h/\∀h',pj S h'->rd P (execOp O o) h'=some (.value v):=λG L=>by
  obtain⟨v,r,w⟩:=qt g G L;exact⟨v,none,r,trivial,λh' _=>w h'⟩
 unfold ny at H;split at H
 .rename_i c a b j;split at H
  .rename_i q va vb hc R B;have e:execOp O o=pure (.value (if q then va else vb)):=by
    unfold execOp;rw[j];simp only[g _ _ hc,g _ _ R,g _ _ B];rfl
   split at H
   .rename_i U;exact⟨va,none,H,trivial,λh' _=>by rw[e,ah U];rfl⟩
   .rename_i U;exact⟨vb,none,H,trivial,λh' _=>by rw[e,af U];rfl⟩
  .exact H.elim
 .rename_i t x j;split at H
  .rename_i p L;obtain⟨a,rfl,H⟩:=cA.1 H;obtain⟨v,S,r,w,Q⟩:=yU H;refine⟨v,S,r,w,λh' G=> ?_⟩;unfold execOp;rw[j];simp only[g _ _ L];exact kB (Q h' G)
  .exact H.elim
 .rename_i x j;split at H
  .rename_i p L;obtain⟨a,rfl,H⟩:=cA.1 H;refine⟨_,none,H,trivial,λh' _=> ?_⟩;unfold execOp;rw[j];simp only[g _ _ L];rfl
  .exact V (by rw[j];intro cs b e;cases e) H
 .rename_i op t x y t' j;split at H
  .rename_i u v hu X;obtain⟨v,r,w⟩:=Kk j g (g _ _ hu) (g _ _ X) H;exact⟨v,none,r,trivial,λh' _=>w h'⟩
  .exact H.elim
 .rename_i s x f j;split at H
  .rename_i p off L D;obtain⟨a,rfl,H⟩:=cA.1 H;refine⟨_,none,H,trivial,λh' _=> ?_⟩;unfold Eo at D;split at D
   .rename_i fs d';split at D
    .rename_i fl c';split at D
     .rename_i i E;split at D
      .cases D
      .rename_i hz;simp only[bA]at D;subst D;unfold execOp;rw[j];simp only[g _ _ L];refine kB ?_;unfold Instr.fieldAt;rw[bE _ _ _ _ (bJ d')];simp only[c'];show rd P (do let y<-fieldPlace a fl;pure (Value.pointer (some y))) h'=_;have e': ¬i.size=0:=λe=>by rw[e]at hz;cases hz
       have r:rd P (fieldPlace a fl) h'=some (a.add fl.offset):=by
        unfold fieldPlace;rw[bE _ _ _ _ (hY E),af e'];rfl
       rw[bE _ _ _ _ r];rfl
     .cases D
    .cases D
   .cases D
  .exact H.elim
 .rename_i t x ix j;split at H
  .rename_i e a' len cap k n z A E;split at H
   .rename_i i C;obtain⟨⟨r,w⟩,H⟩:=H;obtain⟨a,rfl,H⟩:=cA.1 H;refine⟨_,none,H,trivial,λh' _=> ?_⟩;unfold execOp;rw[j];simp only[g _ _ A,g _ _ E];refine kB ?_;unfold Instr.indexAt;show rd P (do let x<-underlying t;_) h'=_;rw[bE _ _ _ _ (bJ z)];simp only;rw[bE _ _ _ _ (jw _)];simp only;rw[bE _ _ _ _ (bJ z)];simp only;rw[ah ⟨r,w⟩,bE _ _ _ _ (hY C)];rfl
   .exact H.elim
  .rename_i len e a' k n z A E;split at H
   .rename_i i C;obtain⟨⟨r,w⟩,H⟩:=H;obtain⟨a,rfl,H⟩:=cA.1 H;refine⟨_,none,H,trivial,λh' _=> ?_⟩;unfold execOp;rw[j];simp only[g _ _ A,g _ _ E];refine kB ?_;unfold Instr.indexAt;show rd P (do let x<-underlying t;_) h'=_;rw[bE _ _ _ _ (bJ z)];simp only[Instr.sureAddr];rw[bE _ _ _ _ (jw _),bE _ _ _ _ (jw _)];simp only;rw[bE _ _ _ _ (bJ z)];simp only;rw[ah ⟨r,w⟩,bE _ _ _ _ (hY C)];rfl
   .exact H.elim
  .exact H.elim
 .rename_i t x ix j;split at H
  .rename_i s k n z A E;obtain⟨⟨r,w⟩,H⟩:=H;refine⟨_,none,H,trivial,λh' _=> ?_⟩;unfold execOp;rw[j];simp only[g _ _ A,g _ _ E];refine kB ?_;unfold Instr.index;show rd P (do let x<-underlying t;_) h'=_;rw[bE _ _ _ _ (bJ z)];have M:n.toNat<s.size:=ae
   have T:s[n.toNat]? =some (s.data.toList.getD n.toNat 0):=by
    rw[getElem?_pos s n.toNat M];congr 1
    rw[bh,aj (by simpa using M)];rfl
   simp only[ah r,T];rfl
  .rename_i len e cs k n z A E;split at H
   .rename_i i B C Z;split at H
    .rename_i W;obtain⟨⟨r,w⟩,H⟩:=H;have Z:=bT Z;have W:=bT W;have M:n.toNat<cs.toList.length:=ae
     have F:=BU _ _ _ H n.toNat ae _ (aj M);refine⟨_,none,F,trivial,λh' _=> ?_⟩;unfold execOp;rw[j];simp only[g _ _ A,g _ _ E];refine kB ?_;unfold Instr.index;show rd P (do let x<-underlying t;_) h'=_;rw[bE _ _ _ _ (bJ z)];simp only;rw[ah ⟨r,w⟩,bE _ _ _ _ (hY C)];unfold part;rw[bE _ _ _ _ (mF B)];simp only[au,aM];rw[W,cp];have T:cs[n.toNat]? =some (cs.toList[n.toNat]'M):=bQ
     rw[T];rfl
    .exact H.elim
   .exact H.elim
  .exact H.elim
 .rename_i t x lo E mx j;split at H
  .rename_i e p len cap l Y z A J I;split at H
   .rename_i i C;obtain⟨a,b,F,B⟩:=mG (P:=P) (isS:=true) g J I H;refine⟨_,none,F,trivial,λh' _=> ?_⟩;unfold execOp;rw[j];simp only[g _ _ A,Option.map_none];refine kB ?_;unfold Instr.sliceAt;rw[bE _ _ _ _ (bJ z)];unfold Instr.slice;simp only;rw[bE _ _ _ _ (bJ z)];simp only;rw[bE _ _ _ _ (B _)];simp only;rw[bE _ _ _ _ (hY C)];rfl
   .exact H.elim
  .rename_i s l Y z A J I;obtain⟨a,b,F,B⟩:=mG (P:=P) (isS:=false) g J I H;refine⟨_,none,F,trivial,λh' _=> ?_⟩;unfold execOp;rw[j];simp only[g _ _ A,Option.map_none];refine kB ?_;unfold Instr.sliceAt;rw[bE _ _ _ _ (bJ z)];unfold Instr.slice;simp only;rw[bE _ _ _ _ (bJ z)];simp only[Option.isSome_none,au,aM];rw[bE _ _ _ _ (B _)];rfl
  .rename_i n e p l Y z A J I;split at H
   .rename_i i C;obtain⟨ad,rfl,H⟩:=cA.1 H;obtain⟨a,b,F,B⟩:=mG (P:=P) (isS:=false) g J I H;refine⟨_,none,F,trivial,λh' _=> ?_⟩;unfold execOp;rw[j];simp only[g _ _ A,Option.map_none];refine kB ?_;unfold Instr.sliceAt;rw[bE _ _ _ _ (bJ z)];simp only[Instr.sureAddr];rw[bE _ _ _ _ (jw _),bE _ _ _ _ (B _)];simp only;rw[bE _ _ _ _ (hY C)];show some _=some _;unfold cR;congr 2
    split<;>rfl
   .exact H.elim
  .rename_i mo e p len cap b z A J I;split at H
   .rename_i k m i N C;obtain⟨⟨r,w⟩,⟨Q,h4⟩,F⟩:=H;rcases nz g J with⟨rfl,_⟩|⟨_,_,e1,_⟩
    case inr=>cases e1
    rcases nz g I with⟨_,e1⟩|⟨k2,m2,e1,e2⟩
    .cases e1
    cases e1;refine⟨_,none,F,trivial,λh' _=> ?_⟩;unfold execOp;rw[j];simp only[g _ _ A,g _ _ N,e2,Option.map_none,dk];refine kB ?_;unfold Instr.sliceAt;rw[bE _ _ _ _ (bJ z)];unfold Instr.slice;simp only;rw[bE _ _ _ _ (bJ z)];simp only;have B:rd P (Instr.sliceBounds true len cap none (some (.int k2 b)) (some (.int k m))) h'=some (0,b.toNat,m.toNat):=by
     unfold Instr.sliceBounds;simp only;rw[bE _ _ _ _ (jl rfl r w),bE _ _ _ _ (jl rfl Q ae)];rfl
    rw[bE _ _ _ _ B];simp only;rw[bE _ _ _ _ (hY C)];rfl
   .exact H.elim
  .exact H.elim
 .rename_i t x i ok j;split at H
  .rename_i m k N hk;obtain⟨v,r,w⟩:=yQ H;refine⟨v,_,w,?_,λh' G=> ?_⟩
   .show kA m h h;unfold kA;split<;>trivial
   .unfold execOp;rw[j];simp only[g _ _ N,g _ _ hk];exact kB (r h' G)
  .exact H.elim
 .rename_i args g' j;split at H
  .rename_i x b';split at H
   .rename_i m N;split at H
    .obtain⟨n,r,w⟩:=H;refine⟨_,_,w,?_,λh' G=> ?_⟩
     .show kA m h h;unfold kA;split<;>trivial
     .have R:args= #[x]:=by rw[<-Array.toArray_toList (xs:=args),b']
      unfold execOp;rw[j];simp only[resolve,R];rw[bE _ _ _ _ (jw _)];simp only[invoke,builtin,List.map_toArray,cj,List.map_nil,g _ _ N];exact kB (r h' G)
    .exact V (by rw[j];intro cs b e;cases e) H
   .exact H.elim
  .exact H.elim
 .rename_i s d x j;split at H
  .split at H
   .rename_i v X;obtain⟨b,r,w⟩:=H;refine⟨_,_,w,r,λh' G=> ?_⟩;unfold execOp;rw[j];simp only[g _ _ X];exact kB G
   .exact H.elim
  .exact V (by rw[j];intro cs b e;cases e) H
 .exact H.elim
 .rename_i f';exact V f' H
def lE(p:bZ)(h h':ak):Prop:= ∀x,p=some x->x.block<h.size->h'[x.block]? =h[x.block]?
def Kp(h h':ak)(l:List (bZ)):Prop:= ∀p∈l,lE p h h'
def CW(σ:Env)(o:Oper):Option (bZ):=
 match o.op with
 | .load _ x=>(match σ.ev x with
  |some (.pointer p)=>some p
  |_=>some none)
 |_=>none
theorem qu{h:ak}{a:Addr}{v:Value}(H:aX h a=some v):a.block<h.size:=by
 unfold aX at H;split at H
 .rename_i b;exact(Array.getElem?_eq_some_iff.1 b).1
 .cases H
theorem lE.cell{h h':ak}{a b:Addr}{v:Value}(d:lE (some a) h h')(c:b.block=a.block)(H:aX h b=some v):aX h' b=some v:=by
 have:=d a rfl (by rw[<-c];exact qu H);rw[<-c]at this;unfold aX at H⊢;rw[this];exact H
theorem lE.trans{p:bZ}{h c d:ak}(a:lE p h c)(b:lE p c d):lE p h d:=λx e f=>by
 have H:=a x e f;rw[b x e ?_,H];have:=Array.getElem?_eq_getElem f;rw[this]at H;exact(Array.getElem?_eq_some_iff.1 H).1
theorem lE.held{h h':ak}{a:Addr}(b:lE (some a) h h'): ∀(vs:List Value)(i:Nat),dM a vs i h->dM a vs i h'
 | [],_,_=>trivial
 |_::vs,i,H=>⟨b.cell (by unfold Addr.add;split<;>rfl) H.1,lE.held b vs (i+1) H.2⟩
theorem Bf{t:TypeId}{h:ak}{a:Addr}{K:Value->Option (ak->Prop)->Prop}(H:rN P t h a K):
  ∃v S,K v (some S)/\S h/\(∀h',lE (some a) h h'->S h')/\Yv P (loadVar t a) (some S) v:=by
 have m:=H;unfold rN at H;split at H
 .rename_i g;split at H
  .rename_i ls i n j;split at H
   .rename_i k;obtain⟨vs,f,c,d⟩:=th _ _ _ H;refine⟨_,_,d,c,λh' b=>b.held _ _ c,λh' b=> ?_⟩;unfold loadVar;rw[bE _ _ _ _ (sO g)];simp only[bg];rw[bE _ _ _ _ (hY j)];have e:i.size=vs.length:=by rw[f];exact bT k
    unfold loadCells;rw[e,bE _ _ _ _ (iT vs 0 #[] h' b)];simp[jw]
   .exact H.elim
  .exact H.elim
 .split at H
  .rename_i l f;obtain⟨v,c,d⟩:=gJ.mf H;refine⟨v,_,d,c,λh' b=>b.cell rfl c,λh' b=> ?_⟩;unfold loadVar;rw[bE _ _ _ _ (mF f)];exact CU b
  .exact H.elim
theorem CX{o:Oper}{σ:Env}{e:Operand->Value}{h:ak}{K:Value->Option (ak->Prop)->Prop}{p:bZ}(k:Fits σ e)(b:CW σ o=some p)(H:ny P o σ h K):
  ∃v S,K v (some S)/\S h/\(∀h',lE p h h'->S h')/\∀h',S h'->rd P (execOp e o) h'=some (.value v):=by
 unfold CW at b;unfold ny at H;split at b
 .rename_i t x c;simp only[c]at H;split at H
  .rename_i q d;simp only[d,bA]at b;subst b;obtain⟨a,rfl,H⟩:=cA.1 H;obtain⟨v,S,f,g,j,i⟩:=Bf H;refine⟨v,S,f,g,j,λh' l=> ?_⟩;unfold execOp;rw[c];simp only[k _ _ d];exact kB (i h' l)
  .exact H.elim
 .cases b
theorem I0{σ:Env}{a:Operand->Value}(H:Fits σ a): ∀(xs:List Operand)(vs:List Value),O3 σ xs=some vs->xs.map a=vs
 | [],vs,h=>by simp only[O3,bA]at h;exact h
 |x::xs,vs,h=>by
  simp only[O3]at h;split at h
  .rename_i v V b c;simp only[bA]at h;rw[cj,H _ _ b,I0 H xs V c,h]
  .cases h
theorem uH{σ:Env}{a:Operand->Value}(h:Fits σ a){args:Array Operand}{vs:List Value}(H:O3 σ args.toList=some vs):args.map a=vs.toArray:=by
 have:=I0 h _ _ H;rw[<-this];apply Array.ext'
 simp
theorem yE{o:Oper}{σ:Env}{c:Operand->Value}{h:ak}{K:fG}(d:Fits σ c)(f: ∀cs b,o.op≠ .select cs b)(H:Kj P o σ h K):qm P o c h K:=by
 unfold Kj at H;split at H
 .rename_i hd;split at H
  .rename_i O k e;have a:=H _ _ rfl rfl;dsimp only at a;split at a
   .rename_i v g;refine GJ _ O k (by rw[<-Em d o hd f];exact e) _ _ ?_;exact El _ _ g _ _ a
   .exact a.elim
  .exact H.elim
 .exact H.elim
theorem BW{a:Addr}: ∀(vs:List Value)(i:Nat)(h:ak)(K:ak->Prop),eu a vs i h K->aU P (storeCells a vs i) h (λ_ h'=>K h')
 | [],_,_,_,H=>H
 |v::vs,i,h,K,H=>by
  simp only[eu]at H;split at H
  .rename_i b;obtain⟨c,d,e⟩:=H;simp only[storeCells];rw[dR];exact⟨b,c,d,BW vs (i+1) _ K (e _ rfl)⟩
  .exact H.elim
theorem vV{s:Sem Value}{h:ak}{t:TypeId}{K:fG}(H:aU P s h λv h'=>sN P t λV=>v=V/\K V h'):aU P s h K:=
 ke _ _ (λ_ _ a=>yR a) H
theorem vW{o:Oper}{σ:Env}{D:Operand->Value}{h:ak}{K:fG}(n:Fits σ D)(H:ph P o σ h K):qm P o D h K:=by
 unfold ph at H;split at H
 .rename_i j;exact yE n (by rw[j];intro cs b e;cases e) H
 .rename_i j;exact yE n (by rw[j];intro cs b e;cases e) H
 .rename_i j;exact yE n (by rw[j];intro cs b e;cases e) H
 .rename_i j;exact yE n (by rw[j];intro cs b e;cases e) H
 .rename_i t x y j;split at H
  .rename_i p v q N;obtain⟨a,rfl,H⟩:=cA.1 H;split at H
   .rename_i i J;split at H
    .rename_i z;unfold qm execOp;rw[j];simp only[n _ _ q,n _ _ N];rw[dR];unfold Instr.storeAt;rw[dR];show aU P (storeVar t a v) h _;unfold storeVar;rw[dR,GN J];have e:v.cells.size=i.size:=by have:=bT z;simpa using this.symm
     simp only[e,fL,not_true,aM];exact BW _ _ _ _ H
    .exact H.elim
   .exact H.elim
  .exact H.elim
 .rename_i t m k x j;split at H
  .rename_i m k x w hk q;unfold qm execOp;rw[j];simp only[n _ _ w,n _ _ hk,n _ _ q];rw[dR];exact H
  .exact H.elim
 .rename_i t m k x j;split at H
  .rename_i m k x w hk q;unfold qm execOp;rw[j];simp only[n _ _ w,n _ _ hk,n _ _ q];rw[dR];exact H
  .exact H.elim
 .rename_i t l c j;split at H
  .rename_i l c L E;unfold qm execOp;rw[j];simp only[n _ _ L,n _ _ E];rw[dR];exact vV H
  .exact H.elim
 .rename_i s d x j;split at H
  .rename_i x q;unfold qm execOp;rw[j];simp only[n _ _ q];rw[dR];exact vV H
  .exact H.elim
 .rename_i b args T j;split at H
  .rename_i vs A;split at H
   .rename_i s B;unfold qm execOp;rw[j];simp only[resolve,uH n A];rw[dR,yT];simp only[invoke];cases b<;>simp only[yS]at B<;>first|cases B|skip
    all_goals (simp only[builtin];rw[dR];exact vV H)
   .exact H.elim
  .exact H.elim
 .rename_i f args T j;split at H
  .rename_i g first C vs I A;split at H
   .rename_i u;unfold qm execOp;rw[j];simp only[resolve,uH n A,n _ _ I,Deferred.ofValue];rw[dR,yT];simp only[invoke,callFunc];rw[dR];unfold pg at u;split at u
    .rename_i F G;simp only[aS,Bool.not_eq_true']at u;show aU P (match P.funcs[g]? with|none=>_|some F=>_) h _;rw[G];have z:F.body.isNone=false:=by cases M:F.body<;>simp[M]at u⊢
     simp only[u.2,z,au,aM];have e:(first++vs.toArray++C)=(first.toList++vs++C.toList).toArray:=by
      apply Array.ext'
      simp
     rw[e];exact H.mono λv h' hr=>yR hr
    .cases u
   .exact H.elim
  .exact H.elim
 .rename_i t x j;split at H
  .rename_i x q;unfold qm execOp;rw[j];simp only[n _ _ q];rw[dR];exact ke _ _ (λv h' ⟨r,e,hr⟩=>by subst e;exact hr) H
  .exact H.elim
 .rename_i it b j;split at H
  .rename_i it q;unfold qm execOp;rw[j];simp only[n _ _ q];rw[dR];refine ke _ _ (λv h' hr=> ?_) H;rcases hr with⟨e,hr⟩|hr
   .subst e;exact hr
   .obtain⟨k,x,e,hr⟩:=hr;subst e;exact hr
  .exact H.elim
 .rename_i it j;split at H
  .rename_i it q;unfold qm execOp;rw[j];simp only[n _ _ q];rw[dR];refine ke _ _ (λv h' hr=> ?_) H;obtain⟨k,x,e,hr⟩:=hr;subst e;exact hr
  .exact H.elim
 .exact H.elim
end
section
variable {X Y:Type} {v:Value} {F:Value->Prop} {t n:Nat} {h:ak} {a b a0:Act} {xs:Array Value} {D:Option Nat} {W:List Nat} {O:Array Oper} {o:Oper} {P:Program} {w0:World}
def gJ.T(X:Type):gJ->Type
 | .int _=>Int->X
 | .bool=>Bool->X
 | .str=>ByteArray->X
 | .ptr=>bZ->X
 | .slice=>bZ->Nat->Nat->X
 | .map=>Option Nat->X
 | .raw=>Value->X
def rO(X:Type):List gJ->Type
 | []=>X
 |l::ls=>l.T (rO X ls)
def Sh.T(X:Type):Sh->Type
 | .one l=>l.T X
 | .agg ls=>rO X ls
def tj(X:Type):List (Nat×Sh)->Type
 | []=>X
 |s::L=>s.2.T (tj X L)
def gJ.lam{X:Type}:(l:gJ)->(Value->X)->l.T X
 | .int k,F=>λn:Int=>F (.int k n)
 | .bool,F=>λb:Bool=>F (.bool b)
 | .str,F=>λs:ByteArray=>F (.string s)
 | .ptr,F=>λp:bZ=>F (.pointer p)
 | .slice,F=>λ(p:bZ) (l c:Nat)=>F (.slice p l c)
 | .map,F=>λm:Option Nat=>F (.map m)
 | .raw,F=>λv:Value=>F v
def RV{X:Type}:(ls:List gJ)->(List Value->X)->rO X ls
 | [],F=>F []
 |l::ls,F=>l.lam λv=>RV ls λvs=>F (v::vs)
def Sh.lam{X:Type}:(s:Sh)->(Value->X)->s.T X
 | .one l,F=>l.lam F
 | .agg ls,F=>RV ls λvs=>F (.agg vs.toArray)
def O9{X:Type}:(L:List (Nat×Sh))->(Env->X)->Env->tj X L
 | [],F,σ=>F σ
 |(t,s)::L,F,σ=>s.lam λv=>O9 L F (σ.set t v)
def gJ.ap{X Y:Type}(d:Y):(l:gJ)->l.T X->Value->(X->Y)->Y
 | .int k,f,.int k' n,K=>(match decide (k=k')with|true=>K (f n)|false=>d)
 | .bool,f,.bool b,K=>K (f b)
 | .str,f,.string s,K=>K (f s)
 | .ptr,f,.pointer p,K=>K (f p)
 | .slice,f,.slice p l c,K=>K (f p l c)
 | .map,f,.map m,K=>K (f m)
 | .raw,f,v,K=>K (f v)
 |_,_,_,_=>d
def Ti{X Y:Type}(d:Y):(ls:List gJ)->rO X ls->List Value->(X->Y)->Y
 | [],f, [],K=>K f
 |l::ls,f,v::vs,K=>l.ap d f v λg=>Ti d ls g vs K
 |_,_,_,_=>d
def Sh.ap{X Y:Type}(d:Y):(s:Sh)->s.T X->Value->(X->Y)->Y
 | .one l,f,v,K=>l.ap d f v K
 | .agg ls,f,.agg vs,K=>Ti d ls f vs.toList K
 |_,_,_,_=>d
def nU{X Y:Type}(d:Y):(L:List (Nat×Sh))->tj X L->Env->(X->Y)->Y
 | [],f,_,K=>K f
 |(t,s)::L,f,σ,K=>(match σ t with|some v=>s.ap d f v λg=>nU d L g σ K|none=>d)
def gJ.all:gJ->(Value->Prop)->Prop
 | .int k,F=> ∀n:Int,F (.int k n)
 | .bool,F=> ∀b:Bool,F (.bool b)
 | .str,F=> ∀s:ByteArray,F (.string s)
 | .ptr,F=> ∀p:bZ,F (.pointer p)
 | .slice,F=> ∀(p:bZ)(l c:Nat),F (.slice p l c)
 | .map,F=> ∀m:Option Nat,F (.map m)
 | .raw,F=> ∀v:Value,F v
def RW:List gJ->(List Value->Prop)->Prop
 | [],F=>F []
 |l::ls,F=>l.all λv=>RW ls λvs=>F (v::vs)
def Sh.all:Sh->(Value->Prop)->Prop
 | .one l,F=>l.all F
 | .agg ls,F=>RW ls λvs=>F (.agg vs.toArray)
def Mh:List (Nat×Sh)->(Env->Prop)->Env->Prop
 | [],F,σ=>F σ
 |(t,s)::L,F,σ=>s.all λv=>Mh L F (σ.set t v)
theorem gJ.Mi{d:Y}{l:gJ}{f:l.T X}{K:X->Y}:l.ap d f v K=d\/((∃g:X,l.ap d f v K=K g)/\∀(Z:Type)(F:Value->Z),∀(W:Type)(e:W)(J:Z->W),l.ap e (l.lam F) v J=J (F v)):=by
 cases l<;>cases v<;>first
  |exact .inl rfl
  |exact .inr ⟨⟨_,rfl⟩,λ_ _ _ _ _=>rfl⟩
  |skip
 rename_i k k' n;by_cases hk:k=k'
 .subst hk;refine .inr ⟨⟨f n,?_⟩,λZ F W e J=> ?_⟩<;>simp[gJ.ap,gJ.lam]
 .exact .inl (by simp[gJ.ap,hk])
theorem gJ.I1{l:gJ}{f:l.T X}{K:X->Prop}(h:l.ap False f v K):
  (∃g:X,K g)/\(∀(Z W:Type)(F:Value->Z)(e:W)(J:Z->W),l.ap e (l.lam F) v J=J (F v)):=by
 rcases gJ.Mi (d:=False) (l:=l) (f:=f) (v:=v) (K:=K)with H|⟨⟨g,H⟩,c⟩
 .rw[H]at h;exact h.elim
 .exact⟨⟨g,by rw[H]at h;exact h⟩,λZ W F e J=>c Z F W e J⟩
theorem gJ.CY{l:gJ}(h:l.all F){f:l.T X}{K:X->Prop}(H:l.ap False f v K):F v:=by
 cases l<;>cases v<;>first
  |exact H.elim
  |exact h _
  |exact h _ _ _
  |skip
 rename_i k k' n;by_cases hk:k=k'
 .subst hk;exact h n
 .simp[gJ.ap,hk]at H
theorem gJ.CZ{l:gJ}{F:Value->X}{K:X->Prop}(h:l.ap False (l.lam F) v K):K (F v):=by
 have:=(gJ.I1 h).2 X Prop F False K;rw[this]at h;exact h
variable {l:gJ}
theorem I2 : ∀{ls:List gJ}{F:List Value->X}{vs:List Value}{K:X->Prop},Ti False ls (RV ls F) vs K->K (F vs)
 | [],_, [],_,h=>h
 | [],_,_::_,_,h=>h.elim
 |_::_,_, [],_,h=>h.elim
 |_::ls,F,v::vs,_,h=>I2 (ls:=ls) (F:=λu=>F (v::u)) (vs:=vs) (gJ.CZ h)
theorem Sh.CZ{s:Sh}{F:Value->X}{K:X->Prop}(h:s.ap False (s.lam F) v K):K (F v):=by
 cases s with
 |one l=>exact gJ.CZ h
 |agg ls=>
  cases v<;>first|exact h.elim|skip
  rename_i cs;have:=I2 (F:=λvs=>F (.agg vs.toArray)) h;simpa using this
theorem I3 : ∀{ls:List gJ}{F:List Value->Prop}{f:rO X ls}{vs:List Value}{K:X->Prop},RW ls F->Ti False ls f vs K->F vs
 | [],_,_, [],_,h,_=>h
 | [],_,_,_::_,_,_,h=>h.elim
 |_::_,_,_, [],_,_,h=>h.elim
 |l::ls,F,f,v::vs,K,h,H=>by
  obtain⟨⟨g,d⟩,_⟩:=gJ.I1 H;have c:=gJ.CY h H;exact I3 (ls:=ls) (F:=λu=>F (v::u)) (vs:=vs) c d
theorem Sh.CY{s:Sh}(h:s.all F){f:s.T X}{K:X->Prop}(H:s.ap False f v K):F v:=by
 cases s with
 |one l=>exact gJ.CY h H
 |agg ls=>
  cases v<;>first|exact H.elim|skip
  have:=I3 h H;simpa using this
theorem Es : ∀{ls:List gJ}{f:rO X ls}{vs:List Value}{K:X->Prop},Ti False ls f vs K->∃g,K g
 | [],f, [],_,h=>⟨f,h⟩
 | [],_,_::_,_,h=>h.elim
 |_::_,_, [],_,h=>h.elim
 |_::_,_,_::_,_,h=>by
  obtain⟨⟨g,H⟩,_⟩:=gJ.I1 h;exact Es H
theorem Sh.I4{s:Sh}{f:s.T X}{K:X->Prop}(h:s.ap False f v K): ∃g,K g:=by
 cases s with
 |one l=>exact(gJ.I1 h).1
 |agg ls=>cases v<;>first|exact h.elim|exact Es h
variable {s:Sh} {ty:List (Nat×Sh)}
def Sub(d e c:Env):Prop:= ∀t v,d t=some v->c t=some v\/e t=some v
theorem Env.sZ(σ:Env)(d t:Nat)(v:Value):σ.set d v t=if t=d then some v else σ t:=by
 unfold Env.set;by_cases h:t=d
 .subst h;simp
 .have:Nat.beq t d=false:=by cases H:Nat.beq t d;rfl;exact absurd (bT H) h
  simp[this,h]
variable {K:Env->ak->Prop}
theorem Sub.set{d f c:Env}(H:c t=some v)(h:Sub d (f.set t v) c):Sub d f c:=λu x g=>by
 rcases h u x g with h1|h1
 .exact .inl h1
 .rw[Env.sZ]at h1;split at h1
  .rename_i e;subst e;exact .inl (H.trans h1)
  .exact .inr h1
theorem yV{G:Env->ak->Prop}{e:Env}: ∀(L:List (Nat×Sh))(c:Env),nU False L (O9 (X:=ak->Prop) L G c) e (λf=>f h)->∃d,G d h/\Sub d c e
 | [],c,H=>⟨c,H,λ_ _ h=> .inr h⟩
 |(t,s)::L,c,H=>by
  simp only[nU]at H;split at H
  .rename_i v k;have g:=Sh.CZ H;obtain⟨d,i,j⟩:=yV L _ g;exact⟨d,i,j.set k⟩
  .exact H.elim
theorem yF{F : Env -> Prop}{m : Env}{K : X -> Prop}: ∀(L : List (Nat × Sh))(d : Env)(f : tj X L), Mh L F d -> nU False L f m K ->
    ∃ c, F c /\ Sub c d m /\ ((∀ t s, (t, s) ∈ L -> c t = m t) /\ ∀ t, (∀ s, (t, s) ∉ L) -> c t = d t)
  | [], d, _, h, _ => ⟨d, h, λ_ _ h => .inr h, (λ_ _ h => by cases h), λ_ _ => rfl⟩
  | (t, s) :: L, d, f, h, H => by
    simp only [nU] at H
    split at H
    · rename_i v q
      have r := Sh.CY h H
      obtain ⟨g, z⟩ := Sh.I4 H
      obtain ⟨c, w, x, y, p⟩ := yF L _ g r z
      refine ⟨c, w, x.set q, λu s' j => ?_, λu j => ?_⟩
      · by_cases i : ∃ S, (u, S) ∈ L
        · obtain ⟨S, i⟩ := i; exact y u S i
        · have A : u = t := by
            rcases bG.1 j with e | e
            · exact (Prod.mk.inj e).1
            · exact absurd ⟨s', e⟩ i
          subst A
          rw [p u (λS k => i ⟨S, k⟩), Env.sZ, ah rfl, q]
      · rw [p u (λs' k => j s' (ct _ k)), Env.sZ, af]
        intro e; subst e; exact j s df
    · exact H.elim
theorem oz{d:Y}{σ c:Env}{K:X->Y}: ∀(L:List (Nat×Sh))(f:tj X L),(∀t s,(t,s)∈L->σ t=c t)->nU d L f σ K=nU d L f c K
 | [],_,_=>rfl
 |(t,s)::L,f,h=>by
  simp only[nU];rw[h t s df];have:(λg=>nU d L g σ K)=(λg=>nU d L g c K):=funext λg=>oz L g (λt s H=>h t s (ct _ H))
  rw[this]
theorem pn{σ : Env}{K : X -> Prop}: ∀(L : List (Nat × Sh))(f : tj X L), nU False L f σ K -> ∀ t s, (t, s) ∈ L -> ∃ v, σ t = some v
  | [], _, _, _, _, h => by cases h
  | (t, s) :: L, f, h, u, s', c => by
    simp only [nU] at h
    split at h
    · rename_i v d
      rcases bG.1 c with e | e
      · exact ⟨v, by rw [(Prod.mk.inj e).1]; exact d⟩
      · obtain ⟨g, H⟩ := Sh.I4 h
        exact pn L g H u s' e
    · exact h.elim
structure Rel (n:Nat) (σ:Env) (a:Act):Prop where
 defers:a.defers= []
 size:a.tmps.size=n
 at_: ∀t v,σ t=some v->a.tmps.getD t undef=v
theorem Rel.fits{σ:Env}(h:Rel n σ a):Fits σ a.eval:=by
 intro x v H;cases x with
 |tmp t=>exact h.at_ t v H
 |const c=>simpa[Env.ev,Act.eval]using H
 |global g=>simpa[Env.ev,Act.eval]using H
 |func f=>simpa[Env.ev,Act.eval]using H
def iQ(n:Nat)(σ:Env)(D:Option Nat)(v:Value)(K:Env->Prop):Prop:=
 match D with
 |none=>K σ
 |some d=>(match Nat.blt d n with|true=>K (σ.set d v)|false=>False)
theorem Mj{d:Nat}(hd:d<xs.size):(xs.setIfInBounds d v).getD t undef=if t=d then v else xs.getD t undef:=by
 by_cases h:t=d
 .subst h;simp[hd]
 .simp[h,fv h]
theorem iZ{σ:Env}{K:Env->Prop}(H:Rel n σ a)(h:iQ n σ D v K): ∃f,Rel n f (a.put D v)/\K f:=by
 unfold iQ at h;split at h
 .exact⟨σ,H,h⟩
 .rename_i d;split at h
  .rename_i hd;have hd:d<a.tmps.size:=by rw[H.size];exact(Nat.blt_eq▸hd)
   refine⟨_,⟨H.defers,by simp[Act.put,H.size],λt u c=> ?_⟩,h⟩;simp only[Act.put];rw[Mj hd];rw[Env.sZ]at c;split
   .rename_i e;rw[ah e]at c;exact bp c
   .rename_i e;rw[af e]at c;exact H.at_ t u c
  .exact h.elim
def fH(W:List Nat)(a A:Act):Prop:= ∀t,t∉W->A.tmps.getD t undef=a.tmps.getD t undef
theorem fH.refl(W:List Nat)(a:Act):fH W a a:=λ_ _=>rfl
theorem fH.trans{c:Act}(h:fH W a b)(h':fH W b c):fH W a c:=λt H=>(h' t H).trans (h t H)
theorem fH.mono{w:List Nat}(h:fH W a b)(d: ∀t,t∈W->t∈w):fH w a b:=λt c=>h t (λH=>c (d t H))
theorem fH.put(h: ∀d,D=some d->d∈W):fH W a (a.put D v):=by
 intro t c;cases D with
 |none=>rfl
 |some d=>
  have H:t≠d:=λe=>c (e▸h d rfl)
  simp[Act.put,fv H]
def jo(O : Array Oper)(o : Oper)(σ : Env)(r skip : Env -> Prop): Prop :=
  match o.guard with
  | none => r σ
  | some (j, jS) => (match (O[j]?).bind (·.dst) with
    | some g => (match σ g with
      | some (.bool b) => if b = true then (match jS with | true => r (σ.set g (.bool true)) | false => skip (σ.set g (.bool true)))
          else (match jS with | true => skip (σ.set g (.bool false)) | false => r (σ.set g (.bool false)))
      | some (.tuple _) => skip σ
      | _ => False)
    | none => False)
theorem getD_some(h:xs.getD t undef=v)(c:v≠undef):xs[t]? =some v:=by
 rw[fh]at h;cases H:xs[t]? with
 |none=>rw[H]at h;exact absurd h.symm c
 |some u=>rw[H]at h;exact bP some h
theorem jH{σ:Env}{r skip:Env->Prop}(d:Rel n σ a)(h:jo O o σ r skip):
  (Region.wanted o (yielded O a.tmps)=true/\∃i,Rel n i a/\r i)\/(Region.wanted o (yielded O a.tmps)=false/\∃i,Rel n i a/\skip i):=by
 unfold jo at h;split at h
 .rename_i c;exact .inl ⟨by simp[Region.wanted,c],σ,d,h⟩
 .rename_i j jS c;split at h
  .rename_i g p;split at h
   .rename_i b q;have H:=d.at_ g _ q;have z:=getD_some H (by unfold undef;intro e;cases e);have f:yielded O a.tmps j=some b:=by simp[yielded,p,z]
    have oy:Rel n (σ.set g (.bool b)) a:=⟨d.defers,d.size,λt u k=>by
     rw[Env.sZ]at k;split at k
     .rename_i e;subst e;rw[H];exact bp k
     .exact d.at_ t u k⟩
    split at h
    .rename_i w;subst w;split at h
     .exact .inl ⟨by simp[Region.wanted,c,f],_,oy,h⟩
     .exact .inr ⟨by simp[Region.wanted,c,f],_,oy,h⟩
    .rename_i m;have m:b=false:=by simpa using m
     subst m;split at h
     .exact .inr ⟨by simp[Region.wanted,c,f],_,oy,h⟩
     .exact .inl ⟨by simp[Region.wanted,c,f],_,oy,h⟩
   .rename_i x A;have H:=d.at_ g _ A;have f:yielded O a.tmps j=none:=by
     simp only[yielded,p,Option.bind_some];rw[fh]at H;cases y:a.tmps[g]? with
     |none=>rfl
     |some u=>rw[y]at H;simp at H;subst H;rfl
    exact .inr ⟨by simp[Region.wanted,c,f],σ,d,h⟩
   .exact h.elim
  .exact h.elim
def xp(P:Program)(o:Oper)(σ:Env)(h:ak)(K:fG):Prop:=
 match lT P o with
 |true=>ny P o σ h λv _=>K v h
 |false=>ph P o σ h K
theorem oA{σ:Env}{d:Operand->Value}{K:fG}(c:Fits σ d)(H:xp P o σ h K):qm P o d h K:=by
 unfold xp at H;split at H
 .obtain⟨v,S,e,f,g⟩:=pk c H;exact Mc _ _ _ (g h f) _ e
 .exact vW c H
def yW(P:Program)(n:Nat)(O:Array Oper):List Oper->Env->ak->(Env->ak->Prop)->Prop
 | [],σ,h,K=>K σ h
 |o::rest,σ,h,K=>jo O o σ
   (λσ=>xp P o σ h λv h'=>iQ n σ o.dst v λc=>yW P n O rest c h' K)
   (λσ=>iQ n σ o.dst undef λc=>yW P n O rest c h K)
def cP(O:Array Oper):List Nat:=O.toList.filterMap (·.dst)
theorem eS{i:Nat}(H:O[i]? =some o): ∀d,o.dst=some d->d∈cP O:=λd hd=>by
 unfold cP;rw[List.mem_filterMap];exact⟨o,by simpa using Array.mem_of_getElem? H,hd⟩
def x3(n:Nat)(a0:Act)(w0:World)(W:List Nat)(K:Env->ak->Prop):Exit->Act->World->Prop:=
 λe a w=>e=.normal/\∃σ,Rel n σ a/\K σ w.heap/\fM w0 w/\fH W a0 a
theorem vX : ∀(rest:List Oper)(k:Nat)(σ:Env)(a:Act)(w:World),
  (∀j,rest[j]? =O[k+j]?)->Rel n σ a->fM w0 w->fH (cP O) a0 a->yW P n O rest σ w.heap K->wpOps P O (x3 n a0 w0 (cP O) K) (List.range' k rest.length) a w
 | [],k,σ,a,w,_,g,c,d,h=>⟨rfl,σ,g,h,c,d⟩
 |o::rest,k,σ,a,w,q,g,c,d,h=>by
  have e:O[k]? =some o:=by have:=q 0;simpa using this.symm
  have r: ∀j,rest[j]? =O[k+1+j]? :=λj=>by have:=q (j+1);simpa[Nat.add_assoc,Nat.add_comm 1 j]using this
  simp only[aW,List.range'_succ,wpOps,e];simp only[yW]at h;rcases jH g h with⟨m,x,H,h⟩|⟨m,x,H,h⟩
  .rw[ah m];refine .inl ((oA H.fits h).wp ?_);intro v w' hk u;obtain⟨p,i,f⟩:=iZ H hk;exact vX rest (k+1) p _ w' r i (c.trans u) (d.trans (fH.put (eS e))) f
  .rw[af (by rw[m];simp)];obtain⟨p,i,f⟩:=iZ H h;exact vX rest (k+1) p _ w r i c (d.trans (fH.put (eS e))) f
def Ml:List (Nat×Sh)->Nat->Option Sh
 | [],_=>none
 |(t,s)::L,d=>(match Nat.beq t d with|true=>some s|false=>Ml L d)
def Et(ty:List (Nat×Sh))(D:Option Nat)(v:Value)(F:Value->Prop):Prop:=
 match D with
 |none=>F v
 |some d=>(match Ml ty d with|some s=>s.ex λV=>v=V/\F V|none=>F v)
theorem qx(h:Et ty D v F):F v:=by
 unfold Et at h;split at h
 .exact h
 .split at h
  .obtain⟨V,e,h⟩:=Sh.mf h;subst e;exact h
  .exact h
def uJ(P:Program)(n:Nat)(O:Array Oper)(ty:List (Nat×Sh)):List Oper->Env->ak->(Env->ak->Prop)->Prop
 | [],σ,h,K=>K σ h
 |o::rest,σ,h,K=>jo O o σ
   (λσ=>xp P o σ h λv h'=>Et ty o.dst v λv=>iQ n σ o.dst v λc=>uJ P n O ty rest c h' K)
   (λσ=>iQ n σ o.dst undef λc=>uJ P n O ty rest c h K)
theorem tn : ∀(rest:List Oper)(k:Nat)(σ:Env)(a:Act)(w:World),
  (∀j,rest[j]? =O[k+j]?)->Rel n σ a->fM w0 w->fH (cP O) a0 a->uJ P n O ty rest σ w.heap K->wpOps P O (x3 n a0 w0 (cP O) K) (List.range' k rest.length) a w
 | [],k,σ,a,w,_,g,c,d,h=>⟨rfl,σ,g,h,c,d⟩
 |o::rest,k,σ,a,w,q,g,c,d,h=>by
  have e:O[k]? =some o:=by have:=q 0;simpa using this.symm
  have r: ∀j,rest[j]? =O[k+1+j]? :=λj=>by have:=q (j+1);simpa[Nat.add_assoc,Nat.add_comm 1 j]using this
  simp only[aW,List.range'_succ,wpOps,e];simp only[uJ]at h;rcases jH g h with⟨m,x,H,h⟩|⟨m,x,H,h⟩
  .rw[ah m];refine .inl ((oA H.fits h).wp ?_);intro v w' hk u;obtain⟨p,i,f⟩:=iZ H (qx hk);exact tn rest (k+1) p _ w' r i (c.trans u) (d.trans (fH.put (eS e))) f
  .rw[af (by rw[m];simp)];obtain⟨p,i,f⟩:=iZ H h;exact tn rest (k+1) p _ w r i c (d.trans (fH.put (eS e))) f

end
def waits(o:Oper)(i:Nat):Bool:=o.after.toList.any λe=>Region.binds .any e && Nat.beq e.on i
def fT(o:Oper)(G:List (Nat×(ak->Prop))):List (Nat×(ak->Prop)):=G.filter λg=> !waits o g.1
theorem jm{o:Oper}{G:List (Nat×(ak->Prop))}{g:Nat×(ak->Prop)}(h:g∈fT o G):g∈G:=(ba.1 h).1
def ij(P:Program)(O:Array Oper)(Q:Exit->Act->World->Prop):Nat->List (Nat×(ak->Prop))->Array Bool->Act->World->Prop
 |0,_,l,a,w=>Region.ready .any O l= []/\Q .normal a w
 |fuel+1,G,l,a,w=>
  (Region.ready .any O l= []->Q .normal a w)/\
  ∀j∈Region.ready .any O l,∀o,O[j]? =some o->wpOp P O Q j (λA w'=>(∀g∈fT o G,g.2 w'.heap)/\ij P O Q fuel (fT o G) (l.setIfInBounds j true) A w') a w
section
variable {P : Program} {O : Array Oper} {Q : Exit → Act → World → Prop}
theorem pq: ∀(fuel:Nat)(G:List (Nat×(ak->Prop)))(l:Array Bool)(a:Act)(w:World),ij P O Q fuel G l a w->wpAny P .any O Q fuel l a w
 |0,_,_,_,_,h=>h
 |fuel+1,G,l,a,w,h=>⟨h.1,λi H=>by
   obtain⟨_,o,b,_⟩:=mem_ready.1 H;exact wpOp_mono (λA w' h'=>pq fuel _ _ A w' h'.2) (h.2 i H o b)⟩
theorem kT: ∀(fuel:Nat)(G b:List (Nat×(ak->Prop)))(l:Array Bool)(a:Act)(w:World),(∀g∈b,g∈G)->ij P O Q fuel G l a w->ij P O Q fuel b l a w
 |0,_,_,_,_,_,_,h=>h
 |fuel+1,G,b,l,a,w,e,h=>⟨h.1,λi c o d=>by
   have hk: ∀g∈fT o b,g∈fT o G:=λg H=>ba.2 ⟨e g (jm H),(ba.1 H).2⟩
   exact wpOp_mono (λA w' h'=>⟨λg H=>h'.1 g (hk g H),kT fuel _ _ _ A w' hk h'.2⟩) (h.2 i c o d)⟩
theorem nA(i:Nat): ∀(fuel:Nat)(G:List (Nat×(ak->Prop)))(l:Array Bool)(a:Act)(w:World),ij P O Q fuel G l a w->ij P O Q fuel ((i,λ_=>True)::G) l a w
 |0,_,_,_,_,h=>h
 |fuel+1,G,l,a,w,h=>⟨h.1,λj d o f=>by
   refine wpOp_mono (λA w' h'=>⟨λg c=> ?_,?_⟩) (h.2 j d o f)
   .obtain⟨H,b⟩:=ba.1 c;rcases bG.1 H with e|e
    .rw[e];trivial
    .exact h'.1 g (ba.2 ⟨e,b⟩)
   .have:=nA i fuel _ _ A w' h'.2;refine kT fuel _ _ _ A w' (λg c=> ?_) this;obtain⟨H,b⟩:=ba.1 c;rcases bG.1 H with e|e
    .rw[e];exact df
    .exact ct _ (ba.2 ⟨e,b⟩)⟩
theorem Eu{o:Oper}{i:Nat}(h: ∀e∈o.after,Region.binds .any e=true->e.on≠i):waits o i=false:=by
 unfold waits;rw[List.any_eq_false];intro e a;simp only[aS,not_and];intro H b;exact h e (by simpa using a) H (bT b)
theorem ps{i:Nat}{q:Oper}{v:Value}{S:ak->Prop}(z:O[i]? =some q)(J: ∀(j:Nat) (o:Oper) cs b,O[j]? =some o->o.op≠ .select cs b)(R: ∀c a w,Q (.panic c) (a.put q.dst v) w->Q (.panic c) a w):
  ∀(F:Nat)(G:List (Nat×(ak->Prop)))(l:Array Bool)(a:Act)(w:World),
   (∀j d,O[j]? =some d->j≠i->l.getD j true=false->(∀e∈d.after,Region.binds .any e=true->e.on≠i)->q.apart O d=true)->
   i∈Region.ready .any O l->YieldsIf P O (λw=>S w.heap) q v a->S w.heap->(∀g∈G,g.2 w.heap)->
   ij P O Q F ((i,S)::G) (l.setIfInBounds i true) (a.put q.dst v) w->ij P O Q (F+1) G l a w:=by
 intro F;induction F with
 |zero=>
  intro G l a w _ p t x u H;refine⟨λh=>(by rw[h]at p;cases p),λj s o A=> ?_⟩;by_cases n:j=i
  .subst n;exact t.wpOp z x ⟨λg f=>u g (jm f),H⟩
  .have:=ready_mono s n;rw[H.1]at this;cases this
 |succ F ih=>
  intro G l a w C p t x u H;refine⟨λh=>(by rw[h]at p;cases p),λj s o A=> ?_⟩;by_cases n:j=i
  .subst n;refine t.wpOp z x ⟨λg f=>u g (jm f),kT _ _ _ _ _ _ (λg f=>ct _ (jm f)) H⟩
  .have m:=H.2 j (ready_mono s n) o A;obtain⟨E,d,r,T⟩:=mem_ready.1 s;obtain rfl:d=o:=by rw[A]at r;exact(bp r).symm
   have I: ∀e∈d.after,Region.binds .any e=true->e.on≠i:=λe V U W=>by
    have m:=T e V U;have B:=(mem_ready.1 p).1;rw[W]at m;rcases Nat.lt_or_ge i l.size with h'|h'
    .simp[h']at B m;rw[B]at m;cases m
    .simp[Array.getElem?_eq_none h']at m
   have Y:fT d ((i,S)::G)=(i,S)::fT d G:=by
    unfold fT;rw[cz,ah];simp[Eu I]
   rw[Y]at m;have M:=wpOp_putIf r (C j d r n E I) (λcs b=>J i q cs b z) (λcs b=>J j d cs b r) R t m;have X: ∀k ok,O[k]? =some ok->k≠i->(l.setIfInBounds j true).getD k true=false->
     (∀e∈ok.after,Region.binds .any e=true->e.on≠i)->q.apart O ok=true:=λk ok hk Z K a'=>by
    refine C k ok hk Z ?_ a';by_cases D:j=k
    .subst D;exact E
    .rw[getD_set_ne true D]at K;exact K
   refine wpOp_mono (λL w' N=> ?_) M;obtain⟨c',y,b'⟩:=N;refine⟨λg f=>y g (ct _ f),?_⟩;refine ih (fT d G) (l.setIfInBounds j true) L w' X (ready_mono p (fv n)) c' (y _ df) (λg f=>y g (ct _ f)) ?_;rw[Array.setIfInBounds_comm _ _ n];exact b'
end
inductive pZ where
 |done
 |op (i:Nat) (p:pZ)
 |alts (q:pZ)
 |fork (i:Nat) (p q:pZ)
 |gy
def sg:pZ->Nat->Bool
 | .done,n=>Nat.beq n 0
 | .op _ p,n+1=>sg p n
 | .alts q,n+1=>sg q (n+1)
 | .fork _ p q,n+1=>sg p n && sg q (n+1)
 | .gy,_=>true
 |_,_=>false
def iO(P:Program)(O:Array Oper):pZ->Option (List Nat)->Array Bool->Bool
 | .done,none,l=>(Region.ready .any O l).isEmpty
 | .op i rest,none,l=>
  (match O[i]? with
   |some o=>(match lT P o with
    |true=>(Region.ready .any O l).contains i && Region.free .any O l i
    |false=>(match Region.ready .any O l with| [j]=>Nat.beq i j|_=>false))
   |none=>false) && iO P O rest none (l.setIfInBounds i true)
 | .alts q,none,l=>(match Region.ready .any O l with| []=>false|j::J=>iO P O q (some (j::J)) l)
 | .fork i p q,some R,l=>(match O[i]? with
   |some o=> !lT P o
   |none=>false) && iO P O p none (l.setIfInBounds i true) && iO P O q (some (R.filter λj=> !Nat.beq i j)) l
 | .gy,some R,_=>R.isEmpty
 |_,_,_=>false
def qA(h:ak)(K:Prop):List (Nat×(ak->Prop))->Prop
 | []=>K
 |g::G=>g.2 h/\qA h K G
theorem uL{h:ak}{K:Prop}: ∀{G:List (Nat×(ak->Prop))},qA h K G->(∀g∈G,g.2 h)/\K
 | [],H=>⟨(λ_ a=>by cases a),H⟩
 |_::_,H=>by
  obtain⟨b,c⟩:=uL H.2;refine⟨λd a=> ?_,c⟩;rcases bG.1 a with e|e
  .rw[e];exact H.1
  .exact b _ e
def uM(i:Nat)(S:Option (ak->Prop))(G:List (Nat×(ak->Prop))):List (Nat×(ak->Prop)):=
 match S with
 |some S=>(i,S)::G
 |none=>G
def iR(P:Program)(n:Nat)(O:Array Oper):pZ->List (Nat×(ak->Prop))->Env->ak->(Env->ak->Prop)->Prop
 | .done,_,σ,h,K=>K σ h
 | .op i rest,G,σ,h,K=>(match O[i]? with
  |some o=>jo O o σ
    (λσ=>(match lT P o with
     |true=>ny P o σ h λv S=>iQ n σ o.dst v λa=>iR P n O rest (uM i S G) a h K
     |false=>ph P o σ h λv h'=>qA h' (iQ n σ o.dst v λa=>iR P n O rest (fT o G) a h' K) (fT o G)))
    (λσ=>iQ n σ o.dst undef λa=>iR P n O rest G a h K)
  |none=>False)
 | .alts q,G,σ,h,K=>iR P n O q G σ h K
 | .fork i rest q,G,σ,h,K=>(match O[i]? with
  |some o=>jo O o σ
    (λσ=>ph P o σ h λv h'=>qA h' (iQ n σ o.dst v λa=>iR P n O rest (fT o G) a h' K) (fT o G))
    (λσ=>iQ n σ o.dst undef λa=>iR P n O rest G a h K)
  |none=>False)/\iR P n O q G σ h K
 | .gy,_,_,_,_=>True
theorem yX{P:Program}{n:Nat}{O:Array Oper}{K:Env->ak->Prop}{a0:Act}{w0:World}{rest:pZ}{i m:Nat}{o:Oper}{L:Array Bool}{G:List (Nat×(ak->Prop))}{σ:Env}{a:Act}{w:World}(I: ∀G σ a w,Rel n σ a->fM w0 w->fH (cP O) a0 a->(∀g∈G,g.2 w.heap)->iR P n O rest G σ w.heap K->ij P O (x3 n a0 w0 (cP O) K) m G (L.setIfInBounds i true) a w)(H:O[i]? =some o)(t:Rel n σ a)(q:fM w0 w)(r:fH (cP O) a0 a)(p: ∀g∈G,g.2 w.heap)(h:jo O o σ (λσ=>ph P o σ w.heap λv h'=>qA h' (iQ n σ o.dst v λb=>iR P n O rest (fT o G) b h' K) (fT o G)) (λσ=>iQ n σ o.dst undef λb=>iR P n O rest G b w.heap K)):
  wpOp P O (x3 n a0 w0 (cP O) K) i (λA w'=>(∀g∈fT o G,g.2 w'.heap)/\ij P O (x3 n a0 w0 (cP O) K) m (fT o G) (L.setIfInBounds i true) A w') a w:=by
 rcases jH t h with⟨j,b,c,h⟩|⟨j,b,c,x⟩
 .unfold wpOp;simp only[H,j,bg];refine .inl ((vW c.fits h).wp ?_);intro v w' hk u;obtain⟨l,s⟩:=uL hk;obtain⟨k,f,d⟩:=iZ c s;exact⟨l,I _ k _ w' f (q.trans u) (r.trans (fH.put (eS H))) l d⟩
 .unfold wpOp;simp only[H,j,au,aM];obtain⟨k,f,d⟩:=iZ c x;have I:=I G k _ w f q (r.trans (fH.put (eS H))) p d;exact⟨λg e=>p g (jm e),kT _ _ _ _ _ _ (λg e=>jm e) I⟩
theorem C0{P:Program}{n:Nat}{O:Array Oper}{K:Env->ak->Prop}{a0:Act}{w0:World}(a':Region.noSelect O=true)(gT:pZ):
  (∀(m:Nat)(l:Array Bool)(G:List (Nat×(ak->Prop)))(σ:Env)(a:Act)(w:World),sg gT m=true->
   iO P O gT none l=true->Rel n σ a->fM w0 w->fH (cP O) a0 a->(∀g∈G,g.2 w.heap)->iR P n O gT G σ w.heap K->
   ij P O (x3 n a0 w0 (cP O) K) m G l a w)/\
  (∀(m:Nat)(R:List Nat)(l:Array Bool)(G:List (Nat×(ak->Prop)))(σ:Env)(a:Act)(w:World),sg gT (m+1)=true->
   iO P O gT (some R) l=true->Rel n σ a->fM w0 w->fH (cP O) a0 a->(∀g∈G,g.2 w.heap)->iR P n O gT G σ w.heap K->
   ∀j∈R,∀o,O[j]? =some o->wpOp P O (x3 n a0 w0 (cP O) K) j (λQ w'=>(∀g∈fT o G,g.2 w'.heap)/\ij P O (x3 n a0 w0 (cP O) K) m (fT o G) (l.setIfInBounds j true) Q w') a w):=by
 induction gT with
 |done=>
  refine⟨λm l G σ a w b H f k p d h=> ?_,λm R l G σ a w b H=>by cases H⟩;obtain rfl:m=0:=bT b;simp only[iO,List.isEmpty_iff]at H;exact⟨H,rfl,σ,f,h,k,p⟩
 |gy=>
  refine⟨λm l G σ a w b H=>(by cases H),λm R l G σ a w b H f k p d h j t=> ?_⟩;simp only[iO,List.isEmpty_iff]at H;subst H;cases t
 |alts q I=>
  refine⟨λm l G σ a w b H f k p d h=> ?_,λm R l G σ a w b H=>by cases H⟩;cases m with
  |zero=>cases b
  |succ m=>
   simp only[iO]at H;split at H
   .cases H
   .rename_i j js z;refine⟨(λe=>by rw[z]at e;cases e),λj' L o r=> ?_⟩;rw[z]at L;exact I.2 m _ l G σ a w b H f k p d h j' L o r
 |fork i rest q c' d'=>
  refine⟨λm l G σ a w b H=>(by cases H),λm R l G σ a w b H f k p d h j t o r=> ?_⟩;simp only[iO,aS]at H;obtain⟨⟨s,B⟩,Z⟩:=H;simp only[sg,aS]at b;simp only[iR]at h;by_cases M:i=j
  .subst M;have h:=h.1;rw[r]at h;exact yX (λG σ a w f k p d h=>c'.1 m _ G σ a w b.1 B f k p d h) r f k p d h
  .refine d'.2 m _ l G σ a w b.2 Z f k p d h.2 j (ba.2 ⟨t,?_⟩) o r;have:Nat.beq i j=false:=by cases Y:Nat.beq i j;rfl;exact absurd (bT Y) M
   simp[this]
 |op i rest I=>
  refine⟨λm l G σ a w b H f k p d h=> ?_,λm R l G σ a w b H=>by cases H⟩;cases m with
  |zero=>cases b
  |succ m=>
   simp only[iO,aS]at H;obtain⟨s,B⟩:=H;simp only[iR]at h;split at h
   .rename_i o r;simp only[r]at s;have X: ∀v,∀c a w,x3 n a0 w0 (cP O) K (.panic c) (a.put o.dst v) w->x3 n a0 w0 (cP O) K (.panic c) a w:=λv c a w hq=>by cases hq.1
    have take: ∀(v:Value)(S:Option (ak->Prop))(y:Env),lT P o=true->Rel n y (a.put o.dst v)->YieldsIf P O (λw=>pj S w.heap) o v a->pj S w.heap->
      iR P n O rest (uM i S G) y w.heap K->ij P O (x3 n a0 w0 (cP O) K) (m+1) G l a w:=λv S y x u hy A hd=>by
     rw[x]at s;simp only[aS]at s;have W: ∀g∈uM i S G,g.2 w.heap:=by
      intro g J;cases S with
      |none=>exact d g J
      |some S=>
       rcases bG.1 J with e|e
       .rw[e];exact A
       .exact d g e
     have I:=I.1 m _ (uM i S G) y (a.put o.dst v) w b B u k (p.trans (fH.put (eS r))) W hd;refine ps (S:=pj S) r (Region.noSelect_spec a') (X v) m G l a w (Region.free_spec r s.2) (by simpa using s.1) hy A d ?_;cases S with
     |none=>exact nA i _ _ _ _ _ I
     |some S=>exact I
    cases x:lT P o with
    |true=>
     rcases jH f h with⟨E,y,u,h⟩|⟨E,y,u,b'⟩
     .rw[x]at h;obtain⟨v,S,T,U,V⟩:=pk u.fits h;obtain⟨F,D,C⟩:=iZ u T;exact take v S F x D (.inl ⟨E,λw' A=>qk _ _ _ (V _ A)⟩) U C
     .obtain⟨F,D,C⟩:=iZ u b';exact take undef none F x D (.inr ⟨E,rfl⟩) trivial C
    |false=>
     rw[x]at s h;simp only at s h;have z:Region.ready .any O l= [i]:=by
      split at s
      .rename_i j t;rw[t,bT s]
      .cases s
     refine⟨(λe=>by rw[z]at e;cases e),λj t o' N=> ?_⟩;rw[z]at t;obtain rfl:j=i:=by simpa using t
     obtain rfl:o'=o:=by rw[r]at N;exact(bp N).symm
     exact yX (λG σ a w f k p d h=>I.1 m _ G σ a w b B f k p d h) r f k p d h
   .exact h.elim
def ga:Nat->Nat->pZ->pZ
 |0,_,p=>p
 |k+1,i,p=> .op i (ga k (i+1) p)
def sP(o:Oper)(B:List (Nat×bZ)):List (Nat×bZ):=B.filter λg=> !waits o g.1
def U6(h h':ak)(K:Prop):List (Nat×bZ)->Prop
 | []=>K
 |B=>Kp h h' (B.map (·.2))/\K
theorem RX{h h':ak}{K:Prop}{B:List (Nat×bZ)}(H:U6 h h' K B):(∀g∈B,lE g.2 h h')/\K:=by
 cases B with
 |nil=>exact⟨(λ_ c=>by cases c),H⟩
 |cons b B=>exact⟨λg a=>H.1 g.2 (bj.2 ⟨g,a,rfl⟩),H.2⟩
def gP(P:Program)(n:Nat)(O:Array Oper):pZ->List (Nat×(ak->Prop))->List (Nat×bZ)->Env->ak->(Env->ak->Prop)->Prop
 | .done,_,_,σ,h,K=>K σ h
 | .op i rest,G,B,σ,h,K=>(match O[i]? with
  |some o=>jo O o σ
    (λσ=>(match lT P o with
     |true=>ny P o σ h λv S=>iQ n σ o.dst v λa=>(match CW σ o with
      |some p=>gP P n O rest G ((i,p)::B) a h K
      |none=>gP P n O rest (uM i S G) B a h K)
     |false=>ph P o σ h λv h'=>qA h' (U6 h h' (iQ n σ o.dst v λa=>gP P n O rest (fT o G) (sP o B) a h' K) (sP o B)) (fT o G)))
    (λσ=>iQ n σ o.dst undef λa=>gP P n O rest G B a h K)
  |none=>False)
 | .alts q,G,B,σ,h,K=>gP P n O q G B σ h K
 | .fork i rest q,G,B,σ,h,K=>(match O[i]? with
  |some o=>jo O o σ
    (λσ=>ph P o σ h λv h'=>qA h' (U6 h h' (iQ n σ o.dst v λa=>gP P n O rest (fT o G) (sP o B) a h' K) (sP o B)) (fT o G))
    (λσ=>iQ n σ o.dst undef λa=>gP P n O rest G B a h K)
  |none=>False)/\gP P n O q G B σ h K
 | .gy,_,_,_,_,_=>True
def GB(F G:List (Nat×(ak->Prop)))(B:List (Nat×bZ))(h:ak):Prop:= ∀f∈F,f∈G\/∃p,(f.1,p)∈B/\∀h',lE p h h'->f.2 h'
theorem GB.step{F G:List (Nat×(ak->Prop))}{B:List (Nat×bZ)}{h h':ak}{o:Oper}(H:GB F G B h)(j: ∀g∈fT o G,g.2 h')(k: ∀g∈sP o B,lE g.2 h h'):(∀f∈fT o F,f.2 h')/\GB (fT o F) (fT o G) (sP o B) h':=by
 have key: ∀f∈fT o F,f.2 h'/\(f∈fT o G\/∃p,(f.1,p)∈sP o B/\∀c,lE p h' c->f.2 c):=λf b=>by
  obtain⟨l,d⟩:=ba.1 b;rcases H f l with a|⟨p,m,hk⟩
  .have:f∈fT o G:=ba.2 ⟨a,d⟩;exact⟨j f this,.inl this⟩
  .have e:(f.1,p)∈sP o B:=ba.2 ⟨m,d⟩;have i:=k _ e;exact⟨hk _ i,.inr ⟨p,e,λc q=>hk _ (lE.trans i q)⟩⟩
 exact⟨λf b=>(key f b).1,λf b=>(key f b).2⟩
theorem xq{P:Program}{n:Nat}{O:Array Oper}{K:Env->ak->Prop}{a0:Act}{w0:World}{rest:pZ}{i m:Nat}{o:Oper}{L:Array Bool}{F G:List (Nat×(ak->Prop))}{B:List (Nat×bZ)}{σ:Env}{a:Act}{w:World}(I: ∀F G B σ a w,Rel n σ a->fM w0 w->fH (cP O) a0 a->(∀g∈F,g.2 w.heap)->GB F G B w.heap->gP P n O rest G B σ w.heap K->ij P O (x3 n a0 w0 (cP O) K) m F (L.setIfInBounds i true) a w)(c:O[i]? =some o)(u:Rel n σ a)(r:fM w0 w)(s:fH (cP O) a0 a)(p: ∀g∈F,g.2 w.heap)(q:GB F G B w.heap)(h:jo O o σ (λσ=>ph P o σ w.heap λv h'=>qA h' (U6 w.heap h' (iQ n σ o.dst v λb=>gP P n O rest (fT o G) (sP o B) b h' K) (sP o B)) (fT o G)) (λσ=>iQ n σ o.dst undef λb=>gP P n O rest G B b w.heap K)):
  wpOp P O (x3 n a0 w0 (cP O) K) i (λA w'=>(∀g∈fT o F,g.2 w'.heap)/\ij P O (x3 n a0 w0 (cP O) K) m (fT o F) (L.setIfInBounds i true) A w') a w:=by
 rcases jH u h with⟨k,b,d,h⟩|⟨k,b,d,y⟩
 .unfold wpOp;simp only[c,k,bg];refine .inl ((vW d.fits h).wp ?_);intro v w' hk x;obtain⟨t,e⟩:=uL hk;obtain⟨e,H⟩:=RX e;obtain⟨l,j,H⟩:=iZ d H;obtain⟨q1,q2⟩:=q.step t e;exact⟨q1,I _ _ _ l _ w' j (r.trans x) (s.trans (fH.put (eS c))) q1 q2 H⟩
 .unfold wpOp;simp only[c,k,au,aM];obtain⟨l,j,H⟩:=iZ d y;have I:=I F G B l _ w j r (s.trans (fH.put (eS c))) p q H;exact⟨λg f=>p g (jm f),kT _ _ _ _ _ _ (λg f=>jm f) I⟩
theorem Bg{P:Program}{n:Nat}{O:Array Oper}{K:Env->ak->Prop}{a0:Act}{w0:World}(i':Region.noSelect O=true)(gT:pZ):
  (∀(m:Nat)(l:Array Bool)(F G:List (Nat×(ak->Prop)))(B:List (Nat×bZ))(σ:Env)(a:Act)(w:World),sg gT m=true->
   iO P O gT none l=true->Rel n σ a->fM w0 w->fH (cP O) a0 a->(∀g∈F,g.2 w.heap)->GB F G B w.heap->gP P n O gT G B σ w.heap K->
   ij P O (x3 n a0 w0 (cP O) K) m F l a w)/\
  (∀(m:Nat)(R:List Nat)(l:Array Bool)(F G:List (Nat×(ak->Prop)))(B:List (Nat×bZ))(σ:Env)(a:Act)(w:World),sg gT (m+1)=true->
   iO P O gT (some R) l=true->Rel n σ a->fM w0 w->fH (cP O) a0 a->(∀g∈F,g.2 w.heap)->GB F G B w.heap->gP P n O gT G B σ w.heap K->
   ∀j∈R,∀o,O[j]? =some o->wpOp P O (x3 n a0 w0 (cP O) K) j (λa' w'=>(∀g∈fT o F,g.2 w'.heap)/\ij P O (x3 n a0 w0 (cP O) K) m (fT o F) (l.setIfInBounds j true) a' w') a w):=by
 induction gT with
 |done=>
  refine⟨λm l F G B σ a w b H r s t k d h=> ?_,λm R l F G B σ a w b H=>by cases H⟩;obtain rfl:m=0:=bT b;simp only[iO,List.isEmpty_iff]at H;exact⟨H,rfl,σ,r,h,s,t⟩
 |gy=>
  refine⟨λm l F G B σ a w b H=>(by cases H),λm R l F G B σ a w b H r s t k d h j y=> ?_⟩;simp only[iO,List.isEmpty_iff]at H;subst H;cases y
 |alts q I=>
  refine⟨λm l F G B σ a w b H r s t k d h=> ?_,λm R l F G B σ a w b H=>by cases H⟩;cases m with
  |zero=>cases b
  |succ m=>
   simp only[iO]at H;split at H
   .cases H
   .rename_i j js L;refine⟨(λe=>by rw[L]at e;cases e),λj' b' o u=> ?_⟩;rw[L]at b';exact I.2 m _ l F G B σ a w b H r s t k d h j' b' o u
 |fork i rest q l' m'=>
  refine⟨λm l F G B σ a w b H=>(by cases H),λm R l F G B σ a w b H r s t k d h j y o u=> ?_⟩;simp only[iO,aS]at H;obtain⟨⟨x,U⟩,h'⟩:=H;simp only[sg,aS]at b;simp only[gP]at h;by_cases c':i=j
  .subst c';have h:=h.1;rw[u]at h;exact xq (λF G B σ a w r s t k d h=>l'.1 m _ F G B σ a w b.1 U r s t k d h) u r s t k d h
  .refine m'.2 m _ l F G B σ a w b.2 h' r s t k d h.2 j (ba.2 ⟨y,?_⟩) o u;have:Nat.beq i j=false:=by cases hb:Nat.beq i j;rfl;exact absurd (bT hb) c'
   simp[this]
 |op i rest I=>
  refine⟨λm l F G B σ a w b H r s t k d h=> ?_,λm R l F G B σ a w b H=>by cases H⟩;cases m with
  |zero=>cases b
  |succ m=>
   simp only[iO,aS]at H;obtain⟨x,U⟩:=H;simp only[gP]at h;split at h
   .rename_i o u;simp only[u]at x;have hQ: ∀v,∀c a w,x3 n a0 w0 (cP O) K (.panic c) (a.put o.dst v) w->x3 n a0 w0 (cP O) K (.panic c) a w:=λv c a w hq=>by cases hq.1
    have take: ∀(v:Value)(S:Option (ak->Prop))(C:Env)(Q:List (Nat×(ak->Prop)))(N:List (Nat×bZ)),lT P o=true->Rel n C (a.put o.dst v)->YieldsIf P O (λw=>pj S w.heap) o v a->pj S w.heap->GB (uM i S F) Q N w.heap->
      gP P n O rest Q N C w.heap K->ij P O (x3 n a0 w0 (cP O) K) (m+1) F l a w:=λv S C Q N A z hy D g' hd=>by
     rw[A]at x;simp only[aS]at x;have f': ∀g∈uM i S F,g.2 w.heap:=by
      intro g hg;cases S with
      |none=>exact k g hg
      |some S=>
       rcases bG.1 hg with e|e
       .rw[e];exact D
       .exact k g e
     have I:=I.1 m _ (uM i S F) Q N C (a.put o.dst v) w b U z s (t.trans (fH.put (eS u))) f' g' hd;refine ps (S:=pj S) u (Region.noSelect_spec i') (hQ v) m F l a w (Region.free_spec u x.2) (by simpa using x.1) hy D k ?_;cases S with
     |none=>exact nA i _ _ _ _ _ I
     |some S=>exact I
    have gb: ∀(S:Option (ak->Prop)),GB (uM i S F) (uM i S G) B w.heap:=λS f T=>by
     cases S with
     |none=>exact d f T
     |some S=>
      rcases bG.1 T with e|e
      .exact .inl (e▸df)
      .exact(d f e).imp (ct _) id
    cases A:lT P o with
    |true=>
     rcases jH r h with⟨V,C,z,h⟩|⟨V,C,z,k'⟩
     .rw[A]at h;dsimp only at h;cases Z:CW C o with
      |some p=>
       rw[Z]at h;obtain⟨v,S,W,X,E,Y⟩:=CX z.fits Z h;obtain⟨M,J,e'⟩:=iZ z W;refine take v (some S) M G ((i,p)::B) A J (.inl ⟨V,λw' D=>qk _ _ _ (Y _ D)⟩) X (λf T=> ?_) e';rcases bG.1 T with e|e
       .exact .inr ⟨p,e▸df,e▸E⟩
       .exact(d f e).imp id λ⟨q,hq,hk⟩=>⟨q,ct _ hq,hk⟩
      |none=>
       rw[Z]at h;obtain⟨v,S,W,X,Y⟩:=pk z.fits h;obtain⟨M,J,E⟩:=iZ z W;exact take v S M _ B A J (.inl ⟨V,λw' D=>qk _ _ _ (Y _ D)⟩) X (gb S) E
     .obtain⟨M,J,E⟩:=iZ z k';exact take undef none M G B A J (.inr ⟨V,rfl⟩) trivial d E
    |false=>
     rw[A]at x h;simp only at x h;have L:Region.ready .any O l= [i]:=by
      split at x
      .rename_i j y;rw[y,bT x]
      .cases x
     refine⟨(λe=>by rw[L]at e;cases e),λj y o' d'=> ?_⟩;rw[L]at y;obtain rfl:j=i:=by simpa using y
     obtain rfl:o'=o:=by rw[u]at d';exact(bp d').symm
     exact xq (λF G B σ a w r s t k d h=>I.1 m _ F G B σ a w b U r s t k d h) u r s t k d h
   .exact h.elim
inductive uD where
 |leaf
 |seq (a b:uD)
 |cond (a b:uD)
 |block (a:uD)
 |loop (L:List (Nat×Sh)) (a:uD)
 |join (L:List (Nat×Sh)) (a:uD)
 |gT (p:pZ)
 |kC (p:pZ)
 |scope (l:Nat) (L:List (Nat×Sh)) (a b:uD)
 |typed (ty:List (Nat×Sh))
def writes:Code->List Nat
 | .region _ o _=>cP o
 | .seq a b=>writes a++writes b
 | .cond _ a b=>writes a++writes b
 | .block _ a=>writes a
 | .loop a=>writes a
 | .scope a=>writes a
 |_=> []
def Env.forget(σ:Env)(ws:List Nat):Env:=λt=>bif ws.any (Nat.beq t)then none else σ t
theorem Env.xr{σ:Env}{ws:List Nat}{t:Nat}{v:Value}(h:σ.forget ws t=some v):t∉ws/\σ t=some v:=by
 unfold Env.forget at h;cases H:ws.any (Nat.beq t)with
 |true=>rw[H]at h;cases h
 |false=>
  rw[H]at h;refine⟨λa=> ?_,h⟩;have:=List.any_eq_false.1 H t a;simp at this
def I5(K:Env->ak->Prop)(Q:Exit->Env->ak->Prop):Exit->Env->ak->Prop
 | .normal=>K
 |e=>Q e
def Mn(id:Nat)(Q:Exit->Env->ak->Prop):Exit->Env->ak->Prop
 | .exit i=>(match Nat.beq i id with|true=>Q .normal|false=>Q (.exit i))
 |e=>Q e
def aI{α:Type}(F:α)(B:α->Prop):Prop:=B F
def xu(l:Nat)(K:Env->ak->Prop)(Q:Exit->Env->ak->Prop):Exit->Env->ak->Prop
 | .goto L=>(match Nat.beq L l with|true=>K|false=>λ_ _=>False)
 |e=>Q e
def oB:Code->Nat->Bool
 | .seq a b,l=>oB a l||oB b l
 | .label L,l=>Nat.beq L l
 |_,_=>false
def den(P:Program)(n:Nat):uD->Option Nat->Code->(Exit->Env->ak->Prop)->Env->ak->Prop
 | .leaf,none,c,Q,σ,h=>(match c with
  | .skip=>Q .normal σ h
  | .label _=>Q .normal σ h
  | .exit id=>Q (.exit id) σ h
  | .goto l=>Q (.goto l) σ h
  | .ret=>Q .ret σ h
  | .region _ o false=>yW P n o o.toList σ h (Q .normal)
  |_=>False)
 | .leaf,some l,c,Q,σ,h=>(match c with
  | .label j=>(match Nat.beq j l with|true=>Q (.goto l) σ h|false=>False)
  |_=>False)
 | .gT p,none,c,Q,σ,h=>(match c with
  | .region _ o true=>(match (P.follows .mixedOrders && Region.noSelect o && sg p o.size && iO P o p none (Array.replicate o.size false))with
   |true=>iR P n o p [] σ h (Q .normal)
   |false=>False)
  |_=>False)
 | .kC p,none,c,Q,σ,h=>(match c with
  | .region _ o true=>(match (P.follows .mixedOrders && Region.noSelect o && sg p o.size && iO P o p none (Array.replicate o.size false))with
   |true=>gP P n o p [] [] σ h (Q .normal)
   |false=>False)
  |_=>False)
 | .seq a b,none,c,Q,σ,h=>(match c with
  | .seq c d=>den P n a none c (I5 (λe h'=>den P n b none d Q e h') Q) σ h
  |_=>False)
 | .seq a b,some l,c,Q,σ,h=>(match c with
  | .seq c d=>(match oB c l with
   |true=>den P n a (some l) c Q σ h
   |false=>den P n a none c (I5 (λe h'=>den P n b (some l) d Q e h') Q) σ h)
  |_=>False)
 | .cond a b,none,c,Q,σ,h=>(match c with
  | .cond x c d=>(match σ.ev x with
   |some (.bool q)=>if q=true then den P n a none c Q σ h else den P n b none d Q σ h
   |_=>False)
  |_=>False)
 | .block a,none,c,Q,σ,h=>(match c with
  | .block id c=>den P n a none c (Mn id Q) σ h
  |_=>False)
 | .loop L a,none,c,Q,σ,h=>(match c with
  | .loop c=> ∃(I:tj (ak->Prop) L)(g:tj (ak->Nat) L),nU False L I σ (λf=>f h)/\
    Mh L (λe=> ∀h',nU False L I e (λf=>f h')->
     den P n a none c (I5 (λi H=>nU False L I i (λf=>f H)/\nU 0 L g i (λf=>f H)<nU 0 L g e (λf=>f h')) Q) e h') (σ.forget (writes c))
  |_=>False)
 | .join L a,none,c,Q,σ,h=>aI (α:=tj (ak->Prop) L) (O9 L (λe h'=>Q .normal e h') (σ.forget (writes c)))
   (λJ=>den P n a none c (I5 (λe h'=>nU False L J e (λf=>f h')) Q) σ h)
 | .typed ty,none,c,Q,σ,h=>(match c with
  | .region _ o false=>uJ P n o ty o.toList σ h (Q .normal)
  |_=>False)
 | .scope l L a b,none,c,Q,σ,h=>(match c with
  | .scope c=>(match findLabel c l with
   |some r=> ∃(I:tj (ak->Prop) L)(g:tj (ak->Nat) L),
     den P n a (some l) c (xu l (λe h'=>nU False L I e (λf=>f h')) Q) σ h/\
     Mh L (λe=> ∀h',nU False L I e (λf=>f h')->
      den P n b none r (xu l (λi H=>nU False L I i (λf=>f H)/\nU 0 L g i (λf=>f H)<nU 0 L g e (λf=>f h')) Q) e h') (σ.forget (writes c))
   |none=>False)
  |_=>False)
 |_,_,_,_,_,_=>False
def opened:Code->List Code
 | .skip=> []
 | .seq a b=>opened a++ [b]
 |c=> [c]
theorem kF{P:Program}{b:Frame}{a:Act}{cs:List Frame}{w:World}: ∀(c:Code)(k:List Item),Steps P (lone (b.at a (.code c::k)) cs w) (lone (b.at a ((opened c).map Item.code++k)) cs w)
 | .skip,k=> .one step_skip
 | .seq x y,k=>by
  simp only[opened,aV,cj,List.map_nil,cT,dC,cy];exact .head step_seq (kF x (.code y::k))
 | .region _ _ _,_=> .refl _ _
 | .cond _ _ _,_=> .refl _ _
 | .block _ _,_=> .refl _ _
 | .loop _,_=> .refl _ _
 | .rangeFunc _ _ _ _,_=> .refl _ _
 | .exit _,_=> .refl _ _
 | .scope _,_=> .refl _ _
 | .label _,_=> .refl _ _
 | .goto _,_=> .refl _ _
 | .ret,_=> .refl _ _
 | .refuse _,_=> .refl _ _
theorem nV: ∀(c:Code)(l:Nat),oB c l=(findLabel c l).isSome
 | .seq a b,l=>by
  unfold oB findLabel;rw[nV a l,nV b l];cases findLabel a l<;>simp
 | .label L,l=>by
  unfold oB findLabel;by_cases h:L=l
  .subst h;simp
  .have:Nat.beq L l=false:=by cases H:Nat.beq L l;rfl;exact absurd (bT H) h
   simp[this,h]
 | .skip,_=>rfl
 | .region _ _ _,_=>rfl
 | .cond _ _ _,_=>rfl
 | .block _ _,_=>rfl
 | .loop _,_=>rfl
 | .rangeFunc _ _ _ _,_=>rfl
 | .exit _,_=>rfl
 | .scope _,_=>rfl
 | .goto _,_=>rfl
 | .ret,_=>rfl
 | .refuse _,_=>rfl
theorem kU: ∀(c:Code)(l:Nat)(r:Code),findLabel c l=some r->∀t,t∈writes r->t∈writes c
 | .seq a b,l,r,h,t,ht=>by
  unfold findLabel at h;split at h
  .rename_i rest H;simp only[bA]at h;subst h;rcases bz.1 ht with ht|ht
   .exact eH _ (kU a l rest H t ht)
   .exact eV _ ht
  .exact eV _ (kU b l r h t ht)
 | .label L,l,r,h,t,ht=>by
  unfold findLabel at h;split at h
  .simp only[bA]at h;subst h;cases ht
  .cases h
 | .skip,_,_,h,_,_=>by cases h
 | .region _ _ _,_,_,h,_,_=>by cases h
 | .cond _ _ _,_,_,h,_,_=>by cases h
 | .block _ _,_,_,h,_,_=>by cases h
 | .loop _,_,_,h,_,_=>by cases h
 | .rangeFunc _ _ _ _,_,_,h,_,_=>by cases h
 | .exit _,_,_,h,_,_=>by cases h
 | .scope _,_,_,h,_,_=>by cases h
 | .goto _,_,_,h,_,_=>by cases h
 | .ret,_,_,h,_,_=>by cases h
 | .refuse _,_,_,h,_,_=>by cases h
def Tj(P:Program)(l:Nat)(c:Code)(Q:Exit->Act->World->Prop)(a:Act)(w:World):Prop:=
 ∀(b:Frame)(k:List Item)(cs:List Frame),
  (∃e A w',Q e A w'/\e≠ .normal/\Arrives P (lone (b.at a (.code c::k)) cs w) b k cs e A w')\/
  (∃A w' r,Q (.goto l) A w'/\findLabel c l=some r/\Steps P (lone (b.at a (.code c::k)) cs w) (lone (b.at A ((opened r).map Item.code++k)) cs w'))
def up(n:Nat)(a0:Act)(w0:World)(W:List Nat)(Q:Exit->Env->ak->Prop):Exit->Act->World->Prop:=
 λe a w=> ∃σ,Rel n σ a/\Q e σ w.heap/\fM w0 w/\fH W a0 a
theorem rP{n:Nat}{a0:Act}{w0:World}{W:List Nat}{Q:Exit->Env->ak->Prop}{e:Exit}{a:Act}{w:World}(h:x3 n a0 w0 W (Q .normal) e a w):up n a0 w0 W Q e a w:=by
 obtain⟨rfl,h⟩:=h;exact h
def xw(a:Act):Env:=λt=>some (a.tmps.getD t undef)
theorem Rel.tB{n:Nat}{σ b c:Env}{a A:Act}{W:List Nat}(f:Rel n σ a)(H:Rel n b A)(i:fH W a A)(g:Sub c (σ.forget W) b):Rel n c A:=
 ⟨H.defers,H.size,λt v j=>by
  rcases g t v j with h|h
  .exact H.at_ t v h
  .obtain⟨d,e⟩:=Env.xr h;rw[i t d];exact f.at_ t v e⟩
theorem mv{Y:Type}{d:Y}{X:Type}{L:List (Nat×Sh)}{f:tj X L}{K:X->Y}{n:Nat}{σ:Env}{a:Act}(b:Rel n σ a)(hd: ∀t s,(t,s)∈L->∃v,σ t=some v):nU d L f (xw a) K=nU d L f σ K:=
 oz L f λt s H=>by
  obtain⟨v,h⟩:=hd t s H;rw[h];unfold xw;rw[b.at_ t v h]
def O4(P:Program)(c:Code)(Q:Exit->Act->World->Prop)(a:Act)(w:World):Prop:=
 ∀(b:Frame)(k:List Item)(cs:List Frame),∃e A w',Q e A w'/\Arrives P (lone (b.at a ((opened c).map Item.code++k)) cs w) b k cs e A w'
theorem O4.wp{P:Program}{c:Code}{Q:Exit->Act->World->Prop}{a:Act}{w:World}(h:O4 P c Q a w):c.wp P Q a w:=λb k cs=>by
 obtain⟨e,A,w',d,H⟩:=h b k cs;exact⟨e,A,w',d,.of_steps (kF c k) H⟩
theorem hZ{P:Program}{c:Code}{Q:Exit->Act->World->Prop}{a:Act}{w:World}(H:opened c= [c])(h:c.wp P Q a w):O4 P c Q a w:=λb k cs=>by
 rw[H];exact h b k cs
theorem uO{P:Program}{c:Code}{Q d:Exit->Act->World->Prop}{a:Act}{w:World}(h:O4 P c Q a w)(H: ∀e a w,Q e a w->d e a w):O4 P c d a w:=
 λb k cs=>let ⟨e,A,w',q,r⟩:=h b k cs;⟨e,A,w',H _ _ _ q,r⟩
theorem Pa{P:Program}{x y:Code}{Q:Exit->Act->World->Prop}{a:Act}{w:World}(h:O4 P x (Exit.then (O4 P y Q) Q) a w):O4 P (.seq x y) Q a w:=by
 intro b k cs;simp only[opened,aV,cj,List.map_nil,cT,dC,cy];obtain⟨e,A,W,c,H⟩:=h b (.code y::k) cs;cases e with
 |normal=>
  obtain⟨E,d,i,g,f⟩:=c b k cs;exact⟨E,d,i,g,.of_steps (Steps.trans H (kF y k)) f⟩
 |exit id=>exact⟨_,A,W,c,.pass (x:=.code y) rfl (λ_ _=> .inl bQ) H⟩
 |goto l=>exact⟨_,A,W,c,.pass (x:=.code y) rfl (λ_ _=> .inl bQ) H⟩
 |ret=>exact⟨_,A,W,c,.pass (x:=.code y) rfl (λ_ _=> .inl bQ) H⟩
 |panic C=>exact⟨_,A,W,c,.pass (x:=.code y) rfl (λ_ _=> .inl bQ) H⟩
 |outgrown=>exact⟨_,A,W,c,.pass (x:=.code y) rfl (λ_ _=> .inl bQ) H⟩
theorem yY{P:Program}{Q:Exit->Act->World->Prop}{a:Act}{w:World}{c r:Code}{l:Nat}(v:findLabel c l=some r)(I:Act->World->Prop)(p:Act->World->Nat)(q:Exit->Act->World->Prop)(s:Act->World->Exit->Act->World->Prop)(D:Tj P l c q a w)(y: ∀A w',q (.goto l) A w'->I A w')(E: ∀e A w',e≠ .goto l->e≠ .normal->q e A w'->Q e A w'/\∀x,e≠ .goto x)(R: ∀a w,I a w->O4 P r (s a w) a w)(F: ∀a w A w',I a w->s a w (.goto l) A w'->I A w'/\p A w'<p a w)(G: ∀a w e A w',I a w->e≠ .goto l->s a w e A w'->Q e A w'/\∀x,e≠ .goto x):
  (Code.scope c).wp P Q a w:=by
 intro b k cs;have out: ∀(m:Machine)(e:Exit)(A:Act)(w':World),(∀x,e≠ .goto x)->Arrives P m b (.inScope c::k) cs e A w'->Arrives P m b k cs e A w':=by
  intro m e A w' i h;cases e with
  |normal=>exact Steps.trans h (.one step_inScope)
  |exit id=>exact λk' hk=>h k' (by simp[exitTo,hk])
  |goto x=>exact absurd rfl (i x)
  |ret=>exact h
  |panic O=>exact h
  |outgrown=>exact h
 have key: ∀n a w,p a w=n->I a w->∃e A w',Q e A w'/\Arrives P (lone (b.at a ((opened r).map Item.code++ .inScope c::k)) cs w) b k cs e A w':=by
  intro n;induction n using Nat.strongRecOn with
  |_ n N=>
   intro a w M t;obtain⟨e,d,w1,H,h⟩:=R a w t b (.inScope c::k) cs;by_cases z:e=.goto l
   .subst z;obtain⟨J,L⟩:=F a w d w1 t H;have o:=h (.code r:: .inScope c::k) (by simp[gotoIn,v]);obtain⟨e2,f,w2,j,g⟩:=N (p d w1) (M▸L) d w1 rfl J;exact⟨e2,f,w2,j,.of_steps (Steps.trans o (kF r _)) g⟩
   .obtain⟨u,i⟩:=G a w e d w1 t z H;exact⟨e,d,w1,u,out _ e d w1 i h⟩
 rcases D b (.inScope c::k) cs with⟨e,A,w',H,K,h⟩|⟨A,w',S,H,C,o⟩
 .by_cases B:e=.goto l
  .subst B;have o:=h (.code r:: .inScope c::k) (by simp[gotoIn,v]);obtain⟨e2,f,w2,j,g⟩:=key _ A w' rfl (y A w' H);exact⟨e2,f,w2,j,.of_steps (.head step_scope (Steps.trans o (kF r _))) g⟩
  .obtain⟨u,i⟩:=E e A w' B K H;exact⟨e,A,w',u,.of_steps (.one step_scope) (out _ e A w' i h)⟩
 .rw[v]at C;cases C;obtain⟨e2,f,w2,j,g⟩:=key _ A w' rfl (y A w' H);exact⟨e2,f,w2,j,.of_steps (.head step_scope o) g⟩
def Tk(P:Program)(c:Code)(Q:Exit->Act->World->Prop)(a:Act)(w:World):Option Nat->Prop
 |none=>O4 P c Q a w
 |some l=>Tj P l c Q a w
theorem kG{P:Program}{n:Nat}: ∀(k':uD)(m:Option Nat)(c:Code)(Q:Exit->Env->ak->Prop)(σ:Env)(a:Act)(w:World),Rel n σ a->den P n k' m c Q σ w.heap->Tk P c (up n a w (writes c) Q) a w m
 | .leaf,none,c,Q,σ,a,w,s,h=>by
  unfold den at h;split at h
  .exact λb k cs=>⟨.normal,a,w,⟨σ,s,h,fM.refl w,fH.refl _ _⟩,.refl _ _⟩
  .exact hZ rfl (wp_label ⟨σ,s,h,fM.refl w,fH.refl _ _⟩)
  .exact hZ rfl (wp_exit ⟨σ,s,h,fM.refl w,fH.refl _ _⟩)
  .exact hZ rfl (wp_goto ⟨σ,s,h,fM.refl w,fH.refl _ _⟩)
  .exact hZ rfl (wp_ret ⟨σ,s,h,fM.refl w,fH.refl _ _⟩)
  .rename_i id O;refine hZ rfl (wp_mono (wp_region (Q:=x3 n a w (cP O) (Q .normal)) ?_) (λe A w' H=>rP H));have:=vX (a0:=a) (w0:=w) O.toList 0 σ a w bQ s (fM.refl w) (fH.refl _ _) h;rw[fV];simpa using this
  .exact h.elim
 | .leaf,some l,c,Q,σ,a,w,s,h=>by
  unfold den at h;split at h
  .rename_i l';split at h
   .rename_i hl;obtain rfl:l'=l:=bT hl;exact λb k cs=> .inr ⟨a,w,.skip,⟨σ,s,h,fM.refl w,fH.refl _ _⟩,by simp[findLabel],.one step_label⟩
   .exact h.elim
  .exact h.elim
 | .gT p,none,c,Q,σ,a,w,s,h=>by
  unfold den at h;split at h
  .rename_i id O;split at h
   .rename_i F;simp only[aS]at F;obtain⟨⟨⟨h1,h2⟩,h3⟩,h4⟩:=F;refine hZ rfl (wp_mono (wp_region_any (Q:=x3 n a w (cP O) (Q .normal)) h1 ?_) (λe A w' H=>rP H));have:=(C0 (a0:=a) (w0:=w) h2 p).1 O.size (Array.replicate O.size false) [] σ a { w with drawn:=w.drawn+1 } h3 h4 s ⟨rfl,rfl,rfl⟩ (fH.refl _ _) (λ_ U=>by cases U) h;exact pq _ _ _ _ _ this
   .exact h.elim
  .exact h.elim
 | .kC p,none,c,Q,σ,a,w,s,h=>by
  unfold den at h;split at h
  .rename_i id O;split at h
   .rename_i F;simp only[aS]at F;obtain⟨⟨⟨h1,h2⟩,h3⟩,h4⟩:=F;refine hZ rfl (wp_mono (wp_region_any (Q:=x3 n a w (cP O) (Q .normal)) h1 ?_) (λe A w' H=>rP H));have:=(Bg (a0:=a) (w0:=w) h2 p).1 O.size (Array.replicate O.size false) [] [] [] σ a { w with drawn:=w.drawn+1 } h3 h4 s ⟨rfl,rfl,rfl⟩ (fH.refl _ _) (λ_ U=>by cases U) (λ_ U=>by cases U) h;exact pq _ _ _ _ _ this
   .exact h.elim
  .exact h.elim
 | .seq x y,none,c,Q,σ,a,w,s,h=>by
  unfold den at h;split at h
  .rename_i c d;refine Pa (uO (kG x none c _ σ a w s h) ?_);rintro e A w' ⟨g,o,H,j,i⟩;have v: ∀t,t∈writes c->t∈writes (.seq c d):=λt u=>eH _ u
   cases e with
   |normal=>
    refine uO (kG y none d Q g A w' o H) ?_;rintro e2 a2 w2 ⟨a',W,B,X,Z⟩;exact⟨a',W,B,j.trans X,(i.mono v).trans (Z.mono λt u=>eV _ u)⟩
   |exit id=>exact⟨g,o,H,j,i.mono v⟩
   |goto l=>exact⟨g,o,H,j,i.mono v⟩
   |ret=>exact⟨g,o,H,j,i.mono v⟩
   |panic R=>exact⟨g,o,H,j,i.mono v⟩
   |outgrown=>exact⟨g,o,H,j,i.mono v⟩
  .exact h.elim
 | .seq x y,some l,c,Q,σ,a,w,s,h=>by
  unfold den at h;split at h
  .rename_i c d;have v: ∀t,t∈writes c->t∈writes (.seq c d):=λt u=>eH _ u
   have i': ∀t,t∈writes d->t∈writes (.seq c d):=λt u=>eV _ u
   split at h
   .rename_i hl;have ih:=kG x (some l) c Q σ a w s h;intro b k cs;rcases ih b (.code d::k) cs with⟨e,A,w',H,b',E⟩|⟨A,w',r,H,hf,t'⟩
    .obtain⟨g,o,H,j,i⟩:=H;exact .inl ⟨e,A,w',⟨g,o,H,j,i.mono v⟩,b',.of_steps (.one step_seq) (.pass (x:=.code d) rfl (λ_ _=> .inl b') E)⟩
    .obtain⟨g,o,H,j,i⟩:=H;refine .inr ⟨A,w',.seq r d,⟨g,o,H,j,i.mono v⟩,by simp[findLabel,hf],.head step_seq ?_⟩;simpa[opened]using t'
   .rename_i hl;have ih:=kG x none c _ σ a w s h;have q':findLabel c l=none:=by
     have:=nV c l;rw[hl]at this;cases H:findLabel c l with
     |none=>rfl
     |some r=>rw[H]at this;cases this
    intro b k cs;obtain⟨e,A,w',⟨g,o,H,j,i⟩,E⟩:=ih.wp b (.code d::k) cs;cases e with
    |normal=>
     rcases kG y (some l) d Q g A w' o H b k cs with⟨e2,a2,w2,B,b',n'⟩|⟨a2,w2,r,B,p',u'⟩
     .obtain⟨a',W,B,X,Z⟩:=B;exact .inl ⟨e2,a2,w2,⟨a',W,B,j.trans X,(i.mono v).trans (Z.mono i')⟩,b',.of_steps (.head step_seq E) n'⟩
     .obtain⟨a',W,B,X,Z⟩:=B;exact .inr ⟨a2,w2,r,⟨a',W,B,j.trans X,(i.mono v).trans (Z.mono i')⟩,by simp[findLabel,q',p'],.head step_seq (Steps.trans E u')⟩
    |exit id=>exact .inl ⟨_,A,w',⟨g,o,H,j,i.mono v⟩,bQ,.of_steps (.one step_seq) (.pass (x:=.code d) rfl (λ_ _=> .inl bQ) E)⟩
    |goto l'=>exact .inl ⟨_,A,w',⟨g,o,H,j,i.mono v⟩,bQ,.of_steps (.one step_seq) (.pass (x:=.code d) rfl (λ_ _=> .inl bQ) E)⟩
    |ret=>exact .inl ⟨_,A,w',⟨g,o,H,j,i.mono v⟩,bQ,.of_steps (.one step_seq) (.pass (x:=.code d) rfl (λ_ _=> .inl bQ) E)⟩
    |panic R=>exact .inl ⟨_,A,w',⟨g,o,H,j,i.mono v⟩,bQ,.of_steps (.one step_seq) (.pass (x:=.code d) rfl (λ_ _=> .inl bQ) E)⟩
    |outgrown=>exact .inl ⟨_,A,w',⟨g,o,H,j,i.mono v⟩,bQ,.of_steps (.one step_seq) (.pass (x:=.code d) rfl (λ_ _=> .inl bQ) E)⟩
  .exact h.elim
 | .cond x y,none,c,Q,σ,a,w,s,h=>by
  unfold den at h;split at h
  .rename_i k c d;split at h
   .rename_i q H;have he:=s.fits _ _ H;split at h
    .rename_i u;subst u;refine hZ rfl (wp_cond_true he (wp_mono (kG x none c Q σ a w s h).wp ?_));rintro e A w' ⟨g,o,H,j,i⟩;exact⟨g,o,H,j,i.mono λt u=>eH _ u⟩
    .rename_i u;have u:q=false:=by simpa using u
     subst u;refine hZ rfl (wp_cond_false he (wp_mono (kG y none d Q σ a w s h).wp ?_));rintro e A w' ⟨g,o,H,j,i⟩;exact⟨g,o,H,j,i.mono λt u=>eV _ u⟩
   .exact h.elim
  .exact h.elim
 | .block x,none,c,Q,σ,a,w,s,h=>by
  unfold den at h;split at h
  .rename_i id c;refine hZ rfl (wp_block (wp_mono (kG x none c _ σ a w s h).wp ?_));rintro e A w' ⟨g,o,H,j,i⟩;cases e with
   |exit e'=>
    simp only[Exit.inBlock];simp only[Mn]at H;by_cases hid:e'=id
    .subst hid;simp only[Nat.beq_refl]at H;rw[ah rfl];exact⟨g,o,H,j,i⟩
    .rw[af hid];have:Nat.beq e' id=false:=by cases F:Nat.beq e' id;rfl;exact absurd (bT F) hid
     rw[this]at H;exact⟨g,o,H,j,i⟩
   |normal=>exact⟨g,o,H,j,i⟩
   |goto l=>exact⟨g,o,H,j,i⟩
   |ret=>exact⟨g,o,H,j,i⟩
   |panic R=>exact⟨g,o,H,j,i⟩
   |outgrown=>exact⟨g,o,H,j,i⟩
  .exact h.elim
 | .loop L x,none,c,Q,σ,a,w,s,h=>by
  unfold den at h;split at h
  .rename_i c;obtain⟨I,μ,h0,d'⟩:=h;refine hZ rfl (wp_loop (λA w'=> ∃g,Rel n g A/\nU False L I g (λf=>f w'.heap)/\fM w w'/\fH (writes c) a A)
    (λA w'=>nU 0 L μ (xw A) (λf=>f w'.heap)) ⟨σ,s,h0,fM.refl w,fH.refl _ _⟩ ?_)
   rintro A w' ⟨g,o,S,j,i⟩;obtain⟨D,hF,Y,hL,_⟩:=yF L _ I d' S;have V:=Rel.tB s o i Y;have T:nU False L I D (λf=>f w'.heap):=by rw[oz L I hL];exact S
   have hd:=hF w'.heap T;refine wp_mono (kG x none c _ D A w' V hd).wp ?_;rintro e a1 w1 ⟨N,G,H,J,M⟩;cases e with
   |normal=>
    obtain⟨g',r'⟩:=H;refine⟨⟨N,G,g',j.trans J,i.trans M⟩,?_⟩;rw[mv G (pn L I g'),mv V (pn L I T)];exact r'
   |exit id=>exact⟨N,G,H,j.trans J,i.trans M⟩
   |goto l=>exact⟨N,G,H,j.trans J,i.trans M⟩
   |ret=>exact⟨N,G,H,j.trans J,i.trans M⟩
   |panic R=>exact⟨N,G,H,j.trans J,i.trans M⟩
   |outgrown=>exact⟨N,G,H,j.trans J,i.trans M⟩
  .exact h.elim
 | .join L x,none,c,Q,σ,a,w,s,h=>by
  unfold den at h;unfold aI at h;refine uO (kG x none c _ σ a w s h) ?_;rintro e A w' ⟨g,o,H,j,i⟩;cases e with
  |normal=>
   obtain⟨D,hQ,Y⟩:=yV L _ H;exact⟨D,Rel.tB s o i Y,hQ,j,i⟩
  |exit id=>exact⟨g,o,H,j,i⟩
  |goto l=>exact⟨g,o,H,j,i⟩
  |ret=>exact⟨g,o,H,j,i⟩
  |panic R=>exact⟨g,o,H,j,i⟩
  |outgrown=>exact⟨g,o,H,j,i⟩
 | .scope l L x y,none,c,Q,σ,a,w,s,h=>by
  unfold den at h;split at h
  .rename_i c;split at h
   .rename_i r hf;obtain⟨I,μ,h0,d'⟩:=h;have m':=kU c l r hf;have j': ∀(K:Env->ak->Prop)(e:Exit)(g:Env)(h':ak),e≠ .goto l->xu l K Q e g h'->Q e g h'/\∀z,e≠ .goto z:=by
     intro K e g h' s' H;cases e with
     |goto z=>
      simp only[xu]at H;have:Nat.beq z l=false:=by cases F:Nat.beq z l;rfl;exact absurd (by rw[bT F]) s'
      rw[this]at H;exact H.elim
     |normal=>exact⟨H,λz C=>by cases C⟩
     |exit id=>exact⟨H,λz C=>by cases C⟩
     |ret=>exact⟨H,λz C=>by cases C⟩
     |panic R=>exact⟨H,λz C=>by cases C⟩
     |outgrown=>exact⟨H,λz C=>by cases C⟩
    refine hZ rfl (yY hf (λA w'=> ∃g,Rel n g A/\nU False L I g (λf=>f w'.heap)/\fM w w'/\fH (writes c) a A)
     (λA w'=>nU 0 L μ (xw A) (λf=>f w'.heap)) _
     (λa0 w0 e A w'=> ∃g,Rel n g A/\xu l (λD f'=>nU False L I D (λf=>f f')/\nU 0 L μ D (λf=>f f')<nU 0 L μ (xw a0) (λf=>f w0.heap)) Q e g w'.heap/\fM w w'/\fH (writes c) a A)
     (kG x (some l) c _ σ a w s h0) ?_ ?_ ?_ ?_ ?_)
    .rintro A w' ⟨g,o,H,j,i⟩;simp only[xu,Nat.beq_refl]at H;exact⟨g,o,H,j,i⟩
    .rintro e A w' o' _ ⟨g,o,H,j,i⟩;obtain⟨c',B⟩:=j' _ e g _ o' H;exact⟨⟨g,o,c',j,i⟩,B⟩
    .rintro A w' ⟨g,o,S,j,i⟩;obtain⟨D,hF,Y,hL,_⟩:=yF L _ I d' S;have V:=Rel.tB s o i Y;have T:nU False L I D (λf=>f w'.heap):=by rw[oz L I hL];exact S
     have hd:=hF w'.heap T;refine uO (kG y none r _ D A w' V hd) ?_;rintro e a1 w1 ⟨N,G,H,J,M⟩;refine⟨N,G,?_,j.trans J,i.trans (M.mono m')⟩;cases e with
     |goto z=>
      simp only[xu]at H⊢;cases C:Nat.beq z l with
      |false=>rw[C]at H;exact H.elim
      |true=>
       rw[C]at H;obtain⟨q1,q2⟩:=H;exact⟨q1,by rw[mv V (pn L I T)];exact q2⟩
     |normal=>exact H
     |exit id=>exact H
     |ret=>exact H
     |panic R=>exact H
     |outgrown=>exact H
    .rintro a0 w0 A w' _ ⟨g,o,H,j,i⟩;simp only[xu,Nat.beq_refl]at H;obtain⟨q1,q2⟩:=H;refine⟨⟨g,o,q1,j,i⟩,?_⟩;rw[mv o (pn L I q1)];exact q2
    .rintro a0 w0 e A w' _ he ⟨g,o,H,j,i⟩;obtain⟨c',B⟩:=j' _ e g _ he H;exact⟨⟨g,o,c',j,i⟩,B⟩
   .exact h.elim
  .exact h.elim
 | .gT _,some _,_,_,_,_,_,_,h=>h.elim
 | .kC _,some _,_,_,_,_,_,_,h=>h.elim
 | .cond _ _,some _,_,_,_,_,_,_,h=>h.elim
 | .block _,some _,_,_,_,_,_,_,h=>h.elim
 | .loop _ _,some _,_,_,_,_,_,_,h=>h.elim
 | .join _ _,some _,_,_,_,_,_,_,h=>h.elim
 | .scope _ _ _ _,some _,_,_,_,_,_,_,h=>h.elim
 | .typed _,some _,_,_,_,_,_,_,h=>h.elim
 | .typed ty,none,c,Q,σ,a,w,s,h=>by
  unfold den at h;split at h
  .rename_i id O;refine hZ rfl (wp_mono (wp_region (Q:=x3 n a w (cP O) (Q .normal)) ?_) (λe A w' H=>rP H));have:=tn (a0:=a) (w0:=w) O.toList 0 σ a w bQ s (fM.refl w) (fH.refl _ _) h;rw[fV];simpa using this
  .exact h.elim
def tC(P:Program):List ResultVar->Env->ak->(List Value->Prop)->Prop
 | [],_,_,F=>F []
 | .tmp t::r,σ,h,F=>aO (σ t) λv=>tC P r σ h λvs=>F (v::vs)
 | .cell a t::r,σ,h,F=>(match σ a with
  |some (.pointer p)=>aO p λA=>rN P t h A λv _=>tC P r σ h λvs=>F (v::vs)
  |_=>False)
def xx(vs:List Value):Value:=
 match vs with
 | [v]=>v
 |vs=> .tuple vs.toArray
def RY(P:Program)(r:Array ResultVar)(R:fG):Exit->Env->ak->Prop
 | .normal,σ,h=>tC P r.toList σ h λvs=>R (xx vs) h
 | .ret,σ,h=>tC P r.toList σ h λvs=>R (xx vs) h
 |_,_,_=>False
def mH(args:List Value):Env:=λt=>args[t]?
def Kl(a:Act):ResultVar->Sem Value
 | .tmp t=>pure (a.tmps.getD t undef)
 | .cell A t=>do loadVar t (<-asAddr (a.tmps.getD A undef))
theorem C1{P:Program}{n:Nat}{σ:Env}{a:Act}{h:ak}(c:Rel n σ a): ∀(r:List ResultVar)(F:List Value->Prop),tC P r σ h F->∃vs,F vs/\
  rd P (r.mapM (Kl a)) h=some vs
 | [],F,H=>⟨[],H,rfl⟩
 | .tmp t::r,F,H=>by
  obtain⟨v,m,H⟩:=cA.1 H;obtain⟨vs,d,e⟩:=C1 c r _ H;refine⟨v::vs,d,?_⟩;rw[List.mapM_cons];have f:rd P (Kl a (.tmp t)) h=some v:=by
   show some (a.tmps.getD t undef)=some v;rw[c.at_ t v m]
  rw[bE _ _ _ _ f,bE _ _ _ _ e];rfl
 | .cell A t::r,F,H=>by
  simp only[tC]at H;split at H
  .rename_i p l;obtain⟨b,rfl,k⟩:=cA.1 H;obtain⟨v,S,d,e,g⟩:=yU k;obtain⟨vs,i,j⟩:=C1 c r _ d;refine⟨v::vs,i,?_⟩;rw[List.mapM_cons];have f:rd P (Kl a (.cell A t)) h=some v:=by
    show rd P (do loadVar t (<-asAddr (a.tmps.getD A undef))) h=_;rw[c.at_ A _ l];exact g h e
   rw[bE _ _ _ _ f,bE _ _ _ _ j];rfl
  .exact H.elim
theorem tD{P:Program}{n:Nat}{σ:Env}{a:Act}{h:ak}{f:Func}{F:Value->Prop}(g:Rel n σ a)(e:tC P f.results.toList σ h λvs=>F (xx vs)):
  ∃v,F v/\rd P (results f a.tmps) h=some v:=by
 obtain⟨vs,H,b⟩:=C1 g _ _ e;refine⟨_,H,?_⟩;have c:rd P (f.results.mapM (Kl a)) h=some vs.toArray:=by
  rw[Array.mapM_eq_mapM_toList];show rd P (f.results.toList.mapM (Kl a)>>=λl=>pure (List.toArray l)) h=_;rw[bE _ _ _ _ b];rfl
 have d:results f a.tmps=f.results.mapM (Kl a)>>=λvs=>pure (if h:vs.size=1 then vs[0]else .tuple vs):=by
  unfold results;congr 1
 rw[d,bE _ _ _ _ c]
 match vs with
 | []=>rfl
 | [v]=>rfl
 |u::v::vs=>rfl
theorem Bh{P:Program}{f:FuncId}{b:Func}{c:Code}{args:List Value}{h:ak}{R:fG}(A:uD)(n:P.funcs[f]? =some b)(m:b.body=some c)(i:Nat.ble args.length b.ntmps=true)(hd:den P b.ntmps A none c (RY P b.results R) (mH args) h):mE P f args.toArray h R:=by
 intro w r;subst r;have i:=Nat.le_of_ble_eq_true i;refine calls_of_wp n m ?_;have d:Rel b.ntmps (mH args) { tmps:=args.toArray++Array.replicate (b.ntmps - args.toArray.size) undef,defers:= [] } :=by
  refine⟨rfl,by simp;omega,λt v g=> ?_⟩;unfold mH at g;have p:t<args.length:=(aB.1 g).1;simp only[fh];rw[dP (by simpa using p)];simp[g]
 refine wp_mono (kG A none c _ _ _ w d hd).wp ?_;rintro e a w' ⟨σ,d,H,q,_⟩;have fin:tC P b.results.toList σ w'.heap (λvs=>R (xx vs) w'.heap)->a.defers= []/\∃v,(results b a.tmps).run P w'=.ok v w'/\∃V,Ending.returned v=.returned V/\R V w'.heap/\fM w w':=λo=>by
  obtain⟨v,j,k⟩:=tD (F:=λv=>R v w'.heap) d o;exact⟨d.defers,v,qk _ _ _ k,v,rfl,j,q⟩
 cases e with
 |normal=>exact fin H
 |ret=>exact fin H
 |exit id=>exact H.elim
 |goto l=>exact H.elim
 |panic C=>exact H.elim
 |outgrown=>exact H.elim
def tF(f:Func):Code:=f.body.getD .skip
theorem yZ{P:Program}{f:FuncId}{F:Func}{args:List Value}{h:ak}{R:fG}(a:uD)(d:P.funcs[f]? =some F)(b:F.body.isSome=true)(e:Nat.ble args.length F.ntmps=true)(hd:den P F.ntmps a none (tF F) (RY P F.results R) (mH args) h):mE P f args.toArray h R:=by
 obtain⟨c,H⟩:=fw.1 b;refine Bh a d H e ?_;rw[tF,H]at hd;exact hd
abbrev ring(v:Value):List PanicEntry:= [{ v,recovered:=false }]
def iA(P:Program)(f:FuncId)(args:Array Value)(h:ak)(R E:fG):Prop:=
 ∀w:World,w.heap=h->Calls P f args w λe w'=>fM w w'/\((∃v,e=.returned v/\R v w'.heap)\/∃v,e=.panicked (ring v)/\E v w'.heap)
section
variable {P : Program} {f : FuncId} {args : Array Value} {h : ak} {R r E a : Value → ak → Prop}
theorem iA.mono(b:iA P f args h R E)(d: ∀v h',R v h'->r v h')(H: ∀v h',E v h'->a v h'):iA P f args h r a:=
 λw i=>(b w i).mono λ_ _ ⟨g,c⟩=>⟨g,c.imp (λ⟨v,e,h⟩=>⟨v,e,d _ _ h⟩) (λ⟨v,e,h⟩=>⟨v,e,H _ _ h⟩)⟩
end
theorem iA.XY{P:Program}{f:FuncId}{args:Array Value}{h:ak}{R:fG}(H:iA P f args h R (λ_ _=>False)):mE P f args h R:=
 λw c=>(H w c).mono λ_ _ ⟨b,a⟩=>a.elim (λ⟨v,e,h⟩=>⟨v,e,h,b⟩) (λ⟨_,_,h⟩=>h.elim)
def vY(P:Program)(ni:List Nat)(o:Oper)(σ:Env)(h:ak)(K E:fG):Prop:=
 match o.op with
 | .panic x=>(match σ.ev x with
  |some (.iface t v)=>E (.iface t v) h
  |_=>False)
 | .call { callee:=.value f,args:=args,argTypes:=_ } =>(match σ.ev f,O3 σ args.toList with
  |some (.func (.func g) first c),some vs=>(match ni.any (Nat.beq g)with
   |true=>(match pg P g with
    |true=>iA P g (first.toList++vs++c.toList).toArray h (λv h'=>sN P o.type λV=>v=V/\K V h') E
    |false=>False)
   |false=>xp P o σ h K)
  |_,_=>xp P o σ h K)
 |_=>xp P o σ h K
theorem Mo{P:Program}{o:Oper}{σ:Env}{b:Operand->Value}{h:ak}{f:Operand}{args:Array Operand}{t:Array TypeId}{g:FuncId}{first c:Array Value}{vs:List Value}(a:Fits σ b)(k:o.op=.call { callee:=.value f,args:=args,argTypes:=t })(i:σ.ev f=some (.func (.func g) first c))(m:O3 σ args.toList=some vs)(H:pg P g=true):
  aU P (execOp b o) h λx h'=>x=.enter g (first.toList++vs++c.toList).toArray/\h'=h:=by
 unfold execOp;rw[k];simp only[resolve,uH a m,a _ _ i,Deferred.ofValue];rw[dR,yT];simp only[invoke,callFunc];rw[dR];unfold pg at H;split at H
 .rename_i F d;simp only[aS,Bool.not_eq_true']at H;show aU P (match P.funcs[g]? with|none=>_|some F=>_) h _;rw[d];have j:F.body.isNone=false:=by cases l:F.body<;>simp[l]at H⊢
  simp only[H.2,j,au,aM];have e:(first++vs.toArray++c)=(first.toList++vs++c.toList).toArray:=by
   apply Array.ext'
   simp
  rw[e];exact⟨rfl,rfl⟩
 .cases H
theorem BX{P:Program}{ni:List Nat}{o:Oper}{σ:Env}{a:Act}{w:World}{K E:fG}{next:Act->World->Prop}{Q:Exit->Act->World->Prop}(H:Fits σ a.eval)(h:vY P ni o σ w.heap K E)(b: ∀v w',K v w'.heap->fM w w'->next (a.put o.dst v) w')(d: ∀v w',E v w'.heap->fM w w'->Q (.panic (ring v)) a w'):o.wp P a w next Q:=by
 unfold vY at h;split at h
 .rename_i x c;split at h
  .rename_i t v r;unfold Oper.wp execOp;rw[c];simp only[H _ _ r];exact d _ _ h (fM.refl w)
  .exact h.elim
 .rename_i f args T c;split at h
  .rename_i g first C vs n p;split at h
   .split at h
    .rename_i m;obtain⟨x,w',r1,⟨rfl,q⟩,i⟩:=pf _ _ _ (Mo H c n p m) w rfl;unfold Oper.wp;rw[r1];refine(h w' q).mono ?_;rintro e W ⟨j,⟨v,rfl,l⟩|⟨v,rfl,k⟩⟩
     .exact b _ _ (yR l) (i.trans j)
     .exact d _ _ k (i.trans j)
    .exact h.elim
   .exact(oA H h).wp b
  .exact(oA H h).wp b
 .exact(oA H h).wp b
structure jL (n:Nat) (D:List Deferred) (σ:Env) (a:Act):Prop where
 size:a.tmps.size=n
 at_: ∀t v,σ t=some v->a.tmps.getD t undef=v
 defs:a.defers=D
theorem jL.fits{n:Nat}{D:List Deferred}{σ:Env}{a:Act}(h:jL n D σ a):Fits σ a.eval:=by
 intro x v H;cases x with
 |tmp t=>exact h.at_ t v H
 |const c=>simpa[Env.ev,Act.eval]using H
 |global g=>simpa[Env.ev,Act.eval]using H
 |func f=>simpa[Env.ev,Act.eval]using H
theorem jL.bare{n:Nat}{D:List Deferred}{σ:Env}{a:Act}(h:jL n D σ a):Rel n σ { a with defers:= [] } :=⟨rfl,h.size,h.at_⟩
theorem jL.of{n:Nat}{D:List Deferred}{σ:Env}{a:Act}(h:Rel n σ { a with defers:= [] })(hd:a.defers=D):jL n D σ a:=⟨h.size,h.at_,hd⟩
theorem Ew(a:Act)(d:Option Nat)(v:Value):(a.put d v).defers=a.defers:=by cases d<;>rfl
theorem px{n:Nat}{D:List Deferred}{σ:Env}{a:Act}{d:Option Nat}{v:Value}{K:Env->Prop}(H:jL n D σ a)(h:iQ n σ d v K): ∃b,jL n D b (a.put d v)/\K b:=by
 obtain⟨b,c,f⟩:=iZ H.bare h;refine⟨b,.of ?_ ((Ew _ _ _).trans H.defs),f⟩;have e:({ a with defers:= [] } :Act).put d v= { (a.put d v)with defers:= [] } :=by cases d<;>rfl
 rw[<-e];exact c
theorem py{n:Nat}{D:List Deferred}{O:Array Oper}{o:Oper}{σ:Env}{a:Act}{r skip:Env->Prop}(e:jL n D σ a)(h:jo O o σ r skip):
  (Region.wanted o (yielded O a.tmps)=true/\∃b,jL n D b a/\r b)\/(Region.wanted o (yielded O a.tmps)=false/\∃b,jL n D b a/\skip b):=by
 rcases jH e.bare h with⟨H,b,c,d⟩|⟨H,b,c,d⟩
 .exact .inl ⟨H,b,.of c e.defs,d⟩
 .exact .inr ⟨H,b,.of c e.defs,d⟩
def RZ(n:Nat)(D:List Deferred)(a0:Act)(w0:World)(W:List Nat)(K:List Deferred->Env->ak->Prop)(E:fG):Exit->Act->World->Prop:=
 λe a w=>(e=.normal/\∃D' σ,jL n D' σ a/\K D' σ w.heap/\fM w0 w/\fH W a0 a)\/(a.defers=D/\a.tmps.size=n/\fH W a0 a/\fM w0 w/\∃v,e=.panic (ring v)/\E v w.heap)
def y7(o:Oper)(D:List Deferred)(σ:Env):Option (List Deferred):=
 match o.op with
 | .defer { callee:=.value f,args:=args,argTypes:=_ } =>(match σ.ev f,O3 σ args.toList with
  |some (.func g first c),some vs=>some ({ target:=.fn g c,args:=(first.toList++vs).toArray } ::D)
  |_,_=>none)
 |_=>none
theorem Ex{P:Program}{o:Oper}{σ:Env}{a:Act}{w:World}{D D':List Deferred}{next:Act->World->Prop}{Q:Exit->Act->World->Prop}(H:Fits σ a.eval)(hd:a.defers=D)(h:y7 o D σ=some D')(c:next ({ a with defers:=D' }.put o.dst undef) w):o.wp P a w next Q:=by
 unfold y7 at h;split at h
 .rename_i f args t d;split at h
  .rename_i g first C vs b i;cases h;subst hd;unfold Oper.wp execOp;rw[d];simp only[resolve,uH H i,H _ _ b,Deferred.ofValue];have e:first++vs.toArray=(first.toList++vs).toArray:=by apply Array.ext';simp
   rw[e];exact c
  .cases h
 .cases h
def nB(P:Program)(ni:List Nat)(n:Nat)(O:Array Oper)(ty:List (Nat×Sh))(E:fG):List Oper->List Deferred->Env->ak->(List Deferred->Env->ak->Prop)->Prop
 | [],D,σ,h,K=>K D σ h
 |o::rest,D,σ,h,K=>(match o.op with
  | .defer _=>jo O o σ
   (λσ=>(match y7 o D σ with
    |some D'=>(match rest with| []=>iQ n σ o.dst undef λa=>K D' a h|_=>False)
    |none=>False))
   (λσ=>iQ n σ o.dst undef λa=>nB P ni n O ty E rest D a h K)
  |_=>jo O o σ
   (λσ=>vY P ni o σ h (λv h'=>Et ty o.dst v λv=>iQ n σ o.dst v λa=>nB P ni n O ty E rest D a h' K) E)
   (λσ=>iQ n σ o.dst undef λa=>nB P ni n O ty E rest D a h K))
theorem pz{P:Program}{ni:List Nat}{n:Nat}{O:Array Oper}{ty:List (Nat×Sh)}{E:fG}{D:List Deferred}{K:List Deferred->Env->ak->Prop}{a0:Act}{w0:World}: ∀(rest:List Oper)(k:Nat)(σ:Env)(a:Act)(w:World),
  (∀j,rest[j]? =O[k+j]?)->jL n D σ a->fM w0 w->fH (cP O) a0 a->nB P ni n O ty E rest D σ w.heap K->wpOps P O (RZ n D a0 w0 (cP O) K E) (List.range' k rest.length) a w
 | [],k,σ,a,w,_,p,e,f,h=> .inl ⟨rfl,D,σ,p,h,e,f⟩
 |o::rest,k,σ,a,w,r,p,e,f,h=>by
  have m:O[k]? =some o:=by have:=r 0;simpa using this.symm
  have s: ∀j,rest[j]? =O[k+1+j]? :=λj=>by have:=r (j+1);simpa[Nat.add_assoc,Nat.add_comm 1 j]using this
  simp only[aW,List.range'_succ,wpOps,m];have skip: ∀{d:Env},Region.wanted o (yielded O a.tmps)=false->jL n D d a->(iQ n d o.dst undef λd=>nB P ni n O ty E rest D d w.heap K)->
    (if Region.wanted o (yielded O a.tmps)=true then o.wp P a w (wpOps P O (RZ n D a0 w0 (cP O) K E) (List.range' (k+1) rest.length)) (RZ n D a0 w0 (cP O) K E)\/(o.asks P a w/\LetsOut (RZ n D a0 w0 (cP O) K E))else wpOps P O (RZ n D a0 w0 (cP O) K E) (List.range' (k+1) rest.length) (a.put o.dst undef) w):=by
   intro d b H h;rw[af (by rw[b];simp)];obtain⟨l,i,g⟩:=px H h;exact pz rest (k+1) l _ w s i e (f.trans (fH.put (eS m))) g
  unfold nB at h;split at h
  .rename_i c x;rcases py p h with⟨b,d,H,h⟩|⟨b,d,H,h⟩
   .rw[ah b];split at h
    .rename_i D' t;split at h
     .obtain⟨l,i,g⟩:=px (D:=D') (a:= { a with defers:=D' }) ⟨H.size,H.at_,rfl⟩ h;exact .inl (Ex H.fits H.defs t (.inl ⟨rfl,D',l,i,g,e,f.trans (fH.put (a:= { a with defers:=D' }) (eS m))⟩))
     .exact h.elim
    .exact h.elim
   .exact skip b H h
  .rcases py p h with⟨b,d,H,h⟩|⟨b,d,H,h⟩
   .rw[ah b];refine .inl (BX H.fits h (λv w' hk q=> ?_) (λv w' u q=> .inr ⟨H.defs,H.size,f,e.trans q,v,rfl,u⟩));obtain⟨l,i,g⟩:=px H (qx hk);exact pz rest (k+1) l _ w' s i (e.trans q) (f.trans (fH.put (eS m))) g
   .exact skip b H h
def gY(P:Program)(ni:List Nat)(n:Nat)(O:Array Oper)(E:fG):pZ->List (Nat×(ak->Prop))->Env->ak->(Env->ak->Prop)->Prop
 | .done,_,σ,h,K=>K σ h
 | .op i rest,G,σ,h,K=>(match O[i]? with
  |some o=>jo O o σ
    (λσ=>(match lT P o with
     |true=>ny P o σ h λv S=>iQ n σ o.dst v λa=>gY P ni n O E rest (uM i S G) a h K
     |false=>vY P ni o σ h (λv h'=>qA h' (iQ n σ o.dst v λa=>gY P ni n O E rest (fT o G) a h' K) (fT o G)) E))
    (λσ=>iQ n σ o.dst undef λa=>gY P ni n O E rest G a h K)
  |none=>False)
 | .alts q,G,σ,h,K=>gY P ni n O E q G σ h K
 | .fork i rest q,G,σ,h,K=>(match O[i]? with
  |some o=>jo O o σ
    (λσ=>vY P ni o σ h (λv h'=>qA h' (iQ n σ o.dst v λa=>gY P ni n O E rest (fT o G) a h' K) (fT o G)) E)
    (λσ=>iQ n σ o.dst undef λa=>gY P ni n O E rest G a h K)
  |none=>False)/\gY P ni n O E q G σ h K
 | .gy,_,_,_,_=>True
theorem fH.Tl{W:List Nat}{a b:Act}{D:Option Nat}{v:Value}(h: ∀d,D=some d->d∈W)(f:fH W a (b.put D v)):fH W a b:=λt H=>by
 rw[<-f t H];cases D with
 |none=>rfl
 |some d=>
  have c:t≠d:=λe=>H (e▸h d rfl)
  simp[Act.put,fv c]
section
variable {P : Program} {ni : List Nat} {n : Nat} {O : Array Oper} {E : Value → ak → Prop} {D : List Deferred} {K : Env → ak → Prop} {a0 : Act} {w0 : World}
abbrev O5(n:Nat)(D:List Deferred)(a0:Act)(w0:World)(O:Array Oper)(K:Env->ak->Prop)(E:fG):=RZ n D a0 w0 (cP O) (λD' σ h=>D'=D/\K σ h) E
theorem xy{rest:pZ}{i m:Nat}{o:Oper}{L:Array Bool}{G:List (Nat×(ak->Prop))}{σ:Env}{a:Act}{w:World}(I: ∀G σ a w,jL n D σ a->fM w0 w->fH (cP O) a0 a->(∀g∈G,g.2 w.heap)->gY P ni n O E rest G σ w.heap K->ij P O (O5 n D a0 w0 O K E) m G (L.setIfInBounds i true) a w)(c:O[i]? =some o)(x:jL n D σ a)(j:fM w0 w)(l:fH (cP O) a0 a)(s: ∀g∈G,g.2 w.heap)(h:jo O o σ (λσ=>vY P ni o σ w.heap (λv h'=>qA h' (iQ n σ o.dst v λb=>gY P ni n O E rest (fT o G) b h' K) (fT o G)) E) (λσ=>iQ n σ o.dst undef λb=>gY P ni n O E rest G b w.heap K)):
  wpOp P O (O5 n D a0 w0 O K E) i (λA w'=>(∀g∈fT o G,g.2 w'.heap)/\ij P O (O5 n D a0 w0 O K E) m (fT o G) (L.setIfInBounds i true) A w') a w:=by
 rcases py x h with⟨p,b,H,h⟩|⟨p,b,H,y⟩
 .unfold wpOp;simp only[c,p,bg];refine .inl (BX H.fits h (λv w' hk k=> ?_) (λv w' u k=> .inr ⟨H.defs,H.size,l,j.trans k,v,rfl,u⟩));obtain⟨r,t⟩:=uL hk;obtain⟨q,f,d⟩:=px H t;exact⟨r,I _ q _ w' f (j.trans k) (l.trans (fH.put (eS c))) r d⟩
 .unfold wpOp;simp only[c,p,au,aM];obtain⟨q,f,d⟩:=px H y;have I:=I G q _ w f j (l.trans (fH.put (eS c))) s d;exact⟨λg e=>s g (jm e),kT _ _ _ _ _ _ (λg e=>jm e) I⟩
theorem Bi(b':Region.noSelect O=true)(gT:pZ):
  (∀(m:Nat)(l:Array Bool)(G:List (Nat×(ak->Prop)))(σ:Env)(a:Act)(w:World),sg gT m=true->
   iO P O gT none l=true->jL n D σ a->fM w0 w->fH (cP O) a0 a->(∀g∈G,g.2 w.heap)->gY P ni n O E gT G σ w.heap K->
   ij P O (O5 n D a0 w0 O K E) m G l a w)/\
  (∀(m:Nat)(R:List Nat)(l:Array Bool)(G:List (Nat×(ak->Prop)))(σ:Env)(a:Act)(w:World),sg gT (m+1)=true->
   iO P O gT (some R) l=true->jL n D σ a->fM w0 w->fH (cP O) a0 a->(∀g∈G,g.2 w.heap)->gY P ni n O E gT G σ w.heap K->
   ∀j∈R,∀o,O[j]? =some o->wpOp P O (O5 n D a0 w0 O K E) j (λX w'=>(∀g∈fT o G,g.2 w'.heap)/\ij P O (O5 n D a0 w0 O K E) m (fT o G) (l.setIfInBounds j true) X w') a w):=by
 induction gT with
 |done=>
  refine⟨λm l G σ a w b H f k p d h=> ?_,λm R l G σ a w b H=>by cases H⟩;obtain rfl:m=0:=bT b;simp only[iO,List.isEmpty_iff]at H;exact⟨H,.inl ⟨rfl,D,σ,f,⟨rfl,h⟩,k,p⟩⟩
 |gy=>
  refine⟨λm l G σ a w b H=>(by cases H),λm R l G σ a w b H f k p d h j t=> ?_⟩;simp only[iO,List.isEmpty_iff]at H;subst H;cases t
 |alts q I=>
  refine⟨λm l G σ a w b H f k p d h=> ?_,λm R l G σ a w b H=>by cases H⟩;cases m with
  |zero=>cases b
  |succ m=>
   simp only[iO]at H;split at H
   .cases H
   .rename_i j js A;refine⟨(λe=>by rw[A]at e;cases e),λj' U o r=> ?_⟩;rw[A]at U;exact I.2 m _ l G σ a w b H f k p d h j' U o r
 |fork i rest q d' e'=>
  refine⟨λm l G σ a w b H=>(by cases H),λm R l G σ a w b H f k p d h j t o r=> ?_⟩;simp only[iO,aS]at H;obtain⟨⟨s,C⟩,a'⟩:=H;simp only[sg,aS]at b;simp only[gY]at h;by_cases V:i=j
  .subst V;have h:=h.1;rw[r]at h;exact xy (λG σ a w f k p d h=>d'.1 m _ G σ a w b.1 C f k p d h) r f k p d h
  .refine e'.2 m _ l G σ a w b.2 a' f k p d h.2 j (ba.2 ⟨t,?_⟩) o r;have:Nat.beq i j=false:=by cases hb:Nat.beq i j;rfl;exact absurd (bT hb) V
   simp[this]
 |op i rest I=>
  refine⟨λm l G σ a w b H f k p d h=> ?_,λm R l G σ a w b H=>by cases H⟩;cases m with
  |zero=>cases b
  |succ m=>
   simp only[iO,aS]at H;obtain⟨s,C⟩:=H;simp only[gY]at h;split at h
   .rename_i o r;simp only[r]at s;have Z: ∀v,∀c a w,O5 n D a0 w0 O K E (.panic c) (a.put o.dst v) w->O5 n D a0 w0 O K E (.panic c) a w:=λv c a w hq=>by
     rcases hq with⟨e,_⟩|⟨F,J,L,z⟩
     .cases e
     .refine .inr ⟨(Ew _ _ _).symm.trans F,?_,L.Tl (eS r),z⟩;rw[<-J];cases o.dst<;>simp[Act.put]
    have take: ∀(v:Value)(S:Option (ak->Prop))(y:Env),lT P o=true->jL n D y (a.put o.dst v)->YieldsIf P O (λw=>pj S w.heap) o v a->pj S w.heap->
      gY P ni n O E rest (uM i S G) y w.heap K->ij P O (O5 n D a0 w0 O K E) (m+1) G l a w:=λv S y x u hy B hd=>by
     rw[x]at s;simp only[aS]at s;have Y: ∀g∈uM i S G,g.2 w.heap:=by
      intro g T;cases S with
      |none=>exact d g T
      |some S=>
       rcases bG.1 T with e|e
       .rw[e];exact B
       .exact d g e
     have I:=I.1 m _ (uM i S G) y (a.put o.dst v) w b C u k (p.trans (fH.put (eS r))) Y hd;refine ps (S:=pj S) r (Region.noSelect_spec b') (Z v) m G l a w (Region.free_spec r s.2) (by simpa using s.1) hy B d ?_;cases S with
     |none=>exact nA i _ _ _ _ _ I
     |some S=>exact I
    cases x:lT P o with
    |true=>
     rcases py f h with⟨N,y,u,h⟩|⟨N,y,u,c'⟩
     .rw[x]at h;obtain⟨v,S,F,J,L⟩:=pk u.fits h;obtain⟨Q,M,z⟩:=px u F;exact take v S Q x M (.inl ⟨N,λw' B=>qk _ _ _ (L _ B)⟩) J z
     .obtain⟨Q,M,z⟩:=px u c';exact take undef none Q x M (.inr ⟨N,rfl⟩) trivial z
    |false=>
     rw[x]at s h;simp only at s h;have A:Region.ready .any O l= [i]:=by
      split at s
      .rename_i j t;rw[t,bT s]
      .cases s
     refine⟨(λe=>by rw[A]at e;cases e),λj t o' W=> ?_⟩;rw[A]at t;obtain rfl:j=i:=by simpa using t
     obtain rfl:o'=o:=by rw[r]at W;exact(bp W).symm
     exact xy (λG σ a w f k p d h=>I.1 m _ G σ a w b C f k p d h) r f k p d h
   .exact h.elim
end
def Mp(K:List Deferred->Env->ak->Prop)(Q:Exit->List Deferred->Env->ak->Prop):Exit->List Deferred->Env->ak->Prop
 | .normal=>K
 |e=>Q e
def Mq(id:Nat)(Q:Exit->List Deferred->Env->ak->Prop):Exit->List Deferred->Env->ak->Prop
 | .exit i=>(match Nat.beq i id with|true=>Q .normal|false=>Q (.exit i))
 |e=>Q e
def qa(P : Program)(ni : List Nat)(n : Nat)(E : List Deferred -> Env -> fG): uD -> Code -> (Exit -> List Deferred -> Env -> ak -> Prop) -> List Deferred -> Env -> ak -> Prop
  | .leaf, c, Q, D, σ, h => (match c with
    | .skip => Q .normal D σ h
    | .label _ => Q .normal D σ h
    | .exit id => Q (.exit id) D σ h
    | .ret => Q .ret D σ h
    | .region _ o false => nB P ni n o [] (E D (σ.forget (cP o))) o.toList D σ h (Q .normal)
    | _ => False)
  | .typed ty, c, Q, D, σ, h => (match c with
    | .region _ o false => nB P ni n o ty (E D (σ.forget (cP o))) o.toList D σ h (Q .normal)
    | _ => False)
  | .gT p, c, Q, D, σ, h => (match c with
    | .region _ o true => (match (P.follows .mixedOrders && Region.noSelect o && sg p o.size && iO P o p none (Array.replicate o.size false)) with
      | true => gY P ni n o (E D (σ.forget (cP o))) p [] σ h (Q .normal D)
      | false => False)
    | _ => False)
  | .seq a b, c, Q, D, σ, h => (match c with
    | .seq c d => qa P ni n E a c (Mp (λD' e h' => qa P ni n E b d Q D' e h') Q) D σ h
    | _ => False)
  | .cond a b, c, Q, D, σ, h => (match c with
    | .cond x c d => (match σ.ev x with
      | some (.bool q) => if q = true then qa P ni n E a c Q D σ h else qa P ni n E b d Q D σ h
      | _ => False)
    | _ => False)
  | .block a, c, Q, D, σ, h => (match c with
    | .block id c => qa P ni n E a c (Mq id Q) D σ h
    | _ => False)
  | .loop L a, c, Q, D, σ, h => (match c with
    | .loop c => ∃(I : tj (ak -> Prop) L)(g : tj (ak -> Nat) L), nU False L I σ (λf => f h) /\
        Mh L (λe => ∀ h', nU False L I e (λf => f h') ->
          qa P ni n E a c (Mp (λD' i H => D' = D /\ nU False L I i (λf => f H) /\ nU 0 L g i (λf => f H) < nU 0 L g e (λf => f h')) Q) D e h') (σ.forget (writes c))
    | _ => False)
  | .join L a, c, Q, D, σ, h => aI (α := tj (ak -> Prop) L) (O9 L (λe h' => Q .normal D e h') (σ.forget (writes c)))
      (λJ => qa P ni n E a c (Mp (λD' e h' => D' = D /\ nU False L J e (λf => f h')) Q) D σ h)
  | .scope _ _ _ _, _, _, _, _, _ => False
  | .kC _, _, _, _, _, _ => False
def R0(n:Nat)(a0:Act)(w0:World)(W:List Nat)(Q:Exit->List Deferred->Env->ak->Prop)(E:List Deferred->Env->fG):Exit->Act->World->Prop:=
 λe a w=>fM w0 w/\fH W a0 a/\((∃D σ,jL n D σ a/\Q e D σ w.heap/\∀c,e≠ .panic c)\/∃D σ v,jL n D σ a/\e=.panic (ring v)/\E D σ v w.heap)
theorem jL.tB{n:Nat}{D D':List Deferred}{σ b c:Env}{a A:Act}{W:List Nat}(H:jL n D σ a)(h:jL n D' b A)(e:fH W a A)(d:Sub c (σ.forget W) b):jL n D' c A:=
 .of (Rel.tB H.bare h.bare e d) h.defs
theorem tH{n:Nat}{D:List Deferred}{a0:Act}{w0:World}{σ:Env}{W:List Nat}{Q:Exit->List Deferred->Env->ak->Prop}{E:List Deferred->Env->fG}(g:jL n D σ a0){e:Exit}{a:Act}{w:World}(h:RZ n D a0 w0 W (Q .normal) (E D (σ.forget W)) e a w):R0 n a0 w0 W Q E e a w:=by
 rcases h with⟨rfl,D',j,b,c,H,d⟩|⟨b,c,H,d,v,rfl,f⟩
 .exact⟨H,d,.inl ⟨D',j,b,c,λ_ e=>by cases e⟩⟩
 .refine⟨d,H,.inr ⟨D,_,v,⟨c,λt u i=> ?_,b⟩,rfl,f⟩⟩;obtain⟨q1,q2⟩:=Env.xr i;rw[H t q1];exact g.at_ t u q2
theorem uQ{n:Nat}{a0:Act}{w0:World}{W b:List Nat}{Q:Exit->List Deferred->Env->ak->Prop}{E:List Deferred->Env->fG}(H: ∀t,t∈W->t∈b){e:Exit}{a:Act}{w:World}(h:R0 n a0 w0 W Q E e a w):R0 n a0 w0 b Q E e a w:=
 ⟨h.1,h.2.1.mono H,h.2.2⟩
theorem Km{n:Nat}{a0 A:Act}{w0 w1:World}{W:List Nat}{Q:Exit->List Deferred->Env->ak->Prop}{E:List Deferred->Env->fG}(H:fM w0 w1)(b:fH W a0 A){e:Exit}{a:Act}{w:World}(h:R0 n A w1 W Q E e a w):R0 n a0 w0 W Q E e a w:=
 ⟨H.trans h.1,b.trans h.2.1,h.2.2⟩
theorem nC{P:Program}{ni:List Nat}{n:Nat}{E:List Deferred->Env->fG}: ∀(V:uD)(c:Code)(Q:Exit->List Deferred->Env->ak->Prop)(D:List Deferred)(σ:Env)(a:Act)(w:World),jL n D σ a->
  qa P ni n E V c Q D σ w.heap->c.wp P (R0 n a w (writes c) Q E) a w
 | .leaf,c,Q,D,σ,a,w,o,h=>by
  unfold qa at h;have ok: ∀e,(∀C,e≠ .panic C)->Q e D σ w.heap->R0 n a w (writes c) Q E e a w:=λe H hq=>⟨fM.refl w,fH.refl _ _,.inl ⟨D,σ,o,hq,H⟩⟩
  split at h
  .exact wp_skip (ok _ (λ_ e=>by cases e) h)
  .exact wp_label (ok _ (λ_ e=>by cases e) h)
  .exact wp_exit (ok _ (λ_ e=>by cases e) h)
  .exact wp_ret (ok _ (λ_ e=>by cases e) h)
  .rename_i id O;refine wp_mono (wp_region ?_) (λe A w' hq=>tH o hq);have:=pz (a0:=a) (w0:=w) O.toList 0 σ a w bQ o (fM.refl w) (fH.refl _ _) h;rw[fV];rw[eR]at this;exact this
  .exact h.elim
 | .typed ty,c,Q,D,σ,a,w,o,h=>by
  unfold qa at h;split at h
  .rename_i id O;refine wp_mono (wp_region ?_) (λe A w' hq=>tH o hq);have:=pz (a0:=a) (w0:=w) O.toList 0 σ a w bQ o (fM.refl w) (fH.refl _ _) h;rw[fV];rw[eR]at this;exact this
  .exact h.elim
 | .gT p,c,Q,D,σ,a,w,o,h=>by
  unfold qa at h;split at h
  .rename_i id O;split at h
   .rename_i G;simp only[aS]at G;obtain⟨⟨⟨X,Y⟩,Z⟩,h4⟩:=G;refine wp_mono (wp_region_any (Q:=O5 n D a w O (Q .normal D) (E D (σ.forget (cP O)))) X ?_) (λe A w' hq=>tH (Q:=Q) o ?_)
    .exact pq _ _ _ _ _ ((Bi (a0:=a) (w0:=w) Y p).1 O.size (Array.replicate O.size false) [] σ a { w with drawn:=w.drawn+1 } Z h4 o ⟨rfl,rfl,rfl⟩ (fH.refl _ _) (λ_ hm=>by cases hm) h)
    .rcases hq with⟨e,D',j,q1,⟨rfl,q2⟩,q3⟩|hq
     .exact .inl ⟨e,_,j,q1,q2,q3⟩
     .exact .inr hq
   .exact h.elim
  .exact h.elim
 | .seq x y,c,Q,D,σ,a,w,o,h=>by
  unfold qa at h;split at h
  .rename_i c d;have hW: ∀t,t∈writes c->t∈writes (.seq c d):=λt r=>eH _ r
   refine wp_seq (wp_mono (nC x c _ D σ a w o h) ?_);rintro e A w' hq;have hq:=uQ hW hq;obtain⟨i,g,⟨D',j,m,hq,H⟩|⟨D',j,v,m,rfl,hE⟩⟩:=hq
   .cases e with
    |normal=>exact wp_mono (nC y d Q D' j A w' m hq) (λe2 a2 w2 b'=>Km i g (uQ (λt r=>eV _ r) b'))
    |exit id=>exact⟨i,g,.inl ⟨D',j,m,hq,H⟩⟩
    |goto l=>exact⟨i,g,.inl ⟨D',j,m,hq,H⟩⟩
    |ret=>exact⟨i,g,.inl ⟨D',j,m,hq,H⟩⟩
    |panic C=>exact absurd rfl (H C)
    |outgrown=>exact⟨i,g,.inl ⟨D',j,m,hq,H⟩⟩
   .exact⟨i,g,.inr ⟨D',j,v,m,rfl,hE⟩⟩
  .exact h.elim
 | .cond x y,c,Q,D,σ,a,w,o,h=>by
  unfold qa at h;split at h
  .rename_i k c d;split at h
   .rename_i q hq;have H:=o.fits _ _ hq;split at h
    .rename_i r;subst r;exact wp_cond_true H (wp_mono (nC x c Q D σ a w o h) (λ_ _ _=>uQ λt r=>eH _ r))
    .rename_i r;have r:q=false:=by simpa using r
     subst r;exact wp_cond_false H (wp_mono (nC y d Q D σ a w o h) (λ_ _ _=>uQ λt r=>eV _ r))
   .exact h.elim
  .exact h.elim
 | .block x,c,Q,D,σ,a,w,o,h=>by
  unfold qa at h;split at h
  .rename_i id c;refine wp_block (wp_mono (nC x c _ D σ a w o h) ?_);rintro e A w' ⟨i,g,⟨D',j,m,hq,H⟩|⟨D',j,v,m,rfl,hE⟩⟩
   .cases e with
    |exit M=>
     simp only[Exit.inBlock];simp only[Mq]at hq;by_cases hid:M=id
     .subst hid;simp only[Nat.beq_refl]at hq;rw[ah rfl];exact⟨i,g,.inl ⟨D',j,m,hq,λ_ e=>by cases e⟩⟩
     .rw[af hid];have:Nat.beq M id=false:=by cases G:Nat.beq M id;rfl;exact absurd (bT G) hid
      rw[this]at hq;exact⟨i,g,.inl ⟨D',j,m,hq,H⟩⟩
    |normal=>exact⟨i,g,.inl ⟨D',j,m,hq,H⟩⟩
    |goto l=>exact⟨i,g,.inl ⟨D',j,m,hq,H⟩⟩
    |ret=>exact⟨i,g,.inl ⟨D',j,m,hq,H⟩⟩
    |panic C=>exact absurd rfl (H C)
    |outgrown=>exact⟨i,g,.inl ⟨D',j,m,hq,H⟩⟩
   .exact⟨i,g,.inr ⟨D',j,v,m,rfl,hE⟩⟩
  .exact h.elim
 | .loop L x,c,Q,D,σ,a,w,o,h=>by
  unfold qa at h;split at h
  .rename_i c;obtain⟨I,μ,W,c'⟩:=h;refine wp_loop (λA w'=> ∃j,jL n D j A/\nU False L I j (λf=>f w'.heap)/\fM w w'/\fH (writes c) a A)
    (λA w'=>nU 0 L μ (xw A) (λf=>f w'.heap)) ⟨σ,o,W,fM.refl w,fH.refl _ _⟩ ?_
   rintro A w' ⟨j,m,N,i,g⟩;obtain⟨J,hF,K,hL,_⟩:=yF L _ I c' N;have T:=jL.tB o m g K;have R:nU False L I J (λf=>f w'.heap):=by rw[oz L I hL];exact N
   have hd:=hF w'.heap R;refine wp_mono (nC x c _ D J A w' T hd) ?_;rintro e U w1 ⟨B,F,⟨z,u,s,hq,H⟩|⟨z,u,v,s,rfl,hE⟩⟩
   .cases e with
    |normal=>
     obtain⟨rfl,S,a'⟩:=hq;refine⟨⟨u,s,S,i.trans B,g.trans F⟩,?_⟩;have ev: ∀b:Act,xw { b with defers:= [] } =xw b:=λ_=>rfl
     rw[<-ev U,<-ev A,mv s.bare (pn L I S),mv T.bare (pn L I R)];exact a'
    |exit id=>exact⟨i.trans B,g.trans F,.inl ⟨z,u,s,hq,H⟩⟩
    |goto l=>exact⟨i.trans B,g.trans F,.inl ⟨z,u,s,hq,H⟩⟩
    |ret=>exact⟨i.trans B,g.trans F,.inl ⟨z,u,s,hq,H⟩⟩
    |panic C=>exact absurd rfl (H C)
    |outgrown=>exact⟨i.trans B,g.trans F,.inl ⟨z,u,s,hq,H⟩⟩
   .exact⟨i.trans B,g.trans F,.inr ⟨z,u,v,s,rfl,hE⟩⟩
  .exact h.elim
 | .join L x,c,Q,D,σ,a,w,o,h=>by
  unfold qa at h;unfold aI at h;refine wp_mono (nC x c _ D σ a w o h) ?_;rintro e A w' ⟨i,g,⟨D',j,m,hq,H⟩|hE⟩
  .cases e with
   |normal=>
    obtain⟨rfl,hq⟩:=hq;obtain⟨J,hQ,K⟩:=yV L _ hq;exact⟨i,g,.inl ⟨_,J,jL.tB o m g K,hQ,H⟩⟩
   |exit id=>exact⟨i,g,.inl ⟨D',j,m,hq,H⟩⟩
   |goto l=>exact⟨i,g,.inl ⟨D',j,m,hq,H⟩⟩
   |ret=>exact⟨i,g,.inl ⟨D',j,m,hq,H⟩⟩
   |panic C=>exact absurd rfl (H C)
   |outgrown=>exact⟨i,g,.inl ⟨D',j,m,hq,H⟩⟩
  .exact⟨i,g,.inr hE⟩
 | .scope _ _ _ _,_,_,_,_,_,_,_,h=>by unfold qa at h;exact h.elim
def xz:Option Value->FrameMode
 |none=> .returning
 |some v=> .panicking (ring v)
def qB(P:Program)(g:FuncId)(args:Array Value)(rv:Option Value)(h:ak)(K:Option Value->ak->Prop):Prop:=
 ∀w:World,w.heap=h->CallsD P g args (xz rv) w λe u w'=>(∃v,e=.returned v)/\fM w w'/\∃r,settle u=xz r/\K r w'.heap
def Mr(A:ak->Prop)(E:fG):Option Value->ak->Prop
 |none,h=>A h
 |some v,h=>E v h
def y8(P:Program)(r:List ResultVar)(R E:fG):List Deferred->Option Value->Env->ak->Prop
 | [],none,σ,h=>tC P r σ h λvs=>R (xx vs) h
 | [],some v,_,h=>E v h
 | [d],rv,σ,h=>(match d.target with
  | .fn (.func g) cap=>(match pg P g with
   |true=>qB P g (d.args.toList++cap.toList).toArray rv h (Mr (λh'=>tC P r σ h' λvs=>R (xx vs) h') E)
   |false=>False)
  |_=>False)
 |_::_::_,_,_,_=>False
theorem Pb{P:Program}{n:Nat}{D:List Deferred}{σ:Env}{a:Act}{h:ak}{f:Func}{F:Value->Prop}(b:jL n D σ a)(H:tC P f.results.toList σ h λvs=>F (xx vs)): ∃v,F v/\rd P (results f a.tmps) h=some v:=
 tD (a:= { a with defers:= [] }) b.bare H
theorem y9{P:Program}{n:Nat}{f:Func}{R E:fG}{w0:World}{D:List Deferred}{rv:Option Value}{σ:Env}{a:Act}{w:World}(q:jL n D σ a)(b:fM w0 w)(h:y8 P f.results.toList R E D rv σ w.heap):
  Leaves P f a.tmps (λe w'=>fM w0 w'/\((∃v,e=.returned v/\R v w'.heap)\/∃v,e=.panicked (ring v)/\E v w'.heap)) D (xz rv) w:=by
 have fin: ∀(rv:Option Value)(w:World),fM w0 w->(match rv with|none=>tC P f.results.toList σ w.heap λvs=>R (xx vs) w.heap|some v=>E v w.heap)->
   Leaves P f a.tmps (λe w'=>fM w0 w'/\((∃v,e=.returned v/\R v w'.heap)\/∃v,e=.panicked (ring v)/\E v w'.heap)) [] (xz rv) w:=by
  intro rv w b h;cases rv with
  |none=>
   obtain⟨v,i,j⟩:=Pb (F:=λv=>R v w.heap) q h;exact⟨v,qk _ _ _ j,b,.inl ⟨v,rfl,i⟩⟩
  |some v=>exact⟨b,.inr ⟨v,rfl,h⟩⟩
 match D,h with
 | [],h=>
  refine fin rv w b ?_;cases rv<;>exact h
 | [d],h=>
  simp only[y8]at h;split at h
  .rename_i g cap k;split at h
   .rename_i H;refine⟨by cases rv<;>simp[xz],.func g,cap,g,(d.args.toList++cap.toList).toArray,k,?_,?_⟩
    .rw[k];unfold pg at H;split at H
     .rename_i f2 m;simp only[aS,Bool.not_eq_true']at H;have o:f2.body.isNone=false:=by cases p:f2.body<;>simp[p]at H⊢
      have e:d.args++cap=(d.args.toList++cap.toList).toArray:=by apply Array.ext';simp
      rw[<-e];refine qk _ _ _ ?_;simp only[invoke,callFunc];show rd P (match P.funcs[g]? with|none=>_|some f=>_) w.heap=_;rw[m];simp only[H.2,o,au,aM];rfl
     .cases H
    .intro c cs t;obtain⟨e,u,w',fr,⟨⟨v,rfl⟩,s,r,i,j⟩,l⟩:=h w rfl c cs t;refine⟨_,u,w',fr,?_,l⟩;show Leaves P f a.tmps _ [] (settle u) w';rw[i];exact fin r w' (b.trans s) (by cases r<;>exact j)
   .exact h.elim
  .exact h.elim
 |_::_::_,h=>exact h.elim
def Vs(P:Program)(r:Array ResultVar)(R E:fG):Exit->List Deferred->Env->ak->Prop
 | .normal,D,σ,h=>y8 P r.toList R E D none σ h
 | .ret,D,σ,h=>y8 P r.toList R E D none σ h
 |_,_,_,_=>False
theorem im{P:Program}{f:FuncId}{F:Func}{args:List Value}{h:ak}{R E:fG}(A:uD)(ni:List Nat)(o:P.funcs[f]? =some F)(m:F.body.isSome=true)(k:Nat.ble args.length F.ntmps=true)(hd:qa P ni F.ntmps (λD σ v h=>y8 P F.results.toList R E D (some v) σ h) A (tF F) (Vs P F.results R E) [] (mH args) h):iA P f args.toArray h R E:=by
 obtain⟨c,j⟩:=fw.1 m;rw[tF,j]at hd;intro w q;subst q;have k:=Nat.le_of_ble_eq_true k;refine calls_of_wp_defers o j ?_;have H:jL F.ntmps [] (mH args) { tmps:=args.toArray++Array.replicate (F.ntmps - args.toArray.size) undef,defers:= [] } :=by
  refine⟨by simp;omega,λt v g=> ?_,rfl⟩;unfold mH at g;have p:t<args.length:=(aB.1 g).1;simp only[fh];rw[dP (by simpa using p)];simp[g]
 refine wp_mono (nC A c _ _ _ _ w H hd) ?_;rintro e a w' ⟨d,_,⟨D,σ,H,b,n⟩|⟨D,σ,v,H,rfl,i⟩⟩
 .cases e with
  |normal=>rw[<-H.defs]at b H;exact y9 (rv:=none) H d b
  |ret=>rw[<-H.defs]at b H;exact y9 (rv:=none) H d b
  |exit id=>exact b.elim
  |goto l=>exact b.elim
  |panic C=>exact absurd rfl (n C)
  |outgrown=>exact b.elim
 .rw[<-H.defs]at i H;exact y9 (rv:=some v) H d i
inductive RS where
 |calm
 |Ms (v:Value)
 |done (v:Value)
def RS.mode:RS->FrameMode
 | .calm=> .returning
 | .Ms v=> .panicking (ring v)
 | .done v=> .panicking [{ v,recovered:=true }]
def RS.left:RS->Option Value
 | .Ms v=>some v
 |_=>none
def RS.of:Option Value->RS
 |none=> .calm
 |some v=> .Ms v
theorem RS.settle(a:RS):settle a.mode=xz a.left:=by cases a<;>rfl
theorem RS.Pc(rv:Option Value):(RS.of rv).mode=xz rv:=by cases rv<;>rfl
def isRec(o:Oper):Bool:=match o.op with
 | .call { callee:=.builtin .recover,args:=_,argTypes:=_ } =>true
 |_=>false
theorem Kn{P:Program}{o:Oper}{a:Operand->Value}{w:World}(h:isRec o=true):(execOp a o).run P w=.ok .recover w:=by
 unfold isRec at h;split at h
 .rename_i H;unfold execOp;rw[H];rfl
 .cases h
def GO(P:Program)(o:Oper)(σ:Env)(h:ak)(K:fG):Prop:=
 match o.op with
 | .typeAssert x X a ok=>(match σ.ev x with
  |some v=>aU P (Instr.typeAssert v X a ok) h K
  |none=>False)
 |_=>xp P o σ h K
theorem Ko{P:Program}{o:Oper}{σ:Env}{b:Operand->Value}{h:ak}{K:fG}(a:Fits σ b)(H:GO P o σ h K):qm P o b h K:=by
 unfold GO at H;split at H
 .rename_i x X A ok c;split at H
  .rename_i v d;unfold qm execOp;rw[c];simp only[a _ _ d];rw[dR];exact H
  .exact H.elim
 .exact oA a H
def jx(P:Program)(n:Nat)(O:Array Oper)(ty:List (Nat×Sh)):List Oper->RS->Env->ak->(RS->Env->ak->Prop)->Prop
 | [],b,σ,h,K=>K b σ h
 |o::rest,b,σ,h,K=>(match isRec o with
  |true=>jo O o σ
   (λσ=>(match b with
    | .Ms v=>iQ n σ o.dst v λa=>jx P n O ty rest (.done v) a h K
    | .calm=>iQ n σ o.dst .nilIface λa=>jx P n O ty rest .calm a h K
    | .done v=>iQ n σ o.dst .nilIface λa=>jx P n O ty rest (.done v) a h K))
   (λσ=>iQ n σ o.dst undef λa=>jx P n O ty rest b a h K)
  |false=>jo O o σ
   (λσ=>GO P o σ h λv h'=>Et ty o.dst v λv=>iQ n σ o.dst v λa=>jx P n O ty rest b a h' K)
   (λσ=>iQ n σ o.dst undef λa=>jx P n O ty rest b a h K))
def SZ(n:Nat)(a0:Act)(w0:World)(W:List Nat)(c0:Frame)(cs0:List Frame)(Q:Exit->RS->Env->ak->Prop):Exit->Act->List Frame->World->Prop:=
 λe a cs w=> ∃b σ,cs= { c0 with mode:=b.mode } ::cs0/\Rel n σ a/\Q e b σ w.heap/\fM w0 w/\fH W a0 a
def Mt(K:RS->Env->ak->Prop):Exit->RS->Env->ak->Prop
 | .normal=>K
 |_=>λ_ _ _=>False
theorem za{P:Program}{n:Nat}{O:Array Oper}{ty:List (Nat×Sh)}{K:RS->Env->ak->Prop}{a0:Act}{w0:World}{c0:Frame}{cs0:List Frame}: ∀(rest:List Oper)(k:Nat)(c:RS)(σ:Env)(a:Act)(w:World),
  (∀j,rest[j]? =O[k+j]?)->Rel n σ a->fM w0 w->fH (cP O) a0 a->jx P n O ty rest c σ w.heap K->wpOpsS P O (SZ n a0 w0 (cP O) c0 cs0 (Mt K)) (List.range' k rest.length) a ({ c0 with mode:=c.mode } ::cs0) w
 | [],k,c,σ,a,w,_,g,i,m,h=>⟨c,σ,rfl,g,h,i,m⟩
 |o::rest,k,c,σ,a,w,q,g,i,m,h=>by
  have p:O[k]? =some o:=by have:=q 0;simpa using this.symm
  have u: ∀j,rest[j]? =O[k+1+j]? :=λj=>by have:=q (j+1);simpa[Nat.add_assoc,Nat.add_comm 1 j]using this
  simp only[aW,List.range'_succ,wpOpsS,p];unfold jx at h;have next: ∀{b:Env}{v:Value}{D9:RS}{w':World},fM w w'->Rel n b a->(iQ n b o.dst v λb=>jx P n O ty rest D9 b w'.heap K)->
    wpOpsS P O (SZ n a0 w0 (cP O) c0 cs0 (Mt K)) (List.range' (k+1) rest.length) (a.put o.dst v) ({ c0 with mode:=D9.mode } ::cs0) w':=by
   intro b v D9 w' l H h;obtain⟨A,y,s⟩:=iZ H h;exact za rest (k+1) D9 A _ w' u y (i.trans l) (m.trans (fH.put (eS p))) s
  split at h
  .rename_i z;rcases jH g h with⟨d,b,H,h⟩|⟨d,b,H,h⟩
   .rw[ah d,Kn z];cases c with
    |calm=>exact next (D9:=.calm) (fM.refl w) H h
    |Ms v=>exact next (D9:=.done v) (fM.refl w) H h
    |done v=>exact next (D9:=.done v) (fM.refl w) H h
   .rw[af (by rw[d];simp)];exact next (fM.refl w) H h
  .rcases jH g h with⟨d,b,H,h⟩|⟨d,b,H,h⟩
   .rw[ah d];obtain⟨x,w',r1,r2,r⟩:=pf _ _ _ (Ko H.fits h) w rfl;rw[r1];cases x with
    |value v=>exact next r H (qx (F:=λv=>iQ n b o.dst v λb=>jx P n O ty rest c b w'.heap K) r2)
    |skip=>exact next r H (qx (F:=λv=>iQ n b o.dst v λb=>jx P n O ty rest c b w'.heap K) r2)
    |enter f args=>
     refine(r2 w' rfl).mono ?_;rintro e W ⟨v,rfl,t,l⟩;exact next (r.trans l) H (qx t)
    |_=>exact r2.elim
   .rw[af (by rw[d];simp)];exact next (fM.refl w) H h
def thenS(K:RS->Env->ak->Prop)(Q:Exit->RS->Env->ak->Prop):Exit->RS->Env->ak->Prop
 | .normal=>K
 |e=>Q e
def GP(P:Program)(n:Nat):uD->Code->(Exit->RS->Env->ak->Prop)->RS->Env->ak->Prop
 | .seq a b,c,Q,f,σ,h=>(match c with
  | .seq c d=>GP P n a c (thenS (λD9 g h'=>GP P n b d Q D9 g h') Q) f σ h
  |_=>False)
 | .typed ty,c,Q,f,σ,h=>(match c with
  | .region _ o false=>jx P n o ty o.toList f σ h (Q .normal)
  |_=>False)
 | .leaf,c,Q,f,σ,h=>(match c with
  | .region _ o false=>jx P n o [] o.toList f σ h (Q .normal)
  |c=>den P n .leaf none c (λe g h'=>Q e f g h') σ h)
 |XZ,c,Q,f,σ,h=>den P n XZ none c (λe g h'=>Q e f g h') σ h
theorem Pd{P:Program}{n:Nat}{c0:Frame}{cs0:List Frame}: ∀(A:uD)(c:Code)(Q:Exit->RS->Env->ak->Prop)(f:RS)(σ:Env)(a:Act)(w:World),Rel n σ a->GP P n A c Q f σ w.heap->
  c.wpS P (SZ n a w (writes c) c0 cs0 Q) a ({ c0 with mode:=f.mode } ::cs0) w:=by
 have mono: ∀{c:Code}{Q J:Exit->Act->List Frame->World->Prop}{a:Act}{cs:List Frame}{w:World},c.wpS P Q a cs w->(∀e a cs w,Q e a cs w->J e a cs w)->c.wpS P J a cs w:=
  λh i b k K H=>let ⟨e,B,E,w',q,r⟩:=h b k K H;⟨e,B,E,w',i _ _ _ _ q,r⟩
 have j: ∀(A:uD)(c:Code)(Q:Exit->RS->Env->ak->Prop)(f:RS)(σ:Env)(a:Act)(w:World),Rel n σ a->den P n A none c (λe g h'=>Q e f g h') σ w.heap->
   c.wpS P (SZ n a w (writes c) c0 cs0 Q) a ({ c0 with mode:=f.mode } ::cs0) w:=λA c Q f σ a w H h=>
  wpS_of_wp (wp_mono (kG A none c _ σ a w H h).wp λe B w' ⟨g,C,F,D,G⟩=>⟨f,g,rfl,C,F,D,G⟩)
 have R: ∀(id:Nat)(o:Array Oper)(ty:List (Nat×Sh))(Q:Exit->RS->Env->ak->Prop)(f:RS)(σ:Env)(a:Act)(w:World),Rel n σ a->jx P n o ty o.toList f σ w.heap (Q .normal)->
   (Code.region id o false).wpS P (SZ n a w (cP o) c0 cs0 Q) a ({ c0 with mode:=f.mode } ::cs0) w:=λid o ty Q f σ a w H h=>by
  refine mono (wpS_region (Q:=SZ n a w (cP o) c0 cs0 (Mt (Q .normal))) ?_) ?_
  .have:=za (c0:=c0) (cs0:=cs0) (a0:=a) (w0:=w) o.toList 0 f σ a w bQ H (fM.refl w) (fH.refl _ _) h;rw[fV];rw[eR]at this;exact this
  .rintro e B E w' ⟨D9,g,C,F,D,G⟩;cases e with
   |normal=>exact⟨D9,g,C,F,D,G⟩
   |_=>exact D.elim
 intro A;induction A with
 |seq x y T U=>
  intro c Q f σ a w H h;unfold GP at h;split at h
  .rename_i c d;have m: ∀t,t∈writes c->t∈writes (.seq c d):=λt I=>eH _ I
   refine wpS_seq (mono (T c _ f σ a w H h) ?_);rintro e B E w' ⟨D9,g,rfl,s,i,u,v⟩;cases e with
   |normal=>
    refine mono (U d Q D9 g B w' s i) ?_;rintro e2 X Z w2 ⟨V,W,C,N,M,O,S⟩;exact⟨V,W,C,N,M,u.trans O,(v.mono m).trans (S.mono λt I=>eV _ I)⟩
   |exit id=>exact⟨D9,g,rfl,s,i,u,v.mono m⟩
   |goto l=>exact⟨D9,g,rfl,s,i,u,v.mono m⟩
   |ret=>exact⟨D9,g,rfl,s,i,u,v.mono m⟩
   |panic Y=>exact⟨D9,g,rfl,s,i,u,v.mono m⟩
   |outgrown=>exact⟨D9,g,rfl,s,i,u,v.mono m⟩
  .exact h.elim
 |typed ty=>
  intro c Q f σ a w H h;unfold GP at h;split at h
  .exact R _ _ ty Q f σ a w H h
  .exact h.elim
 |leaf=>
  intro c Q f σ a w H h;unfold GP at h;split at h
  .exact R _ _ [] Q f σ a w H h
  .exact j .leaf c Q f σ a w H h
 |cond x y=>exact λc Q f σ a w H h=>j _ c Q f σ a w H h
 |block x=>exact λc Q f σ a w H h=>j _ c Q f σ a w H h
 |loop L x=>exact λc Q f σ a w H h=>j _ c Q f σ a w H h
 |join L x=>exact λc Q f σ a w H h=>j _ c Q f σ a w H h
 |gT p=>exact λc Q f σ a w H h=>j _ c Q f σ a w H h
 |kC p=>exact λc Q f σ a w H h=>j _ c Q f σ a w H h
 |scope z L x y=>exact λc Q f σ a w H h=>j _ c Q f σ a w H h
def Vt(P:Program)(r:Array ResultVar)(K:Option Value->ak->Prop):Exit->RS->Env->ak->Prop
 | .normal,a,σ,h=>tC P r.toList σ h λ_=>K a.left h
 | .ret,a,σ,h=>tC P r.toList σ h λ_=>K a.left h
 |_,_,_,_=>False
theorem qC{P:Program}{f:FuncId}{a:Func}{args:List Value}{rv:Option Value}{h:ak}{K:Option Value->ak->Prop}(j:uD)(x:P.funcs[f]? =some a)(g:a.body.isSome=true)(n:Nat.ble args.length a.ntmps=true)(hd:GP P a.ntmps j (tF a) (Vt P a.results K) (RS.of rv) (mH args) h):qB P f args.toArray rv h K:=by
 obtain⟨c,m⟩:=fw.1 g;rw[tF,m]at hd;intro w I;subst I;have n:=Nat.le_of_ble_eq_true n;refine callsD_of_wpS x m λc0 cs B=> ?_
 have E:c0= { c0 with mode:=(RS.of rv).mode } :=by rw[RS.Pc,<-B]
 have C:Rel a.ntmps (mH args) { tmps:=args.toArray++Array.replicate (a.ntmps - args.toArray.size) undef,defers:= [] } :=by
  refine⟨rfl,by simp;omega,λt v i=> ?_⟩;unfold mH at i;have z:t<args.length:=(aB.1 i).1;simp only[fh];rw[dP (by simpa using z)];simp[i]
 have key:=Pd (c0:=c0) (cs0:=cs) j c _ (RS.of rv) _ _ w C hd;rw[<-E]at key;intro b k g D;obtain⟨e,A,L,w',⟨d,σ,rfl,o,H,G,_⟩,s⟩:=key b k g D;refine⟨e,A,_,w',?_,s⟩;have fin:(tC P a.results.toList σ w'.heap λ_=>K d.left w'.heap)->A.defers= []/\∃u,({ c0 with mode:=d.mode } ::cs:List Frame)= { c0 with mode:=u } ::cs/\∃v,(results a A.tmps).run P w'=.ok v w'/\(∃V,Ending.returned v=.returned V)/\fM w w'/\∃r,Go.settle u=xz r/\K r w'.heap:=λy=>by
  obtain⟨v,p,q⟩:=tD (F:=λ_=>K d.left w'.heap) o y;exact⟨o.defers,d.mode,rfl,v,qk _ _ _ q,⟨v,rfl⟩,G,d.left,RS.settle d,p⟩
 cases e with
 |normal=>exact fin H
 |ret=>exact fin H
 |exit id=>exact H.elim
 |goto l=>exact H.elim
 |panic J=>exact H.elim
 |outgrown=>exact H.elim
end Go.Den
namespace Go.Den
theorem kf{h:ak}{b i:Nat}{c:Array Value}{t:TypeId}{f:Nat×Nat}(H:h[b]? =some (.cells c t f)):aX h (AA b i)=c[i]? :=by
 simp[aX,H]
theorem lF{h:ak}{b i:Nat}{c:Array Value}{t:TypeId}(H:h[b]? =some (.cells c t (0,0))):o0 h (AA b i)=false:=by
 simp[o0,H]
theorem tJ{h:ak}{a:Addr}{v:Value}(H:aX h a=some v): ∃c t f,h[a.block]? =some (.cells c t f)/\a.spot=none/\c[a.off]? =some v:=by
 unfold aX at H;split at H
 .rename_i c t f b;split at H
  .cases H
  .rename_i d;exact⟨c,t,f,b,by simpa using d,H⟩
 .cases H
theorem aE{h:ak}{b:Nat}{o:Obj}(H:h[b]? =some o):b<h.size:=(Array.getElem?_eq_some_iff.1 H).1
theorem zc{h:ak}{b:Nat}{o x:Obj}(H:h[b]? =some o):(h.push x)[b]? =some o:=by
 rw[fN,af (Nat.ne_of_lt (aE H)),H]
theorem bV{h:ak}{x:Obj}:(h.push x)[h.size]? =some x:=bQ
theorem vZ{h:ak}{b i:Nat}{c:Array Value}{t:TypeId}{f:Nat×Nat}{v:Value}(H:h[b]? =some (.cells c t f)):(oy h (AA b i) v)[b]? =some (.cells (c.setIfInBounds i v) t f):=by
 simp[oy,dy,H]
theorem tL{h:ak}{a:Addr}{b:Nat}{v:Value}(H:b≠a.block):(oy h a v)[b]? =h[b]? :=by
 simp[oy,dy,fv H]
theorem BY{h:ak}{a:Addr}{v:Value}:(oy h a v).size=h.size:=by simp[oy]
theorem gU(b o n:Nat):((AA b o):Addr).add n=(AA b (o+n)):=by
 unfold Addr.add;split
 .rename_i h;subst h;rfl
 .rfl
theorem add_add(a:Addr)(m n:Nat):(a.add m).add n=a.add (m+n):=by
 unfold Addr.add;split
 .rename_i h;subst h;simp
 .split
  .rename_i h H;subst H;simp[h]
  .rename_i h H;have:m+n≠0:=ae
   rw[af this];simp[Nat.add_assoc]
def Fr(S:Nat->Prop)(h h':ak):Prop:=h.size<=h'.size/\∀c,c<h.size->¬S c->h'[c]? =h[c]?
theorem Fr.refl(S:Nat->Prop)(h:ak):Fr S h h:=⟨bn _,λ_ _ _=>rfl⟩
theorem Fr.get{S:Nat->Prop}{h h':ak}(a:Fr S h h'){c:Nat}{o:Obj}(H:h[c]? =some o)(b: ¬S c):h'[c]? =some o:=
 (a.2 c (aE H) b).trans H
theorem Fr.trans{S s S'':Nat->Prop}{h d e:ak}(a:Fr S h d)(f:Fr s d e)(i: ∀c,c<h.size->S c->S'' c)(j: ∀c,c<h.size->s c->S'' c):Fr S'' h e:=
 ⟨cD a.1 f.1,λc H g=>(f.2 c (cE H a.1) (λb=>g (j c H b))).trans (a.2 c H (λb=>g (i c H b)))⟩
theorem Fr.mono{S s:Nat->Prop}{h h':ak}(a:Fr S h h')(e: ∀c,c<h.size->S c->s c):Fr s h h':=
 ⟨a.1,λc H b=>a.2 c H (λd=>b (e c H d))⟩
theorem Fr.push{S:Nat->Prop}(h:ak)(o:Obj):Fr S h (h.push o):=
 ⟨bQ,λc H _=>by rw[fN,af (Nat.ne_of_lt H)]⟩
theorem Fr.cell{S:Nat->Prop}{h h':ak}(d:Fr S h h'){a:Addr}{v:Value}(b:aX h a=some v)(e: ¬S a.block):aX h' a=some v:=by
 obtain⟨c,t,f,H,g,i⟩:=tJ b;have:=d.get H e;unfold aX;rw[this];simp[g,i]
def ja(l:List (Int×Value))(k:Int):Option Value:=(l.find? (·.1==k)).map (·.2)
def Ey(l:List (Int×Value))(k:Int)(v:Value):List (Int×Value):=if(ja l k).isSome=true then l.map (λe=>if e.1==k then(k,v)else e)else l++ [(k,v)]
def wa(l:List (Int×Value))(k:Int):List (Int×Value):=l.filter (λe=> !(e.1==k))
theorem Mu(k:Int):ja [] k=none:=rfl
theorem gM(e:Int×Value)(l:List (Int×Value))(k:Int):ja (e::l) k=if e.1=k then some e.2 else ja l k:=by
 unfold ja;by_cases h:e.1=k<;>simp[h]
theorem Ez{l:List (Int×Value)}{k:Int}:(ja l k).isSome=true↔k∈l.map (·.1):=by
 induction l with
 |nil=>simp[ja]
 |cons e l i=>
  rw[gM,cj,bG];by_cases h:e.1=k
  .simp[h]
  .rw[af h,i];constructor
   .exact λhm=> .inr hm
   .rintro(E|hm)
    .exact absurd E.symm h
    .exact hm
theorem ze(l:List (Int×Value))(k k':Int)(v:Value)(H:k'≠k):ja (l.map (λe=>if e.1==k then(k,v)else e)) k'=ja l k':=by
 induction l with
 |nil=>rfl
 |cons e l i=>
  rw[cj,gM,gM,i];by_cases h:e.1=k
  .simp[h,fv H]
  .simp[h]
theorem Bj(l:List (Int×Value))(k:Int)(v:Value)(H:(ja l k).isSome=true):ja (l.map (λe=>if e.1==k then(k,v)else e)) k=some v:=by
 induction l with
 |nil=>simp[ja]at H
 |cons e l i=>
  rw[cj,gM];by_cases h:e.1=k
  .simp[h]
  .rw[gM,af h]at H;have a:(e.1==k)=false:=by simp[h]
   rw[a];simp only[au,aM,af h];exact i H
theorem EA(l L:List (Int×Value))(k:Int):ja (l++L) k=(ja l k).or (ja L k):=by
 induction l with
 |nil=>simp[ja]
 |cons e l i=>
  rw[dC,gM,gM,i];by_cases h:e.1=k<;>simp[h]
theorem Kq(l:List (Int×Value))(k k':Int)(v:Value):ja (Ey l k v) k'=if k'=k then some v else ja l k':=by
 unfold Ey;by_cases H:(ja l k).isSome=true
 .rw[ah H];by_cases h:k'=k
  .subst h;rw[ah rfl,Bj _ _ _ H]
  .rw[af h,ze _ _ _ _ h]
 .rw[af H,EA,gM,Mu];have a:ja l k=none:=by simpa using H
  by_cases h:k'=k
  .subst h;simp[a]
  .simp[h,fv h]
theorem Kr(l:List (Int×Value))(k k':Int):ja (wa l k) k'=if k'=k then none else ja l k':=by
 unfold wa;induction l with
 |nil=>simp[ja]
 |cons e l i=>
  rw[cz,gM];by_cases h:e.1=k
  .subst h;simp only[ff,dh,au,aM];rw[i];by_cases hk:k'=e.1
   .simp[hk]
   .simp[hk,fv hk]
  .have H:(!(e.1==k))=true:=by simp[h]
   rw[ah H,gM,i];by_cases hk:k'=k
   .subst hk;simp[h]
   .simp[hk]
theorem Ks(l:List (Int×Value))(k:Int)(v:Value)(d:(l.map (·.1)).Nodup):((Ey l k v).map (·.1)).Nodup:=by
 unfold Ey;by_cases H:(ja l k).isSome=true
 .rw[ah H];have:(l.map (λe=>if e.1==k then(k,v)else e)).map (·.1)=l.map (·.1):=by
   rw[dK];apply dV
   intro e _;by_cases h:e.1=k<;>simp[h]
  rw[this];exact d
 .rw[af H,aV];rw[Ez]at H;rw[eY];exact⟨d,bQ,by intro a f b c;simp at c;subst c;intro e;subst e;exact H f⟩
theorem Kt(l:List (Int×Value))(k:Int)(h:(l.map (·.1)).Nodup):((wa l k).map (·.1)).Nodup:=
 List.Sublist.nodup (fP _ cU) h
def qD(h:ak)(m:Nat)(l:List (Int×Value)):Prop:=
 ∃(es:Array MapEntry)(c:Nat),h[m]? =some (.map es c)/\es.toList.map (λe=>(e.key,e.val))=l.map (λe=>(Value.int .i64 e.1,e.2))/\(l.map (·.1)).Nodup/\
  (∀e∈es.toList,e.born<c)/\(es.toList.map (·.born)).Nodup
def nm(h:ak)(m:Nat)(f:Int->Option Value):Prop:= ∃l,qD h m l/\∀k,ja l k=f k
theorem qD.mI{h h':ak}{m:Nat}{l:List (Int×Value)}(d:qD h m l)(b:h'[m]? =h[m]?):qD h' m l:=by
 obtain⟨es,c,H,a⟩:=d;exact⟨es,c,b.trans H,a⟩
theorem qD.lt{h:ak}{m:Nat}{l:List (Int×Value)}(a:qD h m l):m<h.size:=by
 obtain⟨es,c,H,_⟩:=a;exact aE H
theorem qD.frame{S:Nat->Prop}{h h':ak}{m:Nat}{l:List (Int×Value)}(H:qD h m l)(a:Fr S h h')(b: ¬S m):qD h' m l:=
 H.mI (a.2 m H.lt b)
theorem nm.mI{h h':ak}{m:Nat}{f:Int->Option Value}(c:nm h m f)(b:h'[m]? =h[m]?):nm h' m f:=by
 obtain⟨l,H,a⟩:=c;exact⟨l,H.mI b,a⟩
theorem nm.lt{h:ak}{m:Nat}{f:Int->Option Value}(a:nm h m f):m<h.size:=by
 obtain⟨l,H,_⟩:=a;exact H.lt
theorem nm.frame{S:Nat->Prop}{h h':ak}{m:Nat}{f:Int->Option Value}(c:nm h m f)(b:Fr S h h')(d: ¬S m):nm h' m f:=by
 obtain⟨l,H,a⟩:=c;exact⟨l,H.frame b d,a⟩
theorem nm.map{h:ak}{m:Nat}{f:Int->Option Value}(a:nm h m f): ∃es c,h[m]? =some (.map es c):=by
 obtain⟨l,⟨es,c,H,_⟩,_⟩:=a;exact⟨es,c,H⟩
theorem qD.push(h:ak):qD (h.push (.map #[] 0)) h.size []:=⟨#[],0,bV,rfl,bQ,bQ,bQ⟩
theorem nm.push(h:ak):nm (h.push (.map #[] 0)) h.size (λ_=>none):=⟨[],qD.push h,λ_=>rfl⟩
theorem qE{k:Int}: ∀(es:List MapEntry)(l:List (Int×Value))(i:Nat)(d:IntKind),es.map (λe=>(e.key,e.val))=l.map (λe=>(Value.I e.1,e.2))->
  (ja l k=none->Instr.findNow (.int d) (.I k) es i=some none)/\
  (∀v,ja l k=some v->∃j,Instr.findNow (.int d) (.I k) es i=some (some (i+j,v))/\∃e,es[j]? =some e/\e.key=.I k/\e.val=v)
 | [],l,i,d,h=>by
  have:l= []:=by cases l<;>simp at h⊢
  subst this;exact⟨λ_=>rfl,λv f=>by simp[ja]at f⟩
 |e::es,l,i,d,h=>by
  cases l with
  |nil=>simp at h
  |cons x l=>
   simp only[cj,List.cons.injEq,gC]at h;obtain⟨⟨hk,f⟩,p⟩:=h;have I:=qE (k:=k) es l (i+1) d p;have c:Instr.sameNow (.int d) (.I k) e.key=some (k==x.1):=by rw[hk];simp[Instr.sameNow]
   by_cases a:x.1=k
   .refine⟨(λb=>by rw[gM,ah a]at b;cases b),λv H=>⟨0,?_,e,rfl,by rw[hk,a],?_⟩⟩
    .rw[gM,ah a]at H;simp only[bA]at H;simp[Instr.findNow,c,a,f,H]
    .rw[gM,ah a]at H;simp only[bA]at H;rw[f,H]
   .have o:(k==x.1)=false:=by simp[fv a]
    rw[o]at c;refine⟨λb=> ?_,λv H=> ?_⟩
    .rw[gM,af a]at b;simp only[Instr.findNow,c];exact I.1 b
    .rw[gM,af a]at H;obtain⟨j,g,E,m,n⟩:=I.2 v H;refine⟨j+1,?_,E,by simpa using m,n⟩;simp only[Instr.findNow,c];rw[g,show i+1+j=i+(j+1) by omega]
section
variable {P : Program}
theorem qF{e:Bool}{n:Nat}{t:TypeId}{d:IntKind}{v:Value}{h:ak}(H:P.underlying t=some (.int d)):rd P (Instr.checkKey e (n+1) t v) h=some ():=by
 unfold Instr.checkKey;rw[bE _ _ _ _ (bJ H)];rfl
theorem lU{t:TypeId}{d:IntKind}{k:Int}{es:List MapEntry}{l:List (Int×Value)}{h:ak}(a:P.underlying t=some (.int d))(H:es.map (λe=>(e.key,e.val))=l.map (λe=>(Value.I e.1,e.2)))(hk:ja l k=none):rd P (Instr.findKey t (.I k) es) h=some none:=by
 unfold Instr.findKey;rw[bE _ _ _ _ (bJ a)];simp only[(qE es l 0 d H).1 hk];rfl
theorem lV{t:TypeId}{d:IntKind}{k:Int}{v:Value}{es:List MapEntry}{l:List (Int×Value)}{h:ak}(c:P.underlying t=some (.int d))(b:es.map (λe=>(e.key,e.val))=l.map (λe=>(Value.I e.1,e.2)))(hk:ja l k=some v): ∃j,rd P (Instr.findKey t (.I k) es) h=some (some (j,v))/\∃e,es[j]? =some e/\e.key=.I k/\e.val=v:=by
 obtain⟨j,H,a⟩:=(qE es l 0 d b).2 v hk;refine⟨j,?_,a⟩;unfold Instr.findKey;rw[bE _ _ _ _ (bJ c)];simp only[H,bH];rfl
theorem jb{t:TypeId}{i:TypeInfo}{z:Value}{h:ak}(H:P.info? t=some i)(a:i.zero=some z):rd P (zeroValue t) h=some z:=by
 unfold zeroValue;rw[bE _ _ _ _ (hT H),a];rfl
theorem jn{r:Nat}{es:Array MapEntry}{c:Nat}{h:ak}(H:h[r]? =some (.map es c)):rd P (getObj r) h=some (.map es c):=by
 unfold getObj;simp only[rd,H]
structure qG (P:Program) (t:TypeId) (z:Value):Prop where
 ty: ∃k e d,P.underlying t=some (.map k e)/\P.underlying k=some (.int d)/\∃i,P.info? e=some i/\i.zero=some z
theorem qG.of{P:Program}{t:TypeId}{z:Value}(k e:TypeId)(d:IntKind)(a:P.underlying t=some (.map k e))(b:P.underlying k=some (.int d))(h:(P.info? e).bind (·.zero)=some z):qG P t z:=by
 cases H:P.info? e with
 |none=>rw[H]at h;cases h
 |some i=>exact⟨k,e,d,a,b,i,H,by rw[H]at h;exact h⟩
theorem EB{t:TypeId}{z:Value}(T:qG P t z){h:ak}{m:Nat}{l:List (Int×Value)}(g:qD h m l)(k:Int):
  rd P (Instr.lookup t (.map (some m)) (.I k) false) h=some ((ja l k).getD z)/\
  rd P (Instr.lookup t (.map (some m)) (.I k) true) h=some (.tuple #[(ja l k).getD z,.bool (ja l k).isSome]):=by
 obtain⟨kt,e,d,n,hk,i,f,o⟩:=T.ty;obtain⟨es,C,c,a,_⟩:=g;have gen: ∀ok:Bool,rd P (Instr.lookup t (.map (some m)) (.I k) ok) h=some (if ok then .tuple #[(ja l k).getD z,.bool (ja l k).isSome]else(ja l k).getD z):=λok=>by
  unfold Instr.lookup;rw[bE _ _ _ _ (bJ n)];simp only;rw[bE _ _ _ _ (jn c)];simp only;rw[bE _ _ _ _ (jw _),bE _ _ _ _ (qF hk)];cases H:ja l k with
  |none=>
   rw[bE _ _ _ _ (lU hk a H)];simp only;rw[bE _ _ _ _ (jb f o)];cases ok<;>rfl
  |some v=>
   obtain⟨j,b,_⟩:=lV (h:=h) hk a H;rw[bE _ _ _ _ b];simp only;cases ok<;>rfl
 exact⟨gen false,gen true⟩
theorem BZ{t:TypeId}{z:Value}(T:qG P t z){h:ak}{m:Nat}{f:Int->Option Value}(b:nm h m f)(k:Int):
  ig P t (.map (some m)) (.I k) false h ((f k).getD z):=λh' c=>by
 obtain⟨l,a,H⟩:=b;rw[<-H k];exact(EB T (a.mI c) k).1
theorem C2{t:TypeId}{z:Value}(T:qG P t z){h:ak}{m:Nat}{f:Int->Option Value}(b:nm h m f)(k:Int):
  ig P t (.map (some m)) (.I k) true h (.tuple #[(f k).getD z,.bool (f k).isSome]):=λh' c=>by
 obtain⟨l,a,H⟩:=b;rw[<-H k];exact(EB T (a.mI c) k).2
theorem bU{α b:Type}{s:Sem α}{g:α->Sem b}{h:ak}{a:α}{K:b->ak->Prop}(H:rd P s h=some a)(hk:aU P (g a) h K):aU P (s>>=g) h K:=
 (dR s g K).2 (Mc s h a H _ hk)
theorem GQ{es:List MapEntry}{l:List (Int×Value)}{k:Int}{v:Value}{j:Nat}(q:es.map (λe=>(e.key,e.val))=l.map (λe=>(Value.I e.1,e.2)))(r:(l.map (·.1)).Nodup){e:MapEntry}(d:es[j]? =some e)(hk:e.key=.I k)(f:MapEntry->MapEntry)(o: ∀e:MapEntry,(f e).key=.I k/\(f e).val=v):
  (es.modify j f).map (λe=>(e.key,e.val))=(l.map (λe=>if e.1==k then(k,v)else e)).map (λe=>(Value.I e.1,e.2)):=by
 apply fK
 intro i;have m: ∀i:Nat,(es[i]?).map (λe:MapEntry=>(e.key,e.val))=(l[i]?).map (λe:Int×Value=>(Value.I e.1,e.2)):=λi=>by
  have:=bP (·[i]?) q;simpa using this
 have H:=m j;rw[d]at H;cases a:l[j]? with
 |none=>rw[a]at H;simp at H
 |some x=>
  rw[a]at H;simp only[dk,bA,gC]at H;have n:x.1=k:=by have:=H.1.symm.trans hk;simpa using this
  simp only[aF,List.getElem?_modify,Option.map_map];by_cases c:j=i
  .subst c;simp[d,a,o,n]
  .have h:=m i;cases g:es[i]? with
   |none=>
    rw[g]at h;cases b:l[i]? with
    |none=>simp
    |some y=>rw[b]at h;simp at h
   |some E=>
    rw[g]at h;cases b:l[i]? with
    |none=>rw[b]at h;simp at h
    |some y=>
     rw[b]at h;simp only[dk,bA,gC]at h;have t:y.1≠k:=by
      intro s;apply c
      have p:j<(l.map (·.1)).length:=by simpa using (aB.1 a).1
      refine(dU p r).1 ?_;simp[a,b,n,s]
     simp[c,t,h.1,h.2]
theorem Bl{t:TypeId}{z:Value}(T:qG P t z){h:ak}{m:Nat}{l:List (Int×Value)}(R:qD h m l){k:Int}{v:Value}{K:Unit->ak->Prop}(hk: ∀h',qD h' m (Ey l k v)->h'.size=h.size->(∀c,c≠m->h'[c]? =h[c]?)->K () h'):aU P (Instr.mapUpdate t (.map (some m)) (.I k) v) h K:=by
 obtain⟨kt,e,d,U,s,_⟩:=T.ty;obtain⟨es,V,r,o,F,x,G⟩:=R;have Q:=aE r;unfold Instr.mapUpdate;refine bU (bJ U) ?_;simp only;refine bU (jn r) ?_;simp only;refine bU (qF s) ?_;have fin: ∀(E:Array MapEntry)(C:Nat),E.toList.map (λe=>(e.key,e.val))=(Ey l k v).map (λe=>(Value.I e.1,e.2))->(∀e∈E.toList,e.born<C)->(E.toList.map (·.born)).Nodup->
   aU P (setObj m (.map E C)) h K:=λE C q I J=>by
  refine⟨⟨_,r,λc e f N=>by cases N⟩,?_⟩;refine hk _ ⟨E,C,by simp[Q],q,Ks l k v F,I,J⟩ bQ (λc M=> ?_);rw[cJ,af (fv M)]
 cases n:ja l k with
 |none=>
  refine bU (lU s o n) ?_;simp only;refine fin _ _ ?_ ?_ ?_
  .unfold Ey;rw[n];simp[o]
  .intro p H;simp only[Array.toList_push,bz,bM]at H;rcases H with H|rfl
   .exact Nat.lt_succ_of_lt (x _ H)
   .exact Nat.lt_succ_self _
  .simp only[Array.toList_push,aV,cj,List.map_nil];rw[eY];refine⟨G,bQ,?_⟩;intro a L b A;simp at A;subst A;obtain⟨p,H,rfl⟩:=bj.1 L;exact Nat.ne_of_lt (x _ H)
 |some u=>
  obtain⟨j,q,p,H,D,_⟩:=lV (h:=h) s o n;refine bU q ?_;simp only;have O:es[j]? =some p:=by simpa using H
  have S:rd P (Instr.keyThatStays (((es[j]?).map (·.key)).getD (.I k)) (.I k)) h=some (.I k):=by
   rw[O];simp only[dk,Option.getD_some,D];unfold Instr.keyThatStays;have:Instr.sameBits 10000 (.I k) (.I k)=true:=by unfold Instr.sameBits;simp
   rw[ah this];rfl
  refine bU S ?_;refine fin _ _ ?_ ?_ ?_
  .unfold Ey;rw[n];simp only[Option.isSome_some,bg];rw[Array.toList_modify];exact GQ o F H D _ (λe=>⟨rfl,rfl⟩)
  .intro e2 B;rw[Array.toList_modify]at B;obtain⟨i,g⟩:=bK B;rw[List.getElem?_modify]at g;cases w:es.toList[i]? with
   |none=>rw[w]at g;simp at g
   |some y=>
    rw[w]at g;have:=x y (aJ w);simp only[Option.map_eq_map,dk,bA]at g;subst g;split<;>exact this
  .rw[Array.toList_modify];have:(es.toList.modify j λe=> { e with key:=Value.I k,val:=v }).map (·.born)=es.toList.map (·.born):=by
    apply fK
    intro i;simp only[aF,List.getElem?_modify];cases es.toList[i]? with
    |none=>rfl
    |some y=>simp only[Option.map_eq_map,dk];split<;>rfl
   rw[this];exact G
theorem mJ{t:TypeId}{z:Value}(T:qG P t z){h:ak}{m:Nat}{f:Int->Option Value}(g:nm h m f){k:Int}{v:Value}{K:Unit->ak->Prop}(hk: ∀h',nm h' m (λx=>if x=k then some v else f x)->h'.size=h.size->(∀c,c≠m->h'[c]? =h[c]?)->K () h'):aU P (Instr.mapUpdate t (.map (some m)) (.I k) v) h K:=by
 obtain⟨l,e,d⟩:=g;refine Bl T e λh' H a b=>hk h' ⟨_,H,λx=> ?_⟩ a b
 rw[Kq,d]
theorem erase_filter{es:List MapEntry}{l:List (Int×Value)}{k:Int}(f:es.map (λe=>(e.key,e.val))=l.map (λe=>(Value.I e.1,e.2)))(c:(l.map (·.1)).Nodup):
  ∀{j:Nat}{e:MapEntry},es[j]? =some e->e.key=.I k->(es.eraseIdx j).map (λe=>(e.key,e.val))=(wa l k).map (λe=>(Value.I e.1,e.2)):=by
 induction es generalizing l with
 |nil=>intro j e b;simp at b
 |cons x es I=>
  intro j e b hk;cases l with
  |nil=>simp at f
  |cons y l=>
   simp only[cj,List.cons.injEq,gC]at f;obtain⟨⟨i,o⟩,d⟩:=f;simp only[cj,fb]at c;obtain⟨n,c⟩:=c;cases j with
   |zero=>
    simp only[dO,bA]at b;subst b;have H:y.1=k:=by have:=i.symm.trans hk;simpa using this
    have:wa (y::l) k=l:=by
     unfold wa;rw[cz,af (by simp[H])];rw[cB];intro a p;have:a.1≠k:=λe=>n (by rw[H,<-e];exact bu p)
     simp[this]
    rw[this];simpa using d
   |succ j=>
    have m:es[j]? =some e:=by simpa using b
    have H:y.1≠k:=by
     intro H;apply n
     have h:=bP (·[j]?) d;simp only[aF,m,dk]at h;cases g:l[j]? with
     |none=>rw[g]at h;simp at h
     |some z=>
      rw[g]at h;simp only[dk,bA,gC]at h;have q:z.1=k:=by have:=h.1.symm.trans hk;simpa using this
      rw[H,<-q];exact bu (aJ g)
    have:wa (y::l) k=y::wa l k:=by
     unfold wa;rw[cz,ah (by simp[H])]
    rw[this];simp only[List.eraseIdx_cons_succ,cj,i,o];rw[I d c m hk]
theorem GR{t L ty:TypeId}{z:Value}(T:qG P t z){h:ak}{m:Nat}{l:List (Int×Value)}(b:qD h m l){k:Int}{K:fG}(hk: ∀h',qD h' m (wa l k)->h'.size=h.size->(∀c,c≠m->h'[c]? =h[c]?)->K (.tuple #[]) h'):aU P (Builtin.delete_ #[t,L] ty #[.map (some m),.I k]) h K:=by
 obtain⟨kt,e,d,J,p,_⟩:=T.ty;obtain⟨es,C,n,H,q,s,r⟩:=b;have I:=aE n;unfold Builtin.delete_;refine bU (bJ J) ?_;show aU P (do
   let __x<-getObj m
   match __x with
    |Obj.map es C=>do
     Instr.checkKey es.isEmpty 10000 kt (Value.int IntKind.i64 k)
     let __do_lift<-Instr.findKey kt (Value.int IntKind.i64 k) es.toList
     match __do_lift with
      |some (i,_)=>do
       setObj m (Obj.map (es.eraseIdxIfInBounds i) C)
       pure (Value.tuple #[])
      |none=>do
       setObj m (Obj.map es C)
       pure (Value.tuple #[])
    |_=>do
     stuck "delete: map expected"
     pure (Value.tuple #[])) h K
 refine bU (jn n) ?_;simp only;refine bU (qF p) ?_;have fin: ∀(E:Array MapEntry),E.toList.map (λe=>(e.key,e.val))=(wa l k).map (λe=>(Value.I e.1,e.2))->(∀e∈E.toList,e.born<C)->(E.toList.map (·.born)).Nodup->
   aU P (do setObj m (.map E C);pure (Value.tuple #[])) h K:=λE g w x=>by
  rw[dR];refine⟨⟨_,n,λc e f B=>by cases B⟩,?_⟩;refine hk _ ⟨E,C,by simp[I],g,Kt l k q,w,x⟩ bQ (λc A=> ?_);rw[cJ,af (fv A)]
 cases o:ja l k with
 |none=>
  refine bU (lU p H o) ?_;refine fin es ?_ s r;have:wa l k=l:=by
   unfold wa;rw[cB];intro a y;have:a.1≠k:=λe=>by
    have b:k∈l.map (·.1):=e▸bu y;rw[<-Ez,o]at b;cases b
   simp[this]
  rw[this];exact H
 |some u=>
  obtain⟨j,g,M,D,G,_⟩:=lV (h:=h) p H o;refine bU g ?_;have v:List.Sublist (es.eraseIdxIfInBounds j).toList es.toList:=by
   rw[Array.toList_eraseIdxIfInBounds];exact List.eraseIdx_sublist _ _
  refine fin _ ?_ ?_ ?_
  .rw[Array.toList_eraseIdxIfInBounds];exact erase_filter H q D G
  .intro e2 F;exact s e2 (v.subset F)
  .exact(v.map _).nodup r
theorem xA{t i ty:TypeId}{z:Value}(T:qG P t z){h:ak}{m:Nat}{f:Int->Option Value}(g:nm h m f){k:Int}{K:fG}(hk: ∀h',nm h' m (λx=>if x=k then none else f x)->h'.size=h.size->(∀c,c≠m->h'[c]? =h[c]?)->K (.tuple #[]) h'):aU P (Builtin.delete_ #[t,i] ty #[.map (some m),.I k]) h K:=by
 obtain⟨l,e,d⟩:=g;refine GR T e λh' H a b=>hk h' ⟨_,H,λx=> ?_⟩ a b
 rw[Kr,d]
end
end Go.Den
namespace Go.Den
theorem cK{h:ak}{b i:Nat}{c:Array Value}{t:TypeId}{f:Nat×Nat}{v:Value}(H:h[b]? =some (.cells c t f))(a:c[i]? =some v):aX h (AA b i)=some v:=by
 rw[kf H,a]
theorem bL{h:ak}{b i:Nat}{c:Array Value}{t:TypeId}{v:Value}{K:ak->Prop}(H:h[b]? =some (.cells c t (0,0)))(a:i<c.size)(hk: ∀h',h'[b]? =some (.cells (c.setIfInBounds i v) t (0,0))->h'.size=h.size->(∀x,x≠b->h'[x]? =h[x]?)->K h'):aQ h (AA b i) v K:=by
 refine⟨?_,lF H,?_⟩
 .rw[kf H];simp[a]
 .rintro _ rfl;exact hk _ (vZ H) BY (λx d=>tL d)
theorem Fr.of_eq{S:Nat->Prop}{h h':ak}(b:h'.size=h.size)(a: ∀c,¬S c->h'[c]? =h[c]?):Fr S h h':=⟨ae,λc _ H=>a c H⟩
theorem bB{n:Int}(h: -9223372036854775808<=n)(H:n<=9223372036854775807):IntKind.wrap .i64 n=n:=IntWalk.i64_in n ⟨h,H⟩
theorem wrap_u64{n:Int}(h:0<=n)(H:n<=18446744073709551615):IntKind.wrap .u64 n=n:=IntWalk.u64_in n ⟨h,H⟩
theorem wrap_u8{n:Int}(h:0<=n)(H:n<=255):IntKind.wrap .u8 n=n:=IntWalk.u8_in n ⟨h,H⟩
theorem Fr.kp{h h':ak}{l:List (bZ)}(f:Fr (λ_=>False) h h'):Kp h h' l:=λ_ _ x _ H=>f.2 x.block H id
theorem Fr.Vv{S:Nat->Prop}{h h':ak}{l:List (bZ)}(f:Fr S h h')(H: ∀p∈l,∀x,p=some x->¬S x.block):Kp h h' l:=λp a x e b=>f.2 x.block b (H p a x e)
theorem Fr.no{h H a:ak}{S:Nat->Prop}(b:Fr (λ_=>False) h H)(c:Fr S H a):Fr S h a:=b.trans c (λ_ _=>False.elim) cb
theorem Fr.on{h H a:ak}{S:Nat->Prop}(b:Fr S h H)(c:Fr (λ_=>False) H a):Fr S h a:=b.trans c cb (λ_ _=>False.elim)
theorem Fr.tt{h H a:ak}{S:Nat->Prop}(b:Fr S h H)(c:Fr S H a):Fr S h a:=b.trans c cb cb
theorem Fr.step{S:Nat->Prop}{h a b:ak}(e:Fr (λ_=>False) h a)(g:Fr S a b)(f: ∀c,c<h.size->¬S c):Fr (λ_=>False) h b:=
 e.trans g (λ_ _ H=>H) (λc d H=>f c d H)
end Go.Den
namespace Go.Den
section
variable {h:ak}
abbrev ia(h:ak)(a:Addr)(K:Int→Prop):Prop:= ∃t,aX h a=some (.int .u64 t)∧K t
abbrev lR(h:ak)(a:Addr)(K:Int→Prop):Prop:= ∃t,aX h a=some (.int .i64 t)∧K t
abbrev I6(h:ak)(a:Addr)(K:Int→Prop):Prop:= ∃t,aX h a=some (.int .u8 t)∧K t
abbrev x4(h:ak)(a:Addr)(K:Bool→Prop):Prop:= ∃t,aX h a=some (.bool t)∧K t
abbrev Bm(h:ak)(a:Addr)(K:Option Addr→Prop):Prop:= ∃t,aX h a=some (.pointer t)∧K t
abbrev rQ(h:ak)(a:Addr)(K:ByteArray→Prop):Prop:= ∃t,aX h a=some (.string t)∧K t
abbrev oY(h:ak)(a:Addr)(K:Option Addr→Nat→Nat→Prop):Prop:= ∃p l c,aX h a=some (.slice p l c)∧K p l c
abbrev Hu(h:ak)(b i:Nat)(K:Int→Prop):Prop:= ∃t,aX h ⟨b,i,none⟩=some (.int .u64 t)∧K t
abbrev Hi(h:ak)(b i:Nat)(K:Int→Prop):Prop:= ∃t,aX h ⟨b,i,none⟩=some (.int .i64 t)∧K t
abbrev Hy(h:ak)(b i:Nat)(K:Int→Prop):Prop:= ∃t,aX h ⟨b,i,none⟩=some (.int .u8 t)∧K t
abbrev Hb(h:ak)(b i:Nat)(K:Bool→Prop):Prop:= ∃t,aX h ⟨b,i,none⟩=some (.bool t)∧K t
abbrev Hp(h:ak)(b i:Nat)(K:Option Addr→Prop):Prop:= ∃t,aX h ⟨b,i,none⟩=some (.pointer t)∧K t
abbrev Hs(h:ak)(b i:Nat)(K:ByteArray→Prop):Prop:= ∃t,aX h ⟨b,i,none⟩=some (.string t)∧K t
abbrev Hl(h:ak)(b i:Nat)(K:Option Addr→Nat→Nat→Prop):Prop:= ∃p l c,aX h ⟨b,i,none⟩=some (.slice p l c)∧K p l c
abbrev Vb(v:Value)(K:Bool→Prop):Prop:= ∃t,v=.bool t∧K t
abbrev Vi(v:Value)(K:Int→Prop):Prop:= ∃t,v=.int .i64 t∧K t
abbrev Vu(v:Value)(K:Int→Prop):Prop:= ∃t,v=.int .u64 t∧K t
abbrev Vp(v:Value)(K:Option Addr→Prop):Prop:= ∃t,v=.pointer t∧K t
abbrev Vl(v:Value)(K:Option Addr→Nat→Nat→Prop):Prop:= ∃p l c,v=.slice p l c∧K p l c
abbrev Bd(i:Int)(n:Nat):Prop:=(0:Int)≤i∧i<((n:Nat):Int)
abbrev Cc(h:ak)(b i:Nat)(v:Value):Prop:=aX h ⟨b,i,none⟩=some v
abbrev No:Nat→Prop:=λ_=>False
abbrev lf:uD:=.leaf
abbrev ll:uD:=.seq .leaf .leaf
abbrev lq(a:uD):uD:=.seq .leaf a
abbrev sq(a b:uD):uD:=.seq a b
abbrev cq(a b:uD):uD:=.cond a b
abbrev bq(a:uD):uD:=.block a
abbrev pK(n:Nat):uD:=.kC (ga n 0 .done)
abbrev pN(n:Nat):uD:=.gT (ga n 0 .done)
theorem aR{P:Program}{f:FuncId}{F:Func}{args:List Value}{R:Value→ak→Prop}{A:Prop}(a:uD)(b:P.funcs[f]? =some F)(d:A)(H:F.body.isSome=true:=by rfl)(c:Nat.ble args.length F.ntmps=true:=by rfl)(e:A=den P F.ntmps a none (tF F) (RY P F.results R) (mH args) h:=by kernel_rfl):mE P f args.toArray h R:=yZ a b H c (Eq.mp e d)
theorem aq{b i:Nat}{c:Array Value}{t:TypeId}{f:Nat×Nat}(H:h[b]? =some (.cells c t f)):aX h ⟨b,i,none⟩=c[i]? :=kf H
abbrev iq(h:ak)(R:Value→ak→Prop)(v:Value):Prop:= ∀h',Fr (λ_=>False) h h'→R v h'
abbrev nE(x:Int):BitVec (IntKind.bits .u64):=BitVec.ofInt (IntKind.bits .u64) x
abbrev qi(x:Int):BitVec (IntKind.bits .u8):=BitVec.ofInt (IntKind.bits .u8) x

end
def Row(h:ak)(p:bZ)(cs:List Value):Prop:=cs= []\/∃a,p=some a/\dM a cs 0 h
theorem Row.nil{h:ak}{p:bZ}:Row h p []:=.inl rfl
theorem kH{h:ak}{a:Addr}: ∀{cs:List Value}{i:Nat},dM a cs i h↔ ∀j v,cs[j]? =some v->aX h (a.add (i+j))=some v
 | [],i=>by simp[dM]
 |c::cs,i=>by
  simp only[dM];rw[kH (cs:=cs)];constructor
  .rintro⟨d,e⟩ j v H;cases j with
   |zero=>simp only[dO,bA]at H;subst H;exact d
   |succ j=>have:=e j v (cH H);rwa[show i+1+j=i+(j+1) by omega]at this
  .intro b;refine⟨b 0 c rfl,λj v H=> ?_⟩;have:=b (j+1) v (cH H);rwa[show i+(j+1)=i+1+j by omega]at this
theorem gO{h:ak}{b off:Nat}{c:Array Value}{t:TypeId}{f:Nat×Nat}{cs:List Value}(H:h[b]? =some (.cells c t f))(a: ∀j v,cs[j]? =some v->c[off+j]? =some v):dM (AA b off) cs 0 h:=by
 rw[kH];intro j v d;rw[bH,gU,kf H];exact a j v d
theorem lG{S:Nat->Prop}{h h':ak}(H:Fr S h h'){a:Addr}(c: ¬S a.block): ∀{cs:List Value}{i:Nat},dM a cs i h->dM a cs i h'
 | [],_,_=>trivial
 |_::_,i,b=>⟨H.cell b.1 (by unfold Addr.add;split<;>exact c),lG H c b.2⟩
theorem Row.frame{S:Nat->Prop}{h h':ak}(H:Fr S h h'){p:bZ}{cs:List Value}(d:Row h p cs)(c: ∀a,p=some a->¬S a.block):Row h' p cs:=by
 rcases d with rfl|⟨a,rfl,b⟩
 .exact .inl rfl
 .exact .inr ⟨a,rfl,lG H (c a rfl) b⟩
theorem Row.cell{h:ak}{a:Addr}{cs:List Value}(c:Row h (some a) cs){j:Nat}{v:Value}(H:cs[j]? =some v):aX h (a.add j)=some v:=by
 rcases c with rfl|⟨A,e,b⟩
 .simp at H
 .cases e;have:=kH.1 b j v H;rwa[bH]at this
theorem Row.some{h:ak}{p:bZ}{cs:List Value}(b:Row h p cs)(H:cs≠ []): ∃a,p=some a:=by
 rcases b with rfl|⟨a,e,_⟩
 .exact absurd rfl H
 .exact⟨a,e⟩
section
variable {P : Program}
theorem lA{h:ak}{q:bZ}{n cq sz:Nat}{ds:List Value}(b:Row h q ds)(c:ds.length=n*sz):rd P (Builtin.firstCells sz n (.slice q n cq)) h=some ds.toArray:=by
 cases q with
 |none=>
  have:ds= []:=by
   rcases b with rfl|⟨a,e,_⟩
   .rfl
   .cases e
  subst this;rfl
 |some a=>
  show rd P (loadCells a (n*sz)) h=_;have H:dM a ds 0 h:=by
   rcases b with rfl|⟨A,e,H⟩
   .trivial
   .cases e;exact H
  unfold loadCells;rw[<-c,iT ds 0 #[] h H];simp
theorem B0{need:Nat}: ∀(r c:Nat),c<2*need->256<=c->Builtin.growBy need r c<=2*need
 |0,c,h,_=>by unfold Builtin.growBy;omega
 |r+1,c,h,a=>by
  unfold Builtin.growBy;split
  .omega
  .rename_i b;by_cases H:c+(c+768)/4<2*need
   .exact B0 r _ H ae
   .have:c+(c+768)/4<=2*need:=ae
    cases r with
    |zero=>unfold Builtin.growBy;exact this
    |succ r=>unfold Builtin.growBy;rw[gh];exact this
theorem nextslicecap_le{need cap:Nat}(h:cap<need):Builtin.nextslicecap need cap<=2*need:=by
 unfold Builtin.nextslicecap;split
 .omega
 .split
  .omega
  .exact B0 4 cap ae ae
inductive fi (h:ak) (p:bZ) (len cap sz:Nat) (cs:List Value):Prop
 |nil (hp:p=none) (hl:len=0) (hc:cap=0) (X0:cs= [])
 |row (b off:Nat) (c:Array Value) (t:TypeId) (hp:p=some ⟨b,off,none⟩) (hb:h[b]? =some (.cells c t (0,0))) (hl:len<=cap) (hc:off+cap*sz<=c.size) (hn:cs.length=len*sz) (X0: ∀j v,cs[j]? =some v->c[off+j]? =some v)
def aL(p:bZ)(c:Nat):Prop:= ∃a,p=some a/\a.block=c
theorem fi.length{h:ak}{p:bZ}{len cap sz:Nat}{cs:List Value}(o:fi h p len cap sz cs):cs.length=len*sz:=by
 cases o with
 |nil _ a _ H=>subst a H;simp
 |row b off c t _ _ _ _ d _=>exact d
theorem fi.iJ{h:ak}{p:bZ}{len cap sz:Nat}{cs:List Value}(o:fi h p len cap sz cs):Row h p cs:=by
 cases o with
 |nil _ _ _ H=>exact .inl H
 |row b off c t d a _ _ _ H=>exact .inr ⟨_,d,gO a H⟩
theorem fi.frame{S:Nat->Prop}{h h':ak}{p:bZ}{len cap sz:Nat}{cs:List Value}(o:fi h p len cap sz cs)(g:Fr S h h')(j: ∀c,aL p c->¬S c):fi h' p len cap sz cs:=by
 cases o with
 |nil H e a d=>exact .nil H e a d
 |row b off c t H f e a i d=>exact .row b off c t H (g.get f (j b ⟨_,H,rfl⟩)) e a i d
theorem fi.dw{h:ak}{p:bZ}{len cap sz:Nat}{cs:List Value}(o:fi h p len cap sz cs){c:Nat}(f:aL p c):c<h.size:=by
 obtain⟨a,e,rfl⟩:=f;cases o with
 |nil H _ _ _=>rw[H]at e;cases e
 |row b off c t H d _ _ _ _=>rw[H]at e;cases e;exact aE d
theorem fi.cells{h:ak}{p:bZ}{len cap sz:Nat}{cs:List Value}(o:fi h p len cap sz cs){b:Nat}(H:aL p b): ∃c t,h[b]? =some (.cells c t (0,0)):=by
 obtain⟨a,e,rfl⟩:=H;cases o with
 |nil d _ _ _=>rw[d]at e;cases e
 |row b off c t d H _ _ _ _=>rw[d]at e;cases e;exact⟨c,t,H⟩
theorem fi.le{h:ak}{p:bZ}{len cap sz:Nat}{cs:List Value}(o:fi h p len cap sz cs):len<=cap:=by
 cases o with
 |nil _ H a _=>omega
 |row b off c t _ _ H _ _ _=>exact H
theorem fi.some{h:ak}{p:bZ}{len cap sz:Nat}{cs:List Value}(o:fi h p len cap sz cs)(a:0<cs.length): ∃b off,p=some (AA b off):=by
 cases o with
 |nil _ _ _ H=>subst H;simp at a
 |row b off c t d _ _ _ _ _=>exact⟨b,off,d⟩
theorem fi.cell{h:ak}{a:Addr}{len cap sz:Nat}{cs:List Value}(o:fi h (.some a) len cap sz cs){j:Nat}{v:Value}(H:cs[j]? =.some v):aX h (a.add j)=.some v:=o.iJ.cell H
theorem fi.store{h:ak}{a:Addr}{len cap sz:Nat}{cs:List Value}{j:Nat}{v:Value}{K:ak->Prop}(o:fi h (.some a) len cap sz cs)(q:j<cs.length)(hk: ∀h',fi h' (.some a) len cap sz (cs.set j v)->h'.size=h.size->(∀x,¬aL (.some a) x->h'[x]? =h[x]?)->K h'):aQ h (a.add j) v K:=by
 cases o with
 |nil d _ _ _=>cases d
 |row b off c t d m f n r p=>
  cases d;rw[gU];have u:len*sz<=cap*sz:=cQ _ f;refine bL m ae λh' g k l=>hk h' (.row b off _ t rfl g f (cH n) (by simpa using r) ?_) k (λx s=>l x (λe=>s ⟨_,rfl,e.symm⟩))
  intro i w H;rw[di]at H;rw[cJ];by_cases e:j=i
  .subst e;rw[ah rfl,ah q]at H;rw[ah rfl,gh];exact H
  .rw[af e]at H;rw[dz];exact p i w H
theorem fi.sub{h:ak}{p:bZ}{len cap sz:Nat}{cs:List Value}(o:fi h p len cap sz cs){l u:Nat}(m:l<=u)(n:u<=len):fi h (cR p cap l sz) (u - l) (cap - l) sz ((cs.take (u*sz)).drop (l*sz)):=by
 cases o with
 |nil g d k a=>
  subst g d k a;refine .nil ?_ ae ae bQ;unfold cR;split<;>rfl
 |row b off c t g i d k w a=>
  subst g;have M:u*sz<=len*sz:=cQ _ n;have x:l*sz<=u*sz:=cQ _ m;have y:len*sz<=cap*sz:=cQ _ d;have q: ∀j v,((cs.take (u*sz)).drop (l*sz))[j]? =.some v->c[off+l*sz+j]? =.some v:=λj v H=>by
   rw[fD,db]at H;split at H
   .have:=a _ v H;rwa[<-Nat.add_assoc]at this
   .cases H
  have f:((cs.take (u*sz)).drop (l*sz)).length=(u - l)*sz:=by
   rw[bX,bC,Nat.sub_mul];omega
  have s:(cap - l)*sz=cap*sz - l*sz:=Nat.sub_mul _ _ _;unfold cR;split
  .rename_i e;have e1:u - l=0:=ae
   refine .row b off c t rfl i ae ae f (λj v H=> ?_);have r:((cs.take (u*sz)).drop (l*sz)).length=0:=by rw[f,e1];simp
   rw[List.eq_nil_of_length_eq_zero r]at H;cases H
  .show fi h (.some (((AA b off):Addr).add (l*sz))) _ _ _ _;rw[gU];exact .row b (off+l*sz) c t rfl i ae ae f q
theorem mw{p:bZ}{cap l sz c:Nat}(h:aL (cR p cap l sz) c):aL p c:=by
 obtain⟨a,e,rfl⟩:=h;unfold cR at e;split at e
 .exact⟨a,e,rfl⟩
 .cases p with
  |none=>cases e
  |some b=>cases e;exact⟨b,rfl,by unfold Addr.add;split<;>rfl⟩
theorem tM{c:Array Value}{off:Nat}: ∀(ds:List Value)(i:Nat)(h:ak)(b:Nat)(t:TypeId)(K:Unit->ak->Prop),(∀v∈ds,fX v=true)->h[b]? =some (.cells c t (0,0))->off+i+ds.length<=c.size->
  (∀h' C,h'[b]? =some (.cells C t (0,0))->C.size=c.size->(∀j,j<off+i\/off+i+ds.length<=j->C[j]? =c[j]?)->(∀j v,ds[j]? =some v->C[off+i+j]? =some v)->h'.size=h.size->(∀x,x≠b->h'[x]? =h[x]?)->K () h')->
  aU P (storeCells (AA b off) ds i) h K
 | [],i,h,b,t,K,_,a,_,hk=>by
  refine hk h c a rfl (λ_ _=>rfl) (λj v H=>by simp at H) rfl (λ_ _=>rfl)
 |v::ds,i,h,b,t,K,f,a,l,hk=>by
  simp only[storeCells];rw[dR];simp only[aW]at l;have d:off+i<c.size:=ae
  refine⟨f v df,?_,?_,?_⟩
  .rw[gU,kf a];simp[d]
  .rw[gU];exact lF a
  .rw[gU];show aU P (storeCells (AA b off) ds (i+1)) (oy h (AA b (off+i)) v) K;refine tM (c:=c.setIfInBounds (off+i) v) ds (i+1) _ b t K (λu q=>f u (ct _ q)) (vZ a) (by simp;omega) ?_;intro h' C k o e m p n;refine hk h' C k (by rw[o];simp) (λj H=> ?_) (λj u H=> ?_) (by rw[p,BY]) (λx g=>by rw[n x g,tL g])
   .simp only[aW]at H;rw[e j ae,cJ,dz]
   .cases j with
    |zero=>
     simp only[dO,bA]at H;subst H;rw[e (off+i+0) ae];simp[d]
    |succ j=>
     have:=m j u (cH H);rwa[show off+(i+1)+j=off+i+(j+1) by omega]at this
theorem C4{D X ty elem eT:TypeId}{i:TypeInfo}{z:Value}{h:ak}{p q:bZ}{len cap n cq:Nat}{cs ds:List Value}{K:fG}(hs:P.underlying D=some (.slice elem))(A:P.underlying X=some (.slice eT))(f:P.info? elem=some i)(hz:i.zero=some z)(y:z.cells.size=i.size)(own:fi h p len cap i.size cs)(J:Row h q ds)(hd:ds.length=n*i.size)(Y: ∀v∈ds,fX v=true)(hb:(len+n)*i.bytes<=70368744177664)(c':len+n<=9223372036854775807)(hk: ∀B C h',fi h' B (len+n) C i.size (cs++ds)->fi h' p len cap i.size cs->Fr (aL p) h h'->(∀c,aL B c->aL p c\/h.size<=c)->K (.slice B (len+n) C) h'):
  aU P (Builtin.append_ #[D,X] ty #[.slice p len cap,.slice q n cq]) h K:=by
 unfold Builtin.append_;refine bU (s:=underlying D) (bJ hs) ?_;refine bU (s:=sizeOf elem) (hY f) ?_;refine bU (s:=underlying X) (bJ A) ?_;refine bU (s:=(pure false:Sem Bool)) (a:=false) rfl ?_;refine bU (s:=Builtin.lenOf (.slice q n cq)) (a:=n) rfl ?_;show aU P (if len+n<=cap then _ else _) h K;by_cases g:len+n<=cap
 .rw[ah g];refine bU (s:=Builtin.firstCells i.size n (.slice q n cq)) (a:=ds.toArray) (lA J hd) ?_;cases own with
  |nil w r d k=>
   subst w r d k;have V:n=0:=ae
   subst V;have N:ds= []:=by simpa using hd
   subst N;exact hk none 0 h (.nil rfl rfl rfl rfl) (.nil rfl rfl rfl rfl) (Fr.refl _ _) (λc ⟨a,e,_⟩=>by cases e)
  |row b off c t w M r d u k=>
   subst w;show aU P (storeCells (((AA b off):Addr).add (len*i.size)) ds>>=λ_=>pure (.slice (Sa b off) (len+n) cap)) h K;rw[gU];have T:(len+n)*i.size<=cap*i.size:=cQ _ g;rw[dW]at T;rw[dR];refine tM (c:=c) (off:=off+len*i.size) ds 0 h b t _ Y M ae ?_;intro h' E F e' I U y Z;show K (.slice (Sa b off) (len+n) cap) h';refine hk _ cap h' (.row b off E t rfl F g ae (by rw[ar,u,hd,dW]) ?_) (.row b off E t rfl F r ae u ?_) (Fr.of_eq y λx A=>Z x (λe=>A ⟨_,rfl,e.symm⟩)) (λc d=> .inl d)
   .intro j v H;by_cases l:j<cs.length
    .rw[dc l]at H;rw[I _ ae];exact k j v H
    .rw[cY ae]at H;have:=U _ v H;rw[u]at this;rwa[show off+len*i.size+0+(j - len*i.size)=off+j by omega]at this
   .intro j v H;have l:j<cs.length:=(aB.1 H).1;rw[I _ ae];exact k j v H
 .rw[af g];have Q:=nextslicecap_le (need:=len+n) (cap:=cap) ae;refine bU (s:=typeInfo elem) (hT f) ?_;have R: ¬(((len+n:Nat):Int)>IntKind.max .i64/\(False\/i.bytes=0)):=λd=>by
   have:IntKind.max .i64=9223372036854775807:=rfl;rw[this]at d;omega
  show aU P (if(((len+n:Nat):Int)>IntKind.max .i64/\(false=true\/i.bytes=0))then _ else _) h K;rw[af (cH R)];refine bU (s:=typeInfo elem) (hT f) ?_;have W: ¬(Builtin.nextslicecap (len+n) cap*i.bytes>2 ^ 48):=by
   have o:Builtin.nextslicecap (len+n) cap*i.bytes<=2*(len+n)*i.bytes:=cQ _ Q;rw[Nat.mul_assoc]at o;omega
  show aU P (if Builtin.nextslicecap (len+n) cap*i.bytes>2 ^ 48 then _ else _) h K;rw[af W];show aU P (choose (.appendCap (len+n) cap elem)>>=_) h K;rw[dR];unfold choose;simp only[aU,Question.forced,au,aM,Question.cut];intro tq;refine bU (s:=typeInfo elem) (hT f) ?_;rw[dR];have a': ∀(m:Nat)(K':Unit->ak->Prop),K' () h->aU P (askRoom m) h K':=λm K' G=>by
   unfold askRoom;split
   .exact G
   .exact G
  refine a' _ _ ?_;refine bU (s:=Builtin.firstCells i.size len (.slice p len cap)) (a:=cs.toArray) (lA own.iJ own.length) ?_;refine bU (s:=Builtin.firstCells i.size n (.slice q n cq)) (a:=ds.toArray) (lA J hd) ?_;refine bU (s:=zeroValue elem) (jb f hz) ?_;generalize d':len+n+tq%(2 ^ 63 - (len+n))=C;have O:len+n<=C:=ae
  show K (.slice (Sa h.size 0) (len+n) C) (h.push (.cells (cs.toArray++ds.toArray++Builtin.zeroCells z.cells (C - (len+n))) elem));have b':(cs.toArray++ds.toArray++Builtin.zeroCells z.cells (C - (len+n))).size=C*i.size:=by
   have o:(Builtin.zeroCells z.cells (C - (len+n))).size=(C - (len+n))*i.size:=by simp[Builtin.zeroCells,y]
   have L:=own.length;rw[Array.size_append,Array.size_append,o];simp only[List.size_toArray];rw[L,hd,<-dW,<-dW];congr 1;omega
  refine hk _ C _ (.row h.size 0 _ elem rfl bV O (by rw[b'];omega) (by rw[ar,own.length,hd,dW]) ?_) (own.frame (Fr.push (S:=λ_=>False) _ _) cb) (Fr.push _ _) ?_
  .intro j v H;rw[bH];have l:j<(cs++ds).length:=(aB.1 H).1;rw[dP (cH l)];simpa using H
  .rintro c ⟨a,e,rfl⟩;cases e;exact .inr (bn _)
structure nW (P:Program) (sT elem:TypeId) (sz bytes:Nat) (z:Value):Prop where
 u:P.underlying sT=some (.slice elem)
 info:(P.info? elem).map (λi=>(i.size,i.bytes,i.zero))=some (sz,bytes,some z)
 zs:z.cells.size=sz
theorem nW.i{s elem:TypeId}{sz bytes:Nat}{z:Value}(T:nW P s elem sz bytes z): ∃i,P.info? elem=some i/\i.size=sz/\i.bytes=bytes/\i.zero=some z:=by
 have:=T.info;cases h:P.info? elem with
 |none=>rw[h]at this;cases this
 |some i=>
  rw[h]at this;simp only[dk,bA,gC]at this;exact⟨i,rfl,this⟩
theorem dD{s x ty elem eT:TypeId}{sz bytes:Nat}{z:Value}{h:ak}{p q:bZ}{len cap n cq:Nat}{cs ds:List Value}{K:fG}(T:nW P s elem sz bytes z)(g:P.underlying x=some (.slice eT))(own:fi h p len cap sz cs)(f:Row h q ds)(hd:ds.length=n*sz)(e: ∀v∈ds,fX v=true)(H:(len+n)*bytes<=70368744177664)(b:len+n<=9223372036854775807)(hk: ∀a C h',fi h' a (len+n) C sz (cs++ds)->fi h' p len cap sz cs->Fr (aL p) h h'->(∀c,aL a c->aL p c\/h.size<=c)->K (.slice a (len+n) C) h'):
  aU P (Builtin.append_ #[s,x] ty #[.slice p len cap,.slice q n cq]) h K:=by
 obtain⟨i,d,rfl,rfl,j⟩:=T.i;exact C4 T.u g d j T.zs own f hd e H b hk
end
section
open Go.RowKit
def rR(P:Program)(h:ak):Nat->TypeId->List Value->Prop
 |0,_,_=>False
 |n+1,t,cs=>
  match P.underlying t with
  |some .bool=> ∃b,cs= [.bool b]
  |some (.int k)=> ∃a,cs= [.int k a]/\(Lit.int k a).wf=true
  |some .string=> ∃s,cs= [.string s]/\s.size<=maxLen
  |some (.pointer e)=>cs= [.pointer none]\/∃a c,cs= [.pointer (some a)]/\c.length=P.cellsOf e/\dM a c 0 h/\rR P h n e c
  |some (.slice e)=>cs= [.slice none 0 0]\/∃a len cap,cs= [.slice (some a) len cap]/\len<=cap/\cap<=maxLen/\∀i,i<len->∃c,c.length=P.cellsOf e/\dM (a.add (i*P.cellsOf e)) c 0 h/\rR P h n e c
  |some (.struct fs)=>cs.length=P.cellsOf t/\∀f∈fs.toList,rR P h n f.type ((cs.drop f.offset).take (P.cellsOf f.type))
  |some (.array m e)=>cs.length=P.cellsOf t/\∀i,i<m->rR P h n e ((cs.drop (i*P.cellsOf e)).take (P.cellsOf e))
  |_=>True
theorem zj{w:World}{b:Nat}{a:Addr}{n:Nat}{cs:List Value}(h:w.cells? b a n=some cs):cs.length=n/\dM a cs 0 w.heap:=by
 obtain⟨_,d,c⟩:=World.cells?_some h;refine⟨d,kH.2 λj v H=> ?_⟩;have e:j<cs.length:=(aB.1 H).1;have:=c j ae;rw[ky,H]at this;rw[bH];exact this
theorem lH{H:Type}{enc:TypeId×Value->H}{P:Program}{w:World}{B:Nat}{S:Nat->Bool}{held:Bool}:
  ∀(fuel:Nat)(t:TypeId)(cs:List Value)(x:DataW H×List MemPlace),DataW.trod enc P w B S held fuel t cs=some x->rR P w.heap fuel t cs
 |0,_,_,_,h=>by simp[DataW.trod]at h
 |fuel+1,t,cs,x,h=>by
  unfold rR;cases hd:P.underlying t with
  |none=>trivial
  |some d=>
   cases d<;>simp only<;>first|trivial|skip
   case bool=>obtain⟨b,c,_⟩:=DataW.trod_bool hd h;exact⟨b,c⟩
   case int k=>obtain⟨n,c,_,u⟩:=DataW.trod_int hd h;exact⟨n,c,u⟩
   case string=>obtain⟨s,c,_,u⟩:=DataW.trod_string hd h;exact⟨s,c,u⟩
   case pointer e=>
    rcases DataW.trod_pointer hd h with⟨c,_⟩|⟨a,C,y,n,r,c,_,aX,G⟩
    .exact .inl c
    .obtain⟨j,p⟩:=zj aX;obtain rfl:n=fuel:=ae
     exact .inr ⟨a,C,c,j,p,lH n e C y G⟩
   case slice e=>
    rcases DataW.trod_slice hd h with⟨c,_⟩|⟨a,len,cap,I,rest,n,r,c,_,_,j,q,J,D,_⟩
    .exact .inl c
    .obtain rfl:n=fuel:=ae
     refine .inr ⟨a,len,cap,c,j,q,λi l=> ?_⟩;have g:=D i l;rw[aj ae]at g;cases aX:w.cells? B (a.add (i*P.cellsOf e)) (P.cellsOf e)with
     |none=>rw[aX]at g;cases g
     |some C=>
      rw[aX]at g;obtain⟨E,p⟩:=zj aX;exact⟨C,E,p,lH n e C _ g⟩
   case struct fs=>
    obtain⟨xs,n,r,_,j,A,o⟩:=DataW.trod_struct hd h;obtain rfl:n=fuel:=ae
    refine⟨j,λf q=> ?_⟩;obtain⟨i,l⟩:=bK q;have z:fs[i]? =some f:=by simpa using l
    have g:=o i f z;have F:i<xs.length:=by rw[A];exact(Array.getElem?_eq_some_iff.1 z).1
    rw[aj F]at g;exact lH n _ _ _ g
   case array m e=>
    obtain⟨xs,n,r,_,j,A,o⟩:=DataW.trod_array hd h;obtain rfl:n=fuel:=ae
    refine⟨j,λi l=> ?_⟩;have g:=o i l;rw[aj ae]at g;exact lH n _ _ _ g
def qH(P:Program)(h:ak)(t:TypeId)(v:Value):Prop:= ∃n,rR P h n t v.cells.toList
theorem qH.of{H:Type}{enc:TypeId×Value->H}{P:Program}{w:World}{b:Nat}{s:Nat->Bool}{held:Bool}{t:TypeId}{v:Value}{d:DataW H}{p:List MemPlace}(h:DataW.Trod enc P w b s held t v d p):qH P w.heap t v:=by
 obtain⟨n,a⟩:=h;exact⟨n,lH n _ _ _ a⟩
theorem Mv{w w':World}(a:Fr (λ_=>False) w.heap w'.heap)(H:fM w w'):Below w.heap.size w w':=
 ⟨H.1,H.2.2,H.2.1,a.1,λk hk=>a.2 k hk id⟩
def Mw(P:Program)(f:FuncId)(args:Array Value)(h:ak):Prop:=mE P f args h (λv h'=>v=.bool true/\Fr (λ_=>False) h h')
theorem Mw.calls{P:Program}{f:FuncId}{args:Array Value}{w:World}(b:Mw P f args w.heap):Calls P f args w λe w'=>e=.returned (.bool true)/\Below w.heap.size w w':=
 (b w rfl).mono λ_ _ ⟨_,H,⟨d,a⟩,c⟩=>⟨by rw[H,d],Mv a c⟩
theorem wf_u64 {a : Int} (h : (Lit.int .u64 a).wf = true) : 0 ≤ a ∧ a ≤ 18446744073709551615 := by
  simpa [Lit.wf, IntKind.min, IntKind.max, IntKind.bits, IntKind.signed] using h
theorem wf_u8{a:Int}(h:(Lit.int .u8 a).wf=true):0<=a/\a<=255:=by
 simpa[Lit.wf,IntKind.min,IntKind.max,IntKind.bits,IntKind.signed]using h
section
variable {P : Program} {h : ak} {t : TypeId} {v : Value}
theorem qH.int{k:IntKind}(d:P.underlying t=some (.int k))(e:qH P h t v)(c: ∀a,v.cells.toList= [.int k a]->v=.int k a): ∃a,v=.int k a/\(Lit.int k a).wf=true:=by
 obtain⟨n,H⟩:=e;cases n with
 |zero=>exact H.elim
 |succ n=>
  unfold rR at H;rw[d]at H;obtain⟨a,b,f⟩:=H;exact⟨a,c a b,f⟩
theorem C6{h:ak}{a:Addr}{cs ds:List Value}:dM a (cs++ds) 0 h↔dM a cs 0 h/\dM (a.add cs.length) ds 0 h:=by
 simp only[kH,bH];constructor
 .intro b;refine⟨λj v H=>b j v ?_,λj v H=> ?_⟩
  .rw[dc (aB.1 H).1];exact H
  .rw[add_add];refine b _ v ?_;rw[cY ae];simpa using H
 .rintro⟨c,d⟩ j v H;by_cases e:j<cs.length
  .rw[dc e]at H;exact c j v H
  .rw[cY ae]at H;have:=d _ v H;rw[add_add]at this;rwa[show cs.length+(j - cs.length)=j by omega]at this
theorem eO{α:Type}(enc:α->List Value)(sz:Nat)(H: ∀x,(enc x).length=sz): ∀xs:List α,(xs.flatMap enc).length=xs.length*sz
 | []=>bQ
 |x::xs=>by
  rw[fp,ar,H,eO enc sz H xs,aW,dW];omega
theorem rT{α:Type}(enc:α->List Value)(sz:Nat)(a: ∀x,(enc x).length=sz): ∀(xs:List α)(i:Nat)(x:α),xs[i]? =some x->∀j v,(enc x)[j]? =some v->(xs.flatMap enc)[i*sz+j]? =some v
 | [],i,x,h,_,_,_=>by simp at h
 |y::xs,0,x,h,j,v,H=>by
  simp at h;subst h;have b:=(aB.1 H).1;rw[fp,Nat.zero_mul,bH,dc b];exact H
 |y::xs,i+1,x,h,j,v,H=>by
  have:=rT enc sz a xs i x (cH h) j v H;rw[fp,cY (by rw[a,dW];omega),a];rwa[show(i+1)*sz+j - sz=i*sz+j by rw[dW];omega]
theorem qH.slice{α:Type}{e:TypeId}{p:bZ}{len cap:Nat}(enc:α->List Value)(sz:Nat)(Q:α->Prop)(j:P.cellsOf e=sz)(s: ∀x,(enc x).length=sz)(q: ∀n c,c.length=sz->rR P h n e c->∃x,c=enc x/\Q x)(A:P.underlying t=some (.slice e))(B:qH P h t (.slice p len cap)):
  ∃xs:List α,xs.length=len/\len<=cap/\cap<=maxLen/\Row h p (xs.flatMap enc)/\∀x∈xs,Q x:=by
 obtain⟨n,b⟩:=B;cases n with
 |zero=>exact b.elim
 |succ n=>
  unfold rR at b;rw[A]at b;rcases b with H|⟨a,L,C,H,u,w,r⟩
  .simp[Value.cells]at H;obtain⟨rfl,rfl,rfl⟩:=H;exact⟨[],rfl,bn _,br _,.inl rfl,λ_ f=>by cases f⟩
  .simp[Value.cells]at H;obtain⟨rfl,rfl,rfl⟩:=H;have key: ∀k,k<=len->∃xs:List α,xs.length=k/\dM a (xs.flatMap enc) 0 h/\∀x∈xs,Q x:=by
    intro k;induction k with
    |zero=>intro _;exact⟨[],rfl,trivial,λ_ f=>by cases f⟩
    |succ k I=>
     intro hk;obtain⟨xs,d,g,i⟩:=I ae;obtain⟨c,l,m,o⟩:=r k ae;obtain⟨x,rfl,z⟩:=q n c (by rw[l,j]) o;refine⟨xs++ [x],by simp[d],?_,?_⟩
     .rw[bY,C6];refine⟨g,?_⟩;rw[eO enc sz s,d,<-j];simpa using m
     .intro y hy;rcases bz.1 hy with hy|hy
      .exact i y hy
      .simp at hy;subst hy;exact z
   obtain⟨xs,d,g,i⟩:=key len (bn _);exact⟨xs,d,u,w,.inr ⟨a,rfl,g⟩,i⟩
theorem rR.int{k:IntKind}{n:Nat}{cs:List Value}(b:P.underlying t=some (.int k))(H:rR P h n t cs): ∃a,cs= [.int k a]/\(Lit.int k a).wf=true:=by
 cases n with
 |zero=>exact H.elim
 |succ n=>unfold rR at H;rw[b]at H;exact H
theorem rR.bool{n:Nat}{cs:List Value}(a:P.underlying t=some .bool)(H:rR P h n t cs): ∃b,cs= [.bool b]:=by
 cases n with
 |zero=>exact H.elim
 |succ n=>unfold rR at H;rw[a]at H;exact H
end
def qI(P:Program)(r:TypeId->Option (List TypeId)):List Field->Nat->Option (List TypeId)
 | [],_=>some []
 |f::fs,off=>(match Nat.beq f.offset off,r f.type with
  |true,some ts=>(match Nat.beq ts.length (P.cellsOf f.type),qI P r fs (off+ts.length)with
   |true,some u=>some (ts++u)
   |_,_=>none)
  |_,_=>none)
def uR(P:Program):Nat->TypeId->Option (List TypeId)
 |0,_=>none
 |n+1,t=>(match P.underlying t with
  |some (.struct fs)=>qI P (uR P n) fs.toList 0
  |some (.array _ _)=>none
  |_=>some [t])
def Leaves(P:Program)(h:ak)(ts:List TypeId)(cs:List Value):Prop:= ∀(i:Nat)(T:TypeId),ts[i]? =some T->∃v m,cs[i]? =some v/\rR P h m T [v]
theorem Leaves.append{P:Program}{h:ak}{ts u:List TypeId}{cs:List Value}(d:Leaves P h ts (cs.take ts.length))(e:Leaves P h u (cs.drop ts.length)):Leaves P h (ts++u) cs:=by
 intro i T a;by_cases c:i<ts.length
 .rw[dc c]at a;obtain⟨v,m,H,b⟩:=d i T a;rw[db,ah c]at H;exact⟨v,m,H,b⟩
 .rw[cY ae]at a;obtain⟨v,m,H,b⟩:=e _ T a;rw[fD]at H;exact⟨v,m,by rwa[show ts.length+(i - ts.length)=i by omega]at H,b⟩
theorem xB{P:Program}{h:ak}{r:TypeId->Option (List TypeId)}{n:Nat}(e: ∀t ts cs,r t=some ts->cs.length=ts.length->rR P h n t cs->Leaves P h ts cs):
  ∀(fs:List Field)(off:Nat)(u:List TypeId)(cs:List Value),qI P r fs off=some u->off+u.length<=cs.length->(∀f∈fs,rR P h n f.type ((cs.drop f.offset).take (P.cellsOf f.type)))->
   Leaves P h u (cs.drop off)
 | [],off,u,cs,H,_,_=>by simp only[qI,bA]at H;subst H;intro i T g;simp at g
 |f::fs,off,u,cs,H,j,d=>by
  simp only[qI]at H;split at H
  .rename_i ts b l;split at H
   .rename_i U a m;simp only[bA]at H;subst H;have b:=bT b;have a:=bT a;rw[ar]at j;have c:=d f df;rw[b,<-a]at c;refine Leaves.append (e _ _ _ l (by simp;omega) c) ?_;rw[List.drop_drop];exact xB e fs _ U cs m ae (λF k=>d F (ct _ k))
   .cases H
  .cases H
theorem zp{P:Program}{h:ak}: ∀(d n:Nat)(t:TypeId)(ts:List TypeId)(cs:List Value),uR P d t=some ts->cs.length=ts.length->rR P h n t cs->Leaves P h ts cs
 |0,_,_,_,_,H,_,_=>by simp[uR]at H
 |d+1,n,t,ts,cs,H,j,a=>by
  simp only[uR]at H;cases n with
  |zero=>exact a.elim
  |succ n=>
   split at H
   .rename_i fs g;unfold rR at a;rw[g]at a;have:=xB (λt ts cs c e f=>zp d n t ts cs c e f) fs.toList 0 ts cs H ae a.2;simpa using this
   .cases H
   .simp only[bA]at H;subst H;intro i T b
    match cs,j with
    | [v],_=>
     cases i with
     |zero=>simp at b;subst b;exact⟨v,n+1,rfl,a⟩
     |succ i=>simp at b
theorem Leaves.get{P:Program}{h:ak}{ts:List TypeId}{cs:List Value}(b:Leaves P h ts cs)(i:Nat){T:TypeId}{v:Value}(a:ts[i]? =some T)(H:cs[i]? =some v): ∃m,rR P h m T [v]:=by
 obtain⟨u,m,d,c⟩:=b i T a;rw[d]at H;cases H;exact⟨m,c⟩
theorem Leaves.int{P:Program}{h:ak}{ts:List TypeId}{cs:List Value}(c:Leaves P h ts cs)(i:Nat){T:TypeId}{v:Value}{k:IntKind}(b:ts[i]? =some T)(f:cs[i]? =some v)(e:P.underlying T=some (.int k)): ∃a,v=.int k a/\(Lit.int k a).wf=true:=by
 obtain⟨m,d⟩:=c.get i b f;obtain⟨a,H,g⟩:=rR.int e d;exact⟨a,cH H,g⟩
theorem Leaves.bool{P:Program}{h:ak}{ts:List TypeId}{cs:List Value}(d:Leaves P h ts cs)(i:Nat){T:TypeId}{v:Value}(c:ts[i]? =some T)(g:cs[i]? =some v)(f:P.underlying T=some .bool): ∃b,v=.bool b:=by
 obtain⟨m,e⟩:=d.get i c g;obtain⟨a,H⟩:=rR.bool f e;exact⟨a,cH H⟩
theorem aI.of{α:Type}{F:α}{B:α->Prop}(h: ∀J,J=F->B J):aI F B:=h F rfl
theorem qH.ints{P:Program}{h:ak}{t e:TypeId}{k:IntKind}{p:bZ}{len cap:Nat}(c:P.cellsOf e=1)(hk:P.underlying e=some (.int k))(f:P.underlying t=some (.slice e))(g:qH P h t (.slice p len cap)):
  ∃xs:List Int,xs.length=len/\Row h p (xs.map (.int k ·))/\∀x∈xs,(Lit.int k x).wf=true:=by
 obtain⟨xs,H,_,_,a,b⟩:=qH.slice (e:=e) (λx:Int=> [Value.int k x]) 1 (λx=>(Lit.int k x).wf=true) c (λ_=>rfl) (λn C _ d=>rR.int hk d) f g;refine⟨xs,H,?_,b⟩;have:xs.flatMap (λx:Int=> [Value.int k x])=xs.map (.int k ·):=by
  clear H a b;induction xs with
  |nil=>rfl
  |cons x xs i=>rw[fp,i];rfl
 rwa[this]at a
theorem GS{h:ak}{p:bZ}{k:IntKind}{xs:List Int}(b:Row h p (xs.map (.int k ·))){i:Nat}(c:i<xs.length): ∃a,p=some a/\aX h (a.add (i*1))=some (.int k (xs.getD i 0)):=by
 have H:(xs.map (Value.int k ·))[i]? =some (.int k (xs.getD i 0)):=by simp[c]
 obtain⟨a,rfl⟩:=b.some (λe=>by rw[e]at H;simp at H);exact⟨a,rfl,by rw[cp];exact b.cell H⟩
theorem My{xs:List Int}{i:Nat}(H:i<xs.length):xs.getD i 0∈xs:=by
 rw[bh,aj H];exact dQ H
end
end Go.Den
