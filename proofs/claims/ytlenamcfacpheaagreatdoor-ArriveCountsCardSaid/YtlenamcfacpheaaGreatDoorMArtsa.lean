/-
  FD is proved here: parts of x4 proof, one behind x4 other (texts of this work, merged by a program; IX x4 theorem IY not use is left out). No condition.
-/
import Derived.OrdersHeld
import Derived.Scope
import Derived.KernelRfl
import Derived.Recover
import Derived.IntWalk
import Derived.ProofKit
import Derived.ChangeOld
import Derived.Below
import Derived.Carry
import Derived.OpenShut
set_option maxRecDepth 100000
set_option maxHeartbeats 4000000
namespace Go
section
variable {c p q r:Prop}
abbrev cy:=Option Addr
abbrev cD:=List UInt8
abbrev fp:=Value→Array Obj→Prop
abbrev fU:ByteArray:=⟨#[]⟩
abbrev AA(b i:Nat):Addr:=⟨b,i,none⟩
abbrev Sa(b i:Nat):Option Addr:=some ⟨b,i,none⟩
abbrev Value.I(x:Int):Value:=.int .i64 x
abbrev Value.U(x:Int):Value:=.int .u64 x
abbrev Value.P(b i:Nat):Value:=.pointer (some ⟨b,i,none⟩)
abbrev Value.Z:Value:=.slice none 0 0
theorem dc{i:Decidable c}{α:Sort _}{t e:α}(h: ¬c:=by first|decide|omega|(simp only[decide_eq_true_eq];omega)):ite c t e=e:=if_neg h
theorem fK{i:Decidable c}{α:Sort _}{t e:α}(h:c:=by first|decide|omega|exact decide_eq_true (by omega)):ite c t e=t:=if_pos h
theorem cb{α:Sort _}{e:α→Sort _}{d:(a:α)→e a→Prop}: ∀a b,d a b→d a b:=λ_ _=>id
theorem ag(h:p:=by omega):p:=h
theorem di(h:p:=by decide):p:=h
theorem bP(h:p:=by simp):p:=h
theorem dj(h:p:=by kernel_rfl):p:=h
theorem bY(h:q)(g:q→p:=by intro;omega):p:=g h
theorem hY(h:q)(k:r)(g:q→r→p:=by intro _ _;omega):p:=g h k
theorem qW{s:Prop}(h:q)(k:r)(l:s)(g:q→r→s→p:=by intro _ _ _;omega):p:=g h k l
theorem cA(h:q)(g:q→p:=by intro h;simpa using h):p:=g h
theorem eS:type_of% @Array.getD_eq_getD_getElem?:=@Array.getD_eq_getD_getElem?
theorem dz:type_of% @Array.getElem?_append_left:=@Array.getElem?_append_left
theorem dO:type_of% @Array.getElem?_modify:=@Array.getElem?_modify
theorem fu:type_of% @Array.getElem?_push:=@Array.getElem?_push
theorem cB:type_of% @Array.getElem?_setIfInBounds:=@Array.getElem?_setIfInBounds
theorem dq:type_of% @Array.getElem?_toList:=@Array.getElem?_toList
theorem ee:type_of% @Array.length_toList:=@Array.length_toList
theorem dJ:type_of% @Array.size_push:=@Array.size_push
theorem aT:type_of% @Bool.and_eq_true:=@Bool.and_eq_true
theorem eY:type_of% @Bool.false_and:=@Bool.false_and
theorem au:type_of% @Bool.false_eq_true:=@Bool.false_eq_true
theorem dK:type_of% @Bool.not_false:=@Bool.not_false
theorem cN:type_of% @Bool.not_true:=@Bool.not_true
theorem dL:type_of% @Bool.true_and:=@Bool.true_and
theorem eE:type_of% @Iff.rfl:=@Iff.rfl
theorem dP:type_of% @Int.eq_ofNat_of_zero_le:=@Int.eq_ofNat_of_zero_le
theorem eJ:type_of% @Int.le_refl:=@Int.le_refl
theorem aI:type_of% @Int.toNat_natCast:=@Int.toNat_natCast
theorem fE:type_of% @List.Pairwise.filter:=@List.Pairwise.filter
theorem eZ:type_of% @List.Pairwise.sublist:=@List.Pairwise.sublist
theorem fx:type_of% @List.Sublist.map:=@List.Sublist.map
theorem dQ:type_of% @List.append_assoc:=@List.append_assoc
theorem eR:type_of% @List.cons_append:=@List.cons_append
theorem cI:type_of% @List.drop_eq_getElem_cons:=@List.drop_eq_getElem_cons
theorem dC:type_of% @List.drop_of_length_le:=@List.drop_of_length_le
theorem gv:type_of% @List.drop_zero:=@List.drop_zero
theorem eV:type_of% @List.ext_getElem?:=@List.ext_getElem?
theorem fy:type_of% @List.filter_append:=@List.filter_append
theorem dR:type_of% @List.filter_congr:=@List.filter_congr
theorem ch:type_of% @List.filter_cons:=@List.filter_cons
theorem cj:type_of% @List.filter_eq_self:=@List.filter_eq_self
theorem du:type_of% @List.filter_map:=@List.filter_map
theorem cJ:type_of% @List.filter_sublist:=@List.filter_sublist
theorem fa:type_of% @List.find?_eq_some_iff_getElem:=@List.find?_eq_some_iff_getElem
theorem cY:type_of% @List.findIdx?_eq_none_iff:=@List.findIdx?_eq_none_iff
theorem cp:type_of% @List.findIdx?_eq_some_iff_getElem:=@List.findIdx?_eq_some_iff_getElem
theorem da:type_of% @List.flatMap_append:=@List.flatMap_append
theorem fL:type_of% @List.flatMap_cons:=@List.flatMap_cons
theorem aY:type_of% @List.getD_eq_getElem?_getD:=@List.getD_eq_getElem?_getD
theorem cS:type_of% @List.getElem?_append_left:=@List.getElem?_append_left
theorem cG:type_of% @List.getElem?_append_right:=@List.getElem?_append_right
theorem dv:type_of% @List.getElem?_cons_succ:=@List.getElem?_cons_succ
theorem dw:type_of% @List.getElem?_cons_zero:=@List.getElem?_cons_zero
theorem eO:type_of% @List.getElem?_drop:=@List.getElem?_drop
theorem aj:type_of% @List.getElem?_eq_getElem:=@List.getElem?_eq_getElem
theorem cK:type_of% @List.getElem?_eq_none:=@List.getElem?_eq_none
theorem aB:type_of% @List.getElem?_eq_some_iff:=@List.getElem?_eq_some_iff
theorem eg:type_of% @List.getElem?_inj:=@List.getElem?_inj
theorem aK:type_of% @List.getElem?_map:=@List.getElem?_map
theorem bE:type_of% @List.getElem?_of_mem:=@List.getElem?_of_mem
theorem dt:type_of% @List.getElem?_set:=@List.getElem?_set
theorem cP:type_of% @List.getElem?_take:=@List.getElem?_take
theorem dA:type_of% @List.getElem_mem:=@List.getElem_mem
theorem aA:type_of% @List.length_append:=@List.length_append
theorem bf:type_of% @List.length_cons:=@List.length_cons
theorem bF:type_of% @List.length_drop:=@List.length_drop
theorem cr:type_of% @List.length_filter_le:=@List.length_filter_le
theorem aF:type_of% @List.length_map:=@List.length_map
theorem bz:type_of% @List.length_nil:=@List.length_nil
theorem dy:type_of% @List.length_set:=@List.length_set
theorem dp:type_of% @List.length_singleton:=@List.length_singleton
theorem bB:type_of% @List.length_take:=@List.length_take
theorem aZ:type_of% @List.map_append:=@List.map_append
theorem eh:type_of% @List.map_congr_left:=@List.map_congr_left
theorem bX:type_of% @List.map_cons:=@List.map_cons
theorem dE:type_of% @List.map_map:=@List.map_map
theorem bM:type_of% @List.mem_append:=@List.mem_append
theorem dS:type_of% @List.mem_append_left:=@List.mem_append_left
theorem eH:type_of% @List.mem_append_right:=@List.mem_append_right
theorem bH:type_of% @List.mem_cons:=@List.mem_cons
theorem bZ:type_of% @List.mem_cons_of_mem:=@List.mem_cons_of_mem
theorem dh:type_of% @List.mem_cons_self:=@List.mem_cons_self
theorem ba:type_of% @List.mem_filter:=@List.mem_filter
theorem bh:type_of% @List.mem_map:=@List.mem_map
theorem bx:type_of% @List.mem_map_of_mem:=@List.mem_map_of_mem
theorem bn:type_of% @List.mem_of_getElem?:=@List.mem_of_getElem?
theorem fF:type_of% @List.mem_of_mem_drop:=@List.mem_of_mem_drop
theorem bN:type_of% @List.mem_singleton:=@List.mem_singleton
theorem dW:type_of% @List.nil_append:=@List.nil_append
theorem eK:type_of% @List.nodup_append:=@List.nodup_append
theorem eP:type_of% @List.nodup_cons:=@List.nodup_cons
theorem dF:type_of% @List.pairwise_cons:=@List.pairwise_cons
theorem eL:type_of% @List.pairwise_map:=@List.pairwise_map
theorem dM:type_of% @List.perm_append_singleton:=@List.perm_append_singleton
theorem fG:type_of% @List.range_eq_range':=@List.range_eq_range'
theorem bQ:type_of% @List.take_add_one:=@List.take_add_one
theorem fb:type_of% @List.take_length:=@List.take_length
theorem bJ:type_of% @List.take_of_length_le:=@List.take_of_length_le
theorem fN:type_of% @List.take_succ_cons:=@List.take_succ_cons
theorem dV:type_of% @List.take_zero:=@List.take_zero
theorem eM:type_of% @Nat.add_mul:=@Nat.add_mul
theorem bO:type_of% @Nat.eq_of_beq_eq_true:=@Nat.eq_of_beq_eq_true
theorem bk:type_of% @Nat.le_refl:=@Nat.le_refl
theorem cW:type_of% @Nat.le_trans:=@Nat.le_trans
theorem cC:type_of% @Nat.lt_of_lt_of_le:=@Nat.lt_of_lt_of_le
theorem cQ:type_of% @Nat.mul_le_mul_right:=@Nat.mul_le_mul_right
theorem ct:type_of% @Nat.mul_one:=@Nat.mul_one
theorem fH:type_of% @Nat.pow_le_pow_right:=@Nat.pow_le_pow_right
theorem bL:type_of% @Nat.zero_add:=@Nat.zero_add
theorem bG:type_of% @Nat.zero_le:=@Nat.zero_le
theorem fo:type_of% @Ne.symm:=@Ne.symm
theorem gA:type_of% @Option.isNone_some:=@Option.isNone_some
theorem dG:type_of% @Option.isSome_iff_exists:=@Option.isSome_iff_exists
theorem cZ:type_of% @Option.map_some:=@Option.map_some
theorem aX:type_of% @Option.some.inj:=@Option.some.inj
theorem br:type_of% @Option.some.injEq:=@Option.some.injEq
theorem gh:type_of% @Prod.mk.injEq:=@Prod.mk.injEq
theorem fV:type_of% @UInt8.toNat_ofNat':=@UInt8.toNat_ofNat'
theorem db:type_of% @beq_eq_false_iff_ne:=@beq_eq_false_iff_ne
theorem cR:type_of% @beq_iff_eq:=@beq_iff_eq
theorem fc:type_of% @beq_self_eq_true:=@beq_self_eq_true
theorem fO:type_of% @bne_eq_false_iff_eq:=@bne_eq_false_iff_eq
theorem cU:type_of% @bne_iff_ne:=@bne_iff_ne
theorem bU:type_of% @congrArg:=@congrArg
theorem az:type_of% @decide_eq_false:=@decide_eq_false
theorem eN:type_of% @decide_eq_false_iff_not:=@decide_eq_false_iff_not
theorem av:type_of% @decide_eq_true:=@decide_eq_true
theorem aV:type_of% @decide_eq_true_eq:=@decide_eq_true_eq
theorem bp:type_of% @decide_false:=@decide_false
theorem bC:type_of% @decide_true:=@decide_true
theorem aM:type_of% @if_false:=@if_false
theorem ae:type_of% @if_neg:=@if_neg
theorem af:type_of% @if_pos:=@if_pos
theorem bj:type_of% @if_true:=@if_true
theorem en:type_of% @ne_eq:=@ne_eq
theorem fz:type_of% @of_decide_eq_false:=@of_decide_eq_false
theorem aU:type_of% @of_decide_eq_true:=@of_decide_eq_true

end
end Go
namespace Go.Den
section
variable {P:Program} {F:Value->Prop} {t:TypeId}
abbrev ai:=Array Obj
abbrev Env:=Nat->Option Value
def bg(h:ai)(a:Addr):Option Value:=
 match h[a.block]? with
 |some (.cells c _ _)=>if a.spot.isSome then none else c[a.off]?
 |_=>none
def nZ(h:ai)(r:Nat):Option (TypeId×Nat):=
 match h[r]? with
 |some (.cells c elem _)=>some (elem,c.size)
 |_=>none
def oa(h:ai)(a:Addr):Bool:=
 match h[a.block]? with
 |some (.cells _ _ (l,H))=>l<=a.off && a.off<H
 |_=>false
def ob(h:ai)(a:Addr)(n:Nat):ai:=
 if n=0 then h else
 h.modify a.block fun
   | .cells c elem (l,H)=> .cells c elem (if l==H then(a.off,a.off+n)else(min l a.off,max H (a.off+n)))
   |o=>o
def mX(h:ai)(a:Addr)(v:Value):ai:=
 h.modify a.block fun
   | .cells c elem frozen=> .cells (if a.spot.isSome then c else c.setIfInBounds a.off v) elem frozen
   |o=>o
theorem ks(w:World)(a:Addr):w.cell? a=bg w.heap a:=rfl
theorem K1(w:World)(r:Nat):w.shape? r=nZ w.heap r:=rfl
theorem uX(w:World)(a:Addr):w.frozen? a=oa w.heap a:=rfl
theorem rW(w:World)(a:Addr)(v:Value):(w.setCell a v).heap=mX w.heap a v:=rfl
theorem IZ(w:World)(a:Addr)(n:Nat):(w.freeze a n).heap=ob w.heap a n:=by
 unfold World.freeze ob;split<;>rfl
def fw(w w':World):Prop:=w'.os=w.os/\w'.output=w.output/\w'.tape=w.tape
theorem fw.refl(w:World):fw w w:=⟨rfl,rfl,rfl⟩
theorem fw.trans{a b c:World}(h:fw a b)(h':fw b c):fw a c:=⟨h'.1.trans h.1,h'.2.1.trans h.2.1,h'.2.2.trans h.2.2⟩
def fR:Value->Bool
 | .agg _| .tuple _=>false
 |_=>true
def aW(P:Program){α:Type}:Sem α->ai->(α->ai->Prop)->Prop
 | .pure a,h,K=>K a h
 | .load _ a k,h,K=> ∃v,bg h a=some v/\aW P (k v) h K
 | .store _ a v k,h,K=>fR v=true/\(bg h a).isSome=true/\oa h a=false/\aW P k (mX h a v) K
 | .new o k,h,K=>aW P (k h.size) (h.push o) K
 | .shape r k,h,K=>aW P (k (nZ h r)) h K
 | .freeze a n k,h,K=>aW P k (ob h a n) K
 | .frozen a k,h,K=>aW P (k (oa h a)) h K
 | .getObj r k,h,K=> ∃o,h[r]? =some o/\(∀c e f,o≠ .cells c e f)/\aW P (k o) h K
 | .setObj r o k,h,K=>(∃o',h[r]? =some o'/\(∀c e f,o'≠ .cells c e f))/\aW P k (h.setIfInBounds r o) K
 | .choose q k,h,K=>if q.forced=true then aW P (k 0) h K else∀t,aW P (k (q.cut t)) h K
 | .sys _ _,_,_=>False
 | .program k,h,K=>aW P (k P) h K
 | .mark _ k,h,K=>aW P k h K
 | .halt _,_,_=>False
theorem jL{α:Type}(s:Sem α): ∀(h:ai){K K':α->ai->Prop},(∀a h,K a h->K' a h)->aW P s h K->aW P s h K':=by
 induction s with
 |pure a=>intro h K K' hk H;exact hk _ _ H
 |load m a k i=>intro h K K' hk H;obtain⟨v,b,d⟩:=H;exact⟨v,b,i v h hk d⟩
 |store m a v k i=>intro h K K' hk H;obtain⟨b,d,e,g⟩:=H;exact⟨b,d,e,i _ hk g⟩
 |new o k i=>intro h K K' hk H;exact i _ _ hk H
 |shape r k i=>intro h K K' hk H;exact i _ _ hk H
 |freeze a n k i=>intro h K K' hk H;exact i _ hk H
 |frozen a k i=>intro h K K' hk H;exact i _ _ hk H
 |getObj r k i=>intro h K K' hk H;obtain⟨o,b,d,e⟩:=H;exact⟨o,b,d,i _ _ hk e⟩
 |setObj r o k i=>intro h K K' hk H;exact⟨H.1,i _ hk H.2⟩
 |choose q k i=>
  intro h K K' hk H;unfold aW at H⊢;split
  .rename_i f;rw[af f]at H;exact i _ _ hk H
  .rename_i f;rw[ae f]at H;exact λt=>i _ _ hk (H t)
 |sys c k i=>intro h K K' hk H;exact H
 |program k i=>intro h K K' hk H;exact i _ _ hk H
 |mark m k i=>intro h K K' hk H;exact i _ hk H
 |halt x=>intro h K K' hk H;exact H
theorem DA{α b:Type}(s:Sem α)(f:α->Sem b): ∀(h:ai)(K:b->ai->Prop),aW P (s.bind f) h K↔aW P s h (λa h'=>aW P (f a) h' K):=by
 induction s with
 |pure a=>intro h K;exact eE
 |load m a k i=>intro h K;simp only[Sem.bind,aW,i]
 |store m a v k i=>intro h K;simp only[Sem.bind,aW,i]
 |new o k i=>intro h K;simp only[Sem.bind,aW,i]
 |shape r k i=>intro h K;simp only[Sem.bind,aW,i]
 |freeze a n k i=>intro h K;simp only[Sem.bind,aW,i]
 |frozen a k i=>intro h K;simp only[Sem.bind,aW,i]
 |getObj r k i=>intro h K;simp only[Sem.bind,aW,i]
 |setObj r o k i=>intro h K;simp only[Sem.bind,aW,i]
 |choose q k i=>intro h K;simp only[Sem.bind,aW,i]
 |sys c k i=>intro h K;simp only[Sem.bind,aW]
 |program k i=>intro h K;simp only[Sem.bind,aW,i]
 |mark m k i=>intro h K;simp only[Sem.bind,aW,i]
 |halt x=>intro h K;simp only[Sem.bind,aW]
theorem od{α:Type}(s:Sem α): ∀(h:ai)(K:α->ai->Prop),aW P s h K->
  ∀w:World,w.heap=h->∃a w',s.run P w=.ok a w'/\K a w'.heap/\fw w w':=by
 induction s with
 |pure a=>intro h K H w b;subst b;exact⟨a,w,rfl,H,fw.refl w⟩
 |load m a k i=>
  intro h K H w b;subst b;obtain⟨v,d,e⟩:=H;obtain⟨x,w',r1,r2⟩:=i v _ _ e w rfl;exact⟨x,w',by simp[Sem.run,ks,d,r1],r2⟩
 |store m a v k i=>
  intro h K H w b;subst b;obtain⟨d,e,f,l⟩:=H;obtain⟨u,j⟩:=dG.1 e;obtain⟨x,w',r1,r2,R⟩:=i _ _ l (w.setCell a v) (rW w a v);refine⟨x,w',?_,r2,R⟩;rw[<-ks]at j;rw[<-uX]at f;cases v<;>simp[fR]at d<;>simp[Sem.run,j,f,r1]
 |new o k i=>
  intro h K H w b;subst b;obtain⟨x,w',r1,r2,R⟩:=i _ _ _ H { w with heap:=w.heap.push o } rfl;exact⟨x,w',r1,r2,R⟩
 |shape r k i=>
  intro h K H w b;subst b;obtain⟨x,w',r1,r2⟩:=i _ _ _ H w rfl;exact⟨x,w',by rw[<-K1]at r1;simp[Sem.run,r1],r2⟩
 |freeze a n k i=>
  intro h K H w b;subst b;obtain⟨x,w',r1,r2,R⟩:=i _ _ H (w.freeze a n) (IZ w a n);refine⟨x,w',by simp[Sem.run,r1],r2,?_⟩;refine fw.trans ?_ R;unfold World.freeze;split<;>exact⟨rfl,rfl,rfl⟩
 |frozen a k i=>
  intro h K H w b;subst b;obtain⟨x,w',r1,r2⟩:=i _ _ _ H w rfl;exact⟨x,w',by rw[<-uX]at r1;simp[Sem.run,r1],r2⟩
 |getObj r k i=>
  intro h K H w b;subst b;obtain⟨o,d,e,f⟩:=H;obtain⟨x,w',r1,r2⟩:=i _ _ _ f w rfl;refine⟨x,w',?_,r2⟩;cases o<;>first|exact absurd rfl (e _ _ _)|simp[Sem.run,d,r1]
 |setObj r o k i=>
  intro h K H w b;subst b;obtain⟨⟨o',d,e⟩,f⟩:=H;obtain⟨x,w',r1,r2,R⟩:=i _ _ f { w with heap:=w.heap.setIfInBounds r o } rfl;refine⟨x,w',?_,r2,R⟩;cases o'<;>first|exact absurd rfl (e _ _ _)|simp[Sem.run,d,r1]
 |choose q k i=>
  intro h K H w b;subst b;unfold aW at H;split at H
  .rename_i g;obtain⟨x,w',r1,r2⟩:=i _ _ _ H w rfl;exact⟨x,w',by simp[Sem.run,g,r1],r2⟩
  .rename_i g;obtain⟨x,w',r1,r2,R⟩:=i _ _ _ (H (w.tape w.drawn q)) { w with drawn:=w.drawn+1 } rfl;exact⟨x,w',by simp only[Sem.run,ae g];exact r1,r2,R⟩
 |sys c k i=>intro h K H;exact H.elim
 |program k i=>
  intro h K H w b;subst b;obtain⟨x,w',r1,r2⟩:=i _ _ _ H w rfl;exact⟨x,w',by simp[Sem.run,r1],r2⟩
 |mark m k i=>
  intro h K H w b;subst b;obtain⟨x,w',r1,r2⟩:=i _ _ H w rfl;exact⟨x,w',by simp[Sem.run,r1],r2⟩
 |halt x=>intro h K H;exact H.elim
def rd(P:Program){α:Type}:Sem α->ai->Option α
 | .pure a,_=>some a
 | .load _ a k,h=>(match bg h a with|some v=>rd P (k v) h|none=>none)
 | .shape r k,h=>rd P (k (nZ h r)) h
 | .frozen a k,h=>rd P (k (oa h a)) h
 | .getObj r k,h=>(match h[r]? with|some (.cells _ _ _)=>none|some o=>rd P (k o) h|none=>none)
 | .program k,h=>rd P (k P) h
 | .mark _ k,h=>rd P k h
 |_,_=>none
theorem K2{α:Type}(s:Sem α): ∀(h:ai)(a:α),rd P s h=some a->∀K:α->ai->Prop,K a h->aW P s h K:=by
 induction s with
 |pure b=>intro h a e K hk;simp only[rd,br]at e;subst e;exact hk
 |load m b k i=>
  intro h a e K hk;simp only[rd]at e;split at e
  .rename_i v j;exact⟨v,j,i v h a e K hk⟩
  .cases e
 |shape r k i=>intro h a e K hk;exact i _ h a e K hk
 |frozen b k i=>intro h a e K hk;exact i _ h a e K hk
 |getObj r k i=>
  intro h a e K hk;simp only[rd]at e;split at e
  .cases e
  .rename_i o d g;exact⟨o,g,λc e f H=>d c e f (H▸rfl),i _ h a e K hk⟩
  .cases e
 |program k i=>intro h a e K hk;exact i _ h a e K hk
 |mark m k i=>intro h a e K hk;exact i h a e K hk
 |_=>intro h a e;simp[rd]at e
theorem pz{α:Type}(s:Sem α): ∀(w:World)(a:α),rd P s w.heap=some a->s.run P w=.ok a w:=by
 induction s with
 |pure b=>intro w a e;simp only[rd,br]at e;subst e;rfl
 |load m b k i=>
  intro w a e;simp only[rd]at e;split at e
  .rename_i v h;rw[<-ks]at h;simp only[Sem.run,h];exact i v w a e
  .cases e
 |shape r k i=>intro w a e;exact i _ w a e
 |frozen b k i=>intro w a e;exact i _ w a e
 |getObj r k i=>
  intro w a e;simp only[rd]at e;split at e
  .cases e
  .rename_i o H c;cases o<;>first|exact absurd rfl (H _ _ _)|(simp only[Sem.run,c];exact i _ w a e)
  .cases e
 |program k i=>intro w a e;exact i _ w a e
 |mark m k i=>intro w a e;exact i w a e
 |_=>intro w a e;simp[rd]at e
theorem bt{α g:Type}(s:Sem α)(f:α->Sem g): ∀(h:ai)(a:α),rd P s h=some a->rd P (s>>=f) h=rd P (f a) h:=by
 show∀(h:ai)(a:α),rd P s h=some a->rd P (s.bind f) h=rd P (f a) h;induction s with
 |pure b=>intro h a e;simp only[rd,br]at e;subst e;rfl
 |load m b k i=>
  intro h a e;simp only[rd]at e;split at e
  .rename_i v d;simp only[Sem.bind,rd,d];exact i v h a e
  .cases e
 |shape r k i=>intro h a e;exact i _ h a e
 |frozen b k i=>intro h a e;exact i _ h a e
 |getObj r k i=>
  intro h a e;simp only[rd]at e;split at e
  .cases e
  .rename_i o H c;cases o<;>first|exact absurd rfl (H _ _ _)|(simp only[Sem.bind,rd,c];exact i _ h a e)
  .cases e
 |program k i=>intro h a e;exact i _ h a e
 |mark m k i=>intro h a e;exact i h a e
 |_=>intro h a e;simp[rd]at e
def lS(P:Program)(f:FuncId)(args:Array Value)(h:ai)(R:fp):Prop:=
 ∀w:World,w.heap=h->Calls P f args w (λe w'=> ∃v,e=.returned v/\R v w'.heap/\fw w w')
theorem lS.mono{f:FuncId}{args:Array Value}{h:ai}{R r:fp}(b:lS P f args h R)(c: ∀v h',R v h'->r v h'):lS P f args h r:=
 λw e=>(b w e).mono λ_ _ ⟨v,a,H,d⟩=>⟨v,a,c _ _ H,d⟩
def Q7(P:Program)(K:fp):Next->ai->Prop
 | .value v,h=>K v h
 | .skip,h=>K undef h
 | .enter f args,h=>lS P f args h K
 |_,_=>False
def pA(P:Program)(o:Oper)(a:Operand->Value)(h:ai)(K:fp):Prop:=
 aW P (execOp a o) h (Q7 P K)
theorem pA.wp{o:Oper}{a:Act}{w:World}{K:fp}{next:Act->World->Prop}{Q:Exit->Act->World->Prop}(b:pA P o a.eval w.heap K)(h: ∀v w',K v w'.heap->fw w w'->next (a.put o.dst v) w'):o.wp P a w next Q:=by
 obtain⟨x,w',r1,r2,r⟩:=od _ _ _ b w rfl;unfold Oper.wp;rw[r1];cases x with
 |value v=>exact h _ _ r2 r
 |skip=>exact h _ _ r2 r
 |enter f args=>
  refine(r2 w' rfl).mono ?_;rintro e W ⟨v,rfl,H,c⟩;exact h _ _ H (r.trans c)
 |_=>exact r2.elim
inductive gp where
 |int (k:IntKind)
 |bool
 |str
 |ptr
 |slice
 |map
 |raw
inductive Sh where
 |one (l:gp)
 |agg (ls:List gp)
def gp.ex:gp->(Value->Prop)->Prop
 | .int k,F=> ∃n:Int,F (.int k n)
 | .bool,F=> ∃b:Bool,F (.bool b)
 | .str,F=> ∃s:ByteArray,F (.string s)
 | .ptr,F=> ∃p:cy,F (.pointer p)
 | .slice,F=> ∃(p:cy)(l c:Nat),F (.slice p l c)
 | .map,F=> ∃m:Option Nat,F (.map m)
 | .raw,F=> ∃v:Value,F v
def SJ:List gp->(List Value->Prop)->Prop
 | [],F=>F []
 |l::ls,F=>l.ex λv=>SJ ls λvs=>F (v::vs)
def Sh.ex:Sh->(Value->Prop)->Prop
 | .one l,F=>l.ex F
 | .agg ls,F=>SJ ls λvs=>F (.agg vs.toArray)
def K3:List Sh->(List Value->Prop)->Prop
 | [],F=>F []
 |s::S,F=>s.ex λv=>K3 S λvs=>F (v::vs)
theorem gp.lD{l:gp}(h:l.ex F): ∃v,F v:=by
 cases l<;>simp only[gp.ex]at h
 all_goals first
  |(obtain⟨a,b,c,h⟩:=h;exact⟨_,h⟩)
  |(obtain⟨a,h⟩:=h;exact⟨_,h⟩)
theorem DB: ∀{ls:List gp}{F:List Value->Prop},SJ ls F->∃vs,vs.length=ls.length/\F vs
 | [],_,h=>⟨[],rfl,h⟩
 |_::_,_,h=>by
  obtain⟨v,h⟩:=gp.lD h;obtain⟨vs,H,h⟩:=DB h;exact⟨v::vs,by simp[H],h⟩
theorem Sh.lD{s:Sh}(h:s.ex F): ∃v,F v:=by
 cases s with
 |one l=>exact gp.lD h
 |agg ls=>obtain⟨vs,_,h⟩:=DB h;exact⟨_,h⟩
theorem x5: ∀{ls:List Sh}{F:List Value->Prop},K3 ls F->∃vs,F vs
 | [],_,h=>⟨[],h⟩
 |_::_,_,h=>by
  obtain⟨v,h⟩:=Sh.lD h;obtain⟨vs,h⟩:=x5 h;exact⟨v::vs,h⟩
def uY(P:Program)(t:TypeId):Option gp:=
 match P.underlying t with
 |some .bool=>some .bool
 |some (.int k)=>some (.int k)
 |some .string=>some .str
 |some (.pointer _)=>some .ptr
 |some (.slice _)=>some .slice
 |some (.map _ _)=>some .map
 |some (.struct _)=>none
 |some (.array _ _)=>none
 |some (.tuple _)=>none
 |some _=>some .raw
 |none=>none
def sX(P:Program):Nat->TypeId->Option (List gp)
 |0,_=>none
 |n+1,t=>
  match P.underlying t with
  |some (.struct fs)=>fs.toList.foldr (λf A=>match sX P n f.type,A with|some a,some b=>some (a++b)|_,_=>none) (some [])
  |some (.array m e)=>(sX P n e).map λl=>(List.replicate m l).flatten
  |_=>(uY P t).map ([·])
def x6(P:Program)(t:TypeId):Bool:=
 match P.underlying t with
 |some (.struct _)=>true
 |some (.array _ _)=>true
 |_=>false
def Q8(P:Program)(t:TypeId):Option Sh:=
 match x6 P t with
 |true=>(sX P 20 t).map .agg
 |false=>(uY P t).map .one
def PD(P:Program):List TypeId->Option (List Sh)
 | []=>some []
 |t::ts=>match Q8 P t,PD P ts with
  |some s,some S=>some (s::S)
  |_,_=>none
def rQ(P:Program)(t:TypeId)(F:Value->Prop):Prop:=
 match P.underlying t with
 |some (.tuple ts)=>(match PD P ts.toList with|some l=>K3 l λvs=>F (.tuple vs.toArray)|none=>False)
 |_=>(match Q8 P t with|some s=>s.ex F|none=>False)
theorem x7(h:rQ P t F): ∃v,F v:=by
 unfold rQ at h;split at h
 .split at h
  .obtain⟨_,h⟩:=x5 h;exact⟨_,h⟩
  .exact h.elim
 .split at h
  .exact Sh.lD h
  .exact h.elim
theorem x8{v:Value}{K:Value->Prop}(h:rQ P t λV=>v=V/\K V):K v:=by
 obtain⟨V,rfl,h⟩:=x7 h;exact h
def aL{α:Type}(p:Option α)(F:α->Prop):Prop:=
 match p with
 |some a=>F a
 |none=>False
theorem bK{α:Type}{p:Option α}{F:α->Prop}:aL p F↔ ∃a,p=some a/\F a:=by
 cases p<;>simp[aL]
@[simp] theorem aw{α:Type}{a:α}{F:α->Prop}:aL (some a) F↔F a:=eE
def Env.set(σ:Env)(d:Nat)(v:Value):Env:=λt=>bif Nat.beq t d then some v else σ t
def Env.ev(σ:Env):Operand->Option Value
 | .tmp t=>σ t
 | .const v=>some v
 | .global g=>some (.pointer (some ⟨g,0,none⟩))
 | .func f=>some (.func (.func f) #[] #[])
def Env.w6(σ:Env):Operand->Value:=λx=>(σ.ev x).getD undef
def P5(σ:Env)(o:Oper):Bool:=o.op.operands.toList.all λx=>(σ.ev x).isSome
def Fits(σ:Env)(a:Operand->Value):Prop:= ∀x v,σ.ev x=some v->a x=v
def jO(P:Program){α:Type}:Sem α->Option α
 | .pure a=>some a
 | .program k=>jO P (k P)
 | .mark _ k=>jO P k
 |_=>none
theorem DC{α:Type}(s:Sem α): ∀(a:α),jO P s=some a->∀(h:ai)(K:α->ai->Prop),K a h->aW P s h K:=by
 induction s with
 |pure b=>intro a e h K hk;simp only[jO,br]at e;subst e;exact hk
 |program k i=>intro a e h K hk;exact i P a e h K hk
 |mark m k i=>intro a e h K hk;exact i a e h K hk
 |_=>intro a e;simp[jO]at e
theorem rX{α:Type}(s:Sem α): ∀(a:α),jO P s=some a->∀(h:ai),rd P s h=some a:=by
 induction s with
 |pure b=>intro a e h;exact e
 |program k i=>intro a e h;exact i P a e h
 |mark m k i=>intro a e h;exact i a e h
 |_=>intro a e;simp[jO]at e
def uZ(P:Program){α:Type}:Sem α->Option (Obj×(Nat->Sem α))
 | .new o k=>some (o,k)
 | .program k=>uZ P (k P)
 | .mark _ k=>uZ P k
 |_=>none
theorem FE{α:Type}(s:Sem α): ∀(o:Obj)(f:Nat->Sem α),uZ P s=some (o,f)->∀(h:ai)(K:α->ai->Prop),aW P (f h.size) (h.push o) K->aW P s h K:=by
 induction s with
 |new b k i=>intro o f e h K hk;simp only[uZ,br,gh]at e;obtain⟨rfl,rfl⟩:=e;exact hk
 |program k i=>intro o f e h K hk;exact i P o f e h K hk
 |mark m k i=>intro o f e h K hk;exact i o f e h K hk
 |_=>intro o f e;simp[uZ]at e
theorem DD{σ:Env}{a:Operand->Value}(c:Fits σ a)(o:Oper)(hd:P5 σ o=true)(d: ∀cs b,o.op≠ .select cs b):execOp σ.w6 o=execOp a o:=by
 refine execOp_congr o d λx e=> ?_
 have H:=List.all_eq_true.1 hd x (by simpa using e);obtain⟨v,h⟩:=dG.1 H;rw[c x v h];simp[Env.w6,h]
def aQ(h:ai)(o:Obj)(K:Nat->ai->Prop):Prop:= ∀b h',b=h.size->h'=h.push o->K b h'
def aS(h:ai)(a:Addr)(v:Value)(K:ai->Prop):Prop:=
 (bg h a).isSome=true/\oa h a=false/\∀h',h'=mX h a v->K h'
def dD(a:Addr):List Value->Nat->ai->(ai->Prop)->Prop
 | [],_,h,K=>K h
 |v::vs,i,h,K=>(match fR v with|true=>aS h (a.add i) v λh'=>dD a vs (i+1) h' K|false=>False)
def K4(h:ai)(a:Addr):List gp->Nat->(List Value->Prop)->Prop
 | [],_,F=>F []
 |l::ls,i,F=>l.ex λv=>bg h (a.add i)=some v/\K4 h a ls (i+1) λvs=>F (v::vs)
def dI(a:Addr):List Value->Nat->ai->Prop
 | [],_,_=>True
 |v::vs,i,h=>bg h (a.add i)=some v/\dI a vs (i+1) h
def qH(P:Program)(t:TypeId)(h:ai)(a:Addr)(K:Value->Option (ai->Prop)->Prop):Prop:=
 match x6 P t with
 |true=>(match sX P 20 t,P.info? t with
  |some ls,some i=>(match Nat.beq i.size ls.length with
   |true=>K4 h a ls 0 λvs=>K (.agg vs.toArray) (some (dI a vs 0))
   |false=>False)
  |_,_=>False)
 |false=>(match uY P t with
  |some l=>l.ex λv=>bg h a=some v/\K v (some λh'=>bg h' a=some v)
  |none=>False)
def pB(P:Program)(t:TypeId)(u v:Value):Option Bool:=
 match v with
 | .pointer none=>(match u,P.underlying t with| .pointer p,some (.pointer _)=>some p.isNone|_,_=>none)
 | .map none=>(match u,P.underlying t with| .map m,some (.map _ _)=>some m.isNone|_,_=>none)
 | .slice none _ _=>(match u,P.underlying t with| .slice p _ _,some (.slice _)=>some p.isNone|_,_=>none)
 |_=>none
def pC(P:Program)(o:Oper)(σ:Env)(K:Value->Option (ai->Prop)->Prop):Prop:=
 match P5 σ o with
 |true=>(match jO P (execOp σ.w6 o)with|some (.value v)=>K v none|_=>False)
 |false=>False
def Aj(P:Program)(t:TypeId)(u v:Value)(b:Bool):Prop:= ∀h,rd P (Op.equal t u v) h=some b
def FG(o:Oper):Bool:=
 match o.op with
 | .binOp _ _ _ (.const _) _=>true
 |_=>false
def u9(P:Program)(o:Oper)(t:TypeId)(u v:Value):Bool:=
 match v with
 | .nilIface=>FG o
 | .agg _=>(match u with| .agg _=> !P.eqGuardType P.depth t|_=>false)
 | .pointer _=>(match u with| .pointer _=> !FG o|_=>false)
 |_=>false
def FH(P:Program)(o:Oper)(op:BinOp)(t:TypeId)(u v:Value)(σ:Env)(K:Value->Option (ai->Prop)->Prop):Prop:=
 match op with
 | .eql=>(match u9 P o t u v with
  |true=> ∃b:Bool,Aj P t u v b/\K (.bool b) none
  |false=>(match pB P t u v with|some b=>K (.bool b) none|none=>pC P o σ K))
 | .neq=>(match u9 P o t u v with
  |true=> ∃b:Bool,Aj P t u v b/\K (.bool (!b)) none
  |false=>(match pB P t u v with|some b=>K (.bool (!b)) none|none=>pC P o σ K))
 | .quo=>(match u,v with
  | .int k a,.int k' b=>(match decide (k=k')with|true=>if b=0 then False else K (.int k (k.wrap (a.tdiv b))) none|false=>False)
  |_,_=>False)
 | .rem=>(match u,v with
  | .int k a,.int k' b=>(match decide (k=k')with|true=>if b=0 then False else K (.int k (a.tmod b)) none|false=>False)
  |_,_=>False)
 | .shl=>(match u,v with
  | .int k a,.int _ b=>if b<0 then False else K (.int k (k.wrap (a*2 ^ min b.toNat k.bits))) none
  |_,_=>False)
 | .shr=>(match u,v with
  | .int k a,.int _ b=>if b<0 then False else K (.int k (a.fdiv (2 ^ min b.toNat k.bits))) none
  |_,_=>False)
 | .add=>(match u,v with
  | .string a,.string b=>((a.size+b.size:Nat):Int)<=IntKind.i64.max/\K (.string (a++b)) none
  |_,_=>pC P o σ K)
 |_=>pC P o σ K
def DE(P:Program)(s:TypeId)(f:Nat):Option Nat:=
 match P.underlying s with
 |some (.struct fs)=>(match fs[f]? with
  |some fl=>(match P.info? fl.type with|some i=>(match Nat.beq i.size 0 with|true=>none|false=>some fl.offset)|none=>none)
  |none=>none)
 |_=>none
def FI(n:Int):List Value->Nat->(Value->Prop)->Prop
 | [],_,_=>True
 |v::vs,i,F=>(n=(i:Int)->F v)/\FI n vs (i+1) F
def rY(σ:Env):Option Operand->Option (Option Int)
 |none=>some none
 |some x=>match σ.ev x with
  |some (.int _ n)=>some (some n)
  |_=>none
def B5(len cap:Nat):Option Int->Option Int->(Nat->Nat->Prop)->Prop
 |none,none,F=>F 0 len
 |none,some b,F=>(0<=b/\b<=(cap:Int))/\F 0 b.toNat
 |some a,none,F=>(0<=a/\a<=(len:Int))/\F a.toNat len
 |some a,some b,F=>(0<=b/\b<=(cap:Int))/\(0<=a/\a<=b)/\F a.toNat b.toNat
def cO(p:cy)(m l size:Nat):cy:=if m=l then p else p.map (·.add (l*size))
def jP(m:Value)(h h':ai):Prop:=
 match m with
 | .map (some r)=>h'[r]? =h[r]?
 |_=>True
def hI(P:Program)(t:TypeId)(m k:Value)(ok:Bool)(h:ai)(v:Value):Prop:=
 ∀h',jP m h h'->rd P (Instr.lookup t m k ok) h'=some v
def NY(P:Program)(T:Array TypeId)(ty:TypeId)(m:Value)(h:ai)(v:Value):Prop:=
 ∀h',jP m h h'->rd P (Builtin.len_ T ty #[m]) h'=some v
def wu(P:Program)(s d:TypeId)(v:Value)(h:ai)(b:ByteArray):Prop:=rd P (convert s d v) h=some (.string b)
def P6:Value->Bool
 | .map _=>true
 |_=>false
def my(P:Program)(o:Oper)(σ:Env)(h:ai)(K:Value->Option (ai->Prop)->Prop):Prop:=
 match o.op with
 | .pick c a b=>(match σ.ev c,σ.ev a,σ.ev b with
  |some (.bool q),some V,some j=>if q=true then K V none else K j none
  |_,_,_=>False)
 | .load t x=>(match σ.ev x with
  |some (.pointer p)=>aL p λa=>qH P t h a K
  |_=>False)
 | .nilCheck x=>(match σ.ev x with
  |some (.pointer p)=>aL p λa=>K (.pointer (some a)) none
  |_=>pC P o σ K)
 | .binOp op t x y _=>(match σ.ev x,σ.ev y with
  |some u,some v=>FH P o op t u v σ K
  |_,_=>False)
 | .fieldAddr s x f=>(match σ.ev x,DE P s f with
  |some (.pointer p),some off=>aL p λa=>K (.pointer (some (a.add off))) none
  |_,_=>False)
 | .indexAddr t x i=>(match P.underlying t,σ.ev x,σ.ev i with
  |some (.slice e),some (.slice B len _),some (.int _ n)=>(match P.info? e with
   |some i=>(0<=n/\n<(len:Int))/\aL B λa=>K (.pointer (some (a.add (n.toNat*i.size)))) none
   |none=>False)
  |some (.array len e),some (.pointer B),some (.int _ n)=>(match P.info? e with
   |some i=>(0<=n/\n<(len:Int))/\aL B λa=>K (.pointer (some (a.add (n.toNat*i.size)))) none
   |none=>False)
  |_,_,_=>False)
 | .index t x i=>(match P.underlying t,σ.ev x,σ.ev i with
  |some .string,some (.string s),some (.int _ n)=>(0<=n/\n<(s.size:Int))/\K (.int .u8 (s.data.toList.getD n.toNat 0).toNat) none
  |some (.array len e),some (.agg cs),some (.int _ n)=>(match uY P e,P.info? e,Nat.beq len cs.toList.length with
   |some _,some i,true=>(match Nat.beq i.size 1 with
    |true=>(0<=n/\n<(len:Int))/\FI n cs.toList 0 λv=>K v none
    |false=>False)
   |_,_,_=>False)
  |_,_,_=>False)
 | .slice t x L g mx=>(match mx,P.underlying t,σ.ev x,rY σ L,rY σ g with
  |none,some (.slice e),some (.slice p len cap),some l,some H=>(match P.info? e with
   |some i=>B5 len cap l H λa b=>K (.slice (cO p cap a i.size) (b - a) (cap - a)) none
   |none=>False)
  |none,some .string,some (.string s),some l,some H=>B5 s.size s.size l H λa b=>K (.string (s.extract a b)) none
  |none,some (.array n e),some (.pointer p),some l,some H=>(match P.info? e with
   |some i=>aL p λA=>B5 n n l H λa b=>K (.slice (cO (some A) n a i.size) (b - a) (n - a)) none
   |none=>False)
  |some M,some (.slice e),some (.slice p _ cap),some none,some (some b)=>(match σ.ev M,P.info? e with
   |some (.int _ m),some i=>(0<=m/\m<=(cap:Int))/\(0<=b/\b<=m)/\K (.slice (cO p m.toNat 0 i.size) b.toNat m.toNat) none
   |_,_=>False)
  |_,_,_,_,_=>False)
 | .lookup t x i ok=>(match σ.ev x,σ.ev i with
  |some m,some k=>rQ P o.type λv=>hI P t m k ok h v/\K v (some (jP m h))
  |_,_=>False)
 | .call { callee:=.builtin .len,args:=args,argTypes:=T } =>(match args.toList with
  | [x]=>(match σ.ev x with
   |some m=>(match P6 m with
    |true=> ∃n:Int,NY P T o.type m h (.int .i64 n)/\K (.int .i64 n) (some (jP m h))
    |false=>pC P o σ K)
   |none=>False)
  |_=>False)
 | .convert s d x=>(match P.underlying d with
  |some .string=>(match σ.ev x with
   |some v=> ∃b:ByteArray,wu P s d v h b/\K (.string b) (some λh'=>wu P s d v h' b)
   |none=>False)
  |_=>pC P o σ K)
 | .select _ _=>False
 |_=>pC P o σ K
def kQ(P:Program)(o:Oper):Bool:=
 match o.op with
 | .move _| .assign _| .pick .. | .load .. | .nilCheck _| .binOp .. | .unOp .. | .makeInterface .. | .makeFunc .. | .slice .. | .fieldAddr .. | .field .. | .indexAddr .. | .index .. | .lookup .. | .extract .. | .build .. =>true
 | .convert _ d _=>(match P.underlying d with|some (.int _)=>true|some .string=>true|_=>false)
 | .call { callee:=.builtin b,.. } =>(match b with| .len| .cap| .min| .max=>true|_=>false)
 |_=>false
def oe(P:Program)(g:FuncId):Bool:=
 match P.funcs[g]? with
 |some f=>f.body.isSome && !(f.name== "runtime.NumGoroutine")
 |none=>false
def NS(σ:Env):List Operand->Option (List Value)
 | []=>some []
 |x::xs=>match σ.ev x,NS σ xs with
  |some v,some vs=>some (v::vs)
  |_,_=>none
def x9(b:Builtin)(T:Array TypeId)(ty:TypeId)(vs:Array Value):Option (Sem Value):=
 match b with
 | .append=>some (Builtin.append_ T ty vs)
 | .copy=>some (Builtin.copy_ T ty vs)
 | .delete=>some (Builtin.delete_ T ty vs)
 | .clear=>some (Builtin.clear_ T ty vs)
 |_=>none
def I0(P:Program)(o:Oper)(σ:Env)(h:ai)(K:fp):Prop:=
 match P5 σ o with
 |true=>(match uZ P (execOp σ.w6 o)with
  |some (O,k)=>aQ h O λb h'=>(match jO P (k b)with|some (.value v)=>K v h'|_=>False)
  |none=>False)
 |false=>False
def oh(P:Program)(o:Oper)(σ:Env)(h:ai)(K:fp):Prop:=
 match o.op with
 | .alloc _=>I0 P o σ h K
 | .box _ _=>I0 P o σ h K
 | .buildSlice _ _ _=>I0 P o σ h K
 | .makeMap _ _=>I0 P o σ h K
 | .store t x y=>(match σ.ev x,σ.ev y with
  |some (.pointer p),some v=>aL p λa=>(match P.info? t with
   |some i=>(match Nat.beq i.size v.cells.toList.length with|true=>dD a v.cells.toList 0 h (K undef)|false=>False)
   |none=>False)
  |_,_=>False)
 | .mapUpdate t m k x=>(match σ.ev m,σ.ev k,σ.ev x with
  |some m,some k,some x=>aW P (Instr.mapUpdate t m k x) h λ_ h'=>K undef h'
  |_,_,_=>False)
 | .insert t m k x=>(match σ.ev m,σ.ev k,σ.ev x with
  |some m,some k,some x=>aW P (Instr.mapUpdate t m k x) h λ_ h'=>K undef h'
  |_,_,_=>False)
 | .makeSlice t l c=>(match σ.ev l,σ.ev c with
  |some l,some c=>aW P (Instr.makeSlice t l c) h λv h'=>rQ P o.type λV=>v=V/\K V h'
  |_,_=>False)
 | .convert s d x=>(match σ.ev x with
  |some x=>aW P (convert s d x) h λv h'=>rQ P o.type λV=>v=V/\K V h'
  |none=>False)
 | .call { callee:=.builtin b,args:=args,argTypes:=T } =>(match NS σ args.toList with
  |some vs=>(match x9 b T o.type vs.toArray with
   |some s=>aW P s h λv h'=>rQ P o.type λV=>v=V/\K V h'
   |none=>False)
  |none=>False)
 | .call { callee:=.value f,args:=args,argTypes:=_ } =>(match σ.ev f,NS σ args.toList with
  |some (.func (.func g) first C),some vs=>(match oe P g with
   |true=>lS P g (first.toList++vs++C.toList).toArray h λv h'=>rQ P o.type λV=>v=V/\K V h'
   |false=>False)
  |_,_=>False)
 | .range t x=>(match σ.ev x with
  |some x=>aW P (Instr.range t x) h λv h'=> ∃r:Nat,v=.pointer (some ⟨r,0,none⟩)/\K (.pointer (some ⟨r,0,none⟩)) h'
  |none=>False)
 | .next it b=>(match σ.ev it with
  |some it=>aW P (Instr.next it b o.type) h λv h'=>(v=.tuple #[.bool false]/\K (.tuple #[.bool false]) h')\/∃k x:Value,v=.tuple #[.bool true,k,x]/\K (.tuple #[.bool true,k,x]) h'
  |none=>False)
 | .entry it=>(match σ.ev it with
  |some it=>aW P (Instr.entry it) h λv h'=> ∃k x:Value,v=.tuple #[k,x]/\K (.tuple #[k,x]) h'
  |none=>False)
 |_=>False

end
section
variable {P : Program} {h : ai}
theorem ya{α:Type}(a:α)(K:α->ai->Prop):aW P (pure a:Sem α) h K↔K a h:=eE
theorem dB{α b:Type}(s:Sem α)(f:α->Sem b)(K:b->ai->Prop):aW P (s>>=f) h K↔aW P s h (λa h'=>aW P (f a) h' K):=DA s f h K
theorem K5{t:TypeId}{d:TypeDesc}(hd:P.underlying t=some d)(K:TypeDesc->ai->Prop):aW P (underlying t) h K↔K d h:=by
 unfold underlying;rw[dB];show aW P (match P.underlying t with|some d=>pure d|none=>stuck "no such type") h K↔_;rw[hd];exact eE
theorem B7{t:TypeId}{i:TypeInfo}(H:P.info? t=some i)(K:TypeInfo->ai->Prop):aW P (typeInfo t) h K↔K i h:=by
 unfold typeInfo;rw[dB];show aW P (match P.info? t with|some d=>pure d|none=>stuck "no such type") h K↔_;rw[H];exact eE
theorem FJ{t:TypeId}{i:TypeInfo}(H:P.info? t=some i)(K:Nat->ai->Prop):aW P (sizeOf t) h K↔K i.size h:=by
 unfold sizeOf;rw[dB,B7 H];exact eE
theorem iU{α:Type}(a:α):rd P (pure a:Sem α) h=some a:=rfl
theorem bA{t:TypeId}{d:TypeDesc}(hd:P.underlying t=some d):rd P (underlying t) h=some d:=by
 show rd P (match P.underlying t with|some d=>pure d|none=>stuck "no such type") h=_;rw[hd];rfl
theorem gQ{t:TypeId}{i:TypeInfo}(H:P.info? t=some i):rd P (typeInfo t) h=some i:=by
 show rd P (match P.info? t with|some d=>pure d|none=>stuck "no such type") h=_;rw[H];rfl
theorem gR{t:TypeId}{i:TypeInfo}(H:P.info? t=some i):rd P (sizeOf t) h=some i.size:=by
 unfold sizeOf;rw[bt _ _ _ _ (gQ H)];rfl
theorem DF{t:TypeId}(H:x6 P t=true): ∃d,P.underlying t=some d/\((∃fs,d=.struct fs)\/∃n e,d=.array n e):=by
 unfold x6 at H;split at H
 .rename_i fs e;exact⟨_,e,.inl ⟨_,rfl⟩⟩
 .rename_i n el e;exact⟨_,e,.inr ⟨_,_,rfl⟩⟩
 .cases H
theorem rR{t:TypeId}(H:x6 P t=true):rd P (isAgg t) h=some true:=by
 obtain⟨d,hd,a⟩:=DF H;unfold isAgg;rw[bt _ _ _ _ (bA hd)];rcases a with⟨fs,rfl⟩|⟨n,e,rfl⟩<;>rfl
theorem lT{t:TypeId}{l:gp}(H:uY P t=some l):rd P (isAgg t) h=some false:=by
 unfold uY at H;unfold isAgg;cases hd:P.underlying t with
 |none=>rw[hd]at H;cases H
 |some d=>rw[bt _ _ _ _ (bA hd)];rw[hd]at H;cases d<;>first|rfl|cases H
end
section
variable {P : Program}
theorem B9{a:Addr}{h:ai}{v:Value}(H:bg h a=some v):rd P (load a) h=some v:=by
 unfold load;simp only[rd,H]
theorem iu{a:Addr}: ∀(vs:List Value)(i:Nat)(A:Array Value)(h:ai),dI a vs i h->rd P (loadCellsFrom a i vs.length A) h=some (A++vs.toArray)
 | [],i,A,h,_=>by simp[loadCellsFrom,iU]
 |v::vs,i,A,h,c=>by
  obtain⟨H,b⟩:=c;simp only[bf,loadCellsFrom];rw[bt _ _ _ _ (B9 H),iu vs (i+1) _ h b];simp
theorem rZ{h:ai}{a:Addr}: ∀(ls:List gp)(i:Nat)(F:List Value->Prop),K4 h a ls i F->∃vs,vs.length=ls.length/\dI a vs i h/\F vs
 | [],_,_,H=>⟨[],rfl,trivial,H⟩
 |_::ls,i,_,H=>by
  obtain⟨v,b,c⟩:=gp.lD H;obtain⟨vs,f,d,e⟩:=rZ ls (i+1) _ c;exact⟨v::vs,by simp[f],⟨b,d⟩,e⟩
def sY:Option (ai->Prop)->ai->Prop
 |some S,h=>S h
 |none,_=>True
def Yv(P:Program)(s:Sem Value)(S:Option (ai->Prop))(v:Value):Prop:=
 ∀h',sY S h'->rd P s h'=some v
theorem yc{t:TypeId}{h:ai}{a:Addr}{K:Value->Option (ai->Prop)->Prop}(H:qH P t h a K):
  ∃v S,K v S/\sY S h/\Yv P (loadVar t a) S v:=by
 unfold qH at H;split at H
 .rename_i g;split at H
  .rename_i ls i m j;split at H
   .rename_i k;obtain⟨vs,d,b,c⟩:=rZ _ _ _ H;refine⟨_,_,c,b,λh' f=> ?_⟩;unfold loadVar;rw[bt _ _ _ _ (rR g)];simp only[bj];rw[bt _ _ _ _ (gR j)];have e:i.size=vs.length:=by rw[d];exact bO k
    unfold loadCells;rw[e,bt _ _ _ _ (iu vs 0 #[] h' f)];simp[iU]
   .exact H.elim
  .exact H.elim
 .split at H
  .rename_i l d;obtain⟨v,b,c⟩:=gp.lD H;refine⟨v,_,c,b,λh' f=> ?_⟩;unfold loadVar;rw[bt _ _ _ _ (lT d)];exact B9 f
  .exact H.elim
theorem pD{o:Oper}{σ:Env}{a:Operand->Value}{K:Value->Option (ai->Prop)->Prop}(H:Fits σ a)(c: ∀cs b,o.op≠ .select cs b)(h:pC P o σ K):
  ∃v,K v none/\∀h',rd P (execOp a o) h'=some (.value v):=by
 unfold pC at h;split at h
 .rename_i hd;split at h
  .rename_i v d;exact⟨v,h,λh'=>rX _ _ (by rw[<-DD H o hd c];exact d) _⟩
  .exact h.elim
 .exact h.elim
theorem AX{t:TypeId}{u v:Value}{b:Bool}(h:pB P t u v=some b): ∀h',rd P (Op.equal t u v) h'=some b:=by
 intro h';unfold Op.equal Op.maxDepth;unfold pB at h;split at h
 .split at h
  .rename_i p e H;simp only[br]at h;subst h;unfold Op.equalIn;rw[bt _ _ _ _ (bA H)];cases p<;>rfl
  .cases h
 .split at h
  .rename_i m k e H;simp only[br]at h;subst h;unfold Op.equalIn;rw[bt _ _ _ _ (bA H)];cases m<;>rfl
  .cases h
 .split at h
  .rename_i p _ _ e H;simp only[br]at h;subst h;unfold Op.equalIn;rw[bt _ _ _ _ (bA H)];cases p<;>rfl
  .cases h
 .cases h
theorem sZ{op:BinOp}{t:TypeId}{x y:Operand}{u v:Value}{b:Bool}(h:pB P t u v=some b): ∀h',rd P (eqGuard op t x y u v) h'=some ():=by
 intro h';unfold pB at h;unfold eqGuard;split at h
 .split at h
  .split<;>exact rfl
  .cases h
 .split at h
  .split<;>exact rfl
  .cases h
 .split at h
  .split<;>exact rfl
  .cases h
 .cases h
theorem wv{t:TypeId}{u v:Value}{b:Bool}(h:pB P t u v=some b):
  (∃p,u=.pointer p/\v=.pointer none)\/(∃m,u=.map m/\v=.map none)\/(∃p l c L c',u=.slice p l c/\v=.slice none L c'):=by
 unfold pB at h;split at h
 .split at h
  .exact .inl ⟨_,rfl,rfl⟩
  .cases h
 .split at h
  .exact .inr (.inl ⟨_,rfl,rfl⟩)
  .cases h
 .split at h
  .exact .inr (.inr ⟨_,_,_,_,_,rfl,rfl⟩)
  .cases h
 .cases h
theorem jy{op:BinOp}{t:TypeId}{x y:Operand}{u v:Value}(h:op≠ .eql)(H:op≠ .neq):eqGuard op t x y u v=pure ():=by
 cases op<;>first|rfl|exact absurd rfl h|exact absurd rfl H
theorem kA{o:Oper}{op:BinOp}{t T:TypeId}{x y:Operand}{a:Operand->Value}{u v r:Value}{h:ai}(d:o.op=.binOp op t x y T)(e:a x=u)(f:a y=v)(H:rd P (eqGuard op t x y u v) h=some ())(b:rd P (binOp op t u v) h=some r):rd P (execOp a o) h=some (.value r):=by
 unfold execOp;rw[d];simp only[e,f];have c:rd P (do eqGuard op t x y u v;binOp op t u v) h=some r:=by rw[bt _ _ _ _ H];exact b
 rw[bt _ _ _ _ c];rfl
theorem AY{o:Oper}{op:BinOp}{t T:TypeId}{x y:Operand}{d:Operand->Value}{u v:Value}(e:o.op=.binOp op t x y T)(a:op=.eql\/op=.neq)(i:d x=u)(j:d y=v)(h:u9 P o t u v=true){b:Bool}(H:Aj P t u v b):
  ∀h',rd P (execOp d o) h'=some (.value (.bool (if op=.eql then b else !b))):=by
 intro h';have g:rd P (eqGuard op t x y u v) h'=some ():=by
  unfold u9 at h;split at h
  .have f: ∃c,y=.const c:=by
    unfold FG at h;rw[e]at h;cases y<;>first|exact⟨_,rfl⟩|cases h
   obtain⟨c,rfl⟩:=f;unfold eqGuard;rcases a with rfl|rfl<;>cases u<;>first|rfl|(cases x<;>rfl)
  .split at h
   .unfold eqGuard;rcases a with rfl|rfl
    .show rd P (program>>=λp=>program>>=λq=>if(!p.eqGuardType q.depth t)=true then pure ()else _) h'=some ();rw[bt _ _ _ _ (show rd P program h'=some P from rfl),bt _ _ _ _ (show rd P program h'=some P from rfl),af h];rfl
    .show rd P (program>>=λp=>program>>=λq=>if(!p.eqGuardType q.depth t)=true then pure ()else _) h'=some ();rw[bt _ _ _ _ (show rd P program h'=some P from rfl),bt _ _ _ _ (show rd P program h'=some P from rfl),af h];rfl
   .cases h
  .split at h
   .unfold eqGuard;split<;>exact rfl
   .cases h
  .cases h
 refine kA e i j g ?_;have key: ∀u v:Value,(u9 P o t u v=true)->Aj P t u v b->rd P (binOp op t u v) h'=some (.bool (if op=.eql then b else !b)):=by
  intro u v h H;unfold u9 at h;split at h
  .rcases a with rfl|rfl
   .have:binOp .eql t u .nilIface=(Op.equal t u .nilIface>>=λq=>pure (Value.bool q)):=by cases u<;>rfl
    rw[this,bt _ _ _ _ (H h')];rfl
   .have:binOp .neq t u .nilIface=(Op.equal t u .nilIface>>=λq=>pure (Value.bool (!q))):=by cases u<;>rfl
    rw[this,bt _ _ _ _ (H h')];rfl
  .split at h
   .rcases a with rfl|rfl
    .show rd P (Op.equal t _ _>>=λq=>pure (Value.bool q)) h'=_;rw[bt _ _ _ _ (H h')];rfl
    .show rd P (Op.equal t _ _>>=λq=>pure (Value.bool (!q))) h'=_;rw[bt _ _ _ _ (H h')];rfl
   .cases h
  .split at h
   .rcases a with rfl|rfl
    .show rd P (Op.equal t _ _>>=λq=>pure (Value.bool q)) h'=_;rw[bt _ _ _ _ (H h')];rfl
    .show rd P (Op.equal t _ _>>=λq=>pure (Value.bool (!q))) h'=_;rw[bt _ _ _ _ (H h')];rfl
   .cases h
  .cases h
 exact key u v h H
theorem I1{o:Oper}{op:BinOp}{t T:TypeId}{x y:Operand}{σ:Env}{n:Operand->Value}{u v:Value}{K:Value->Option (ai->Prop)->Prop}(d:o.op=.binOp op t x y T)(i:Fits σ n)(f:n x=u)(g:n y=v)(h:FH P o op t u v σ K):
  ∃v,K v none/\∀h',rd P (execOp n o) h'=some (.value v):=by
 have j: ∀cs b,o.op≠ .select cs b:=by rw[d];intro cs b e;cases e
 unfold FH at h;split at h
 .split at h
  .rename_i s;obtain⟨b,H,q⟩:=h;exact⟨_,q,AY d (.inl rfl) f g s H⟩
  .split at h
   .rename_i b H;refine⟨_,h,λh'=>kA d f g (sZ H h') ?_⟩;have r:binOp .eql t u v=(do pure (.bool (<-Op.equal t u v))):=by
     rcases wv H with⟨p,rfl,rfl⟩|⟨m,rfl,rfl⟩|⟨p,l,c,L,c',rfl,rfl⟩<;>rfl
    rw[r,bt _ _ _ _ (AX H h')];rfl
   .exact pD i j h
 .split at h
  .rename_i s;obtain⟨b,H,q⟩:=h;exact⟨_,q,AY d (.inr rfl) f g s H⟩
  .split at h
   .rename_i b H;refine⟨_,h,λh'=>kA d f g (sZ H h') ?_⟩;have r:binOp .neq t u v=(do pure (.bool (!(<-Op.equal t u v)))):=by
     rcases wv H with⟨p,rfl,rfl⟩|⟨m,rfl,rfl⟩|⟨p,l,c,L,c',rfl,rfl⟩<;>rfl
    rw[r,bt _ _ _ _ (AX H h')];rfl
   .exact pD i j h
 .split at h
  .rename_i k a k' b;split at h
   .rename_i hk;obtain rfl:k=k':=aU hk;split at h
    .exact h.elim
    .rename_i H;refine⟨_,h,λh'=>kA d f g (by rw[jy bP bP];rfl) ?_⟩;simp only[binOp,en,not_true,aM,Op.intDiv,H];rfl
   .exact h.elim
  .exact h.elim
 .split at h
  .rename_i k a k' b;split at h
   .rename_i hk;obtain rfl:k=k':=aU hk;split at h
    .exact h.elim
    .rename_i H;refine⟨_,h,λh'=>kA d f g (by rw[jy bP bP];rfl) ?_⟩;simp only[binOp,en,not_true,aM,Op.intDiv,H];rfl
   .exact h.elim
  .exact h.elim
 .split at h
  .split at h
   .exact h.elim
   .rename_i H;refine⟨_,h,λh'=>kA d f g (by rw[jy bP bP];rfl) ?_⟩;simp only[binOp,Op.shift,H,aM];rfl
  .exact h.elim
 .split at h
  .split at h
   .exact h.elim
   .rename_i H;refine⟨_,h,λh'=>kA d f g (by rw[jy bP bP];rfl) ?_⟩;simp only[binOp,Op.shift,H,aM];rfl
  .exact h.elim
 .split at h
  .obtain⟨H,h⟩:=h;refine⟨_,h,λh'=>kA d f g (by rw[jy bP bP];rfl) ?_⟩;simp only[binOp,Op.stringOp];rw[dc];rfl
  .exact pD i j h
 .exact pD i j h
theorem iM{x:Value}{k:IntKind}{n:Int}{y:Nat}{c:BoundsCode}{h:ai}(b:x=.int k n)(H:0<=n)(a:n<=(y:Int)):rd P (Instr.sliceBound x y c) h=some n.toNat:=by
 subst b;show rd P (if 0<=n/\n<=(y:Int)then _ else _) h=_;rw[af ⟨H,a⟩];rfl
theorem mz{σ:Env}{a:Operand->Value}(H:Fits σ a){x:Option Operand}{n:Option Int}(h:rY σ x=some n):
  (x=none/\n=none)\/∃k m,n=some m/\x.map a=some (.int k m):=by
 cases x with
 |none=>simp only[rY,br]at h;exact .inl ⟨rfl,h.symm⟩
 |some x=>
  simp only[rY]at h;split at h
  .rename_i k m b;simp only[br]at h;exact .inr ⟨k,m,h.symm,by simp[H _ _ b]⟩
  .cases h
theorem lU{σ:Env}{f:Operand->Value}(g:Fits σ f){L i:Option Operand}{l r:Option Int}(k:rY σ L=some l)(n:rY σ i=some r){isS:Bool}{len cap:Nat}{F:Nat->Nat->Prop}(e:B5 len cap l r F): ∃a b,F a b/\∀(h:ai),
   rd P (Instr.sliceBounds isS len cap (L.map f) (i.map f) none) h=some (a,b,cap):=by
 rcases mz g k with⟨rfl,rfl⟩|⟨K,m,rfl,e1⟩<;>rcases mz g n with⟨rfl,rfl⟩|⟨p,M,rfl,e2⟩
 .exact⟨0,len,e,λh=>rfl⟩
 .obtain⟨⟨H,c⟩,d⟩:=e;refine⟨0,M.toNat,d,λh=> ?_⟩;unfold Instr.sliceBounds;rw[e2,bt _ _ _ _ (iU _),bt _ _ _ _ (iM rfl H c)];rfl
 .obtain⟨⟨H,c⟩,d⟩:=e;refine⟨m.toNat,len,d,λh=> ?_⟩;unfold Instr.sliceBounds;rw[e1,bt _ _ _ _ (iU _)];simp only[Option.map_none];rw[bt _ _ _ _ (iU _),bt _ _ _ _ (iM rfl H c)];rfl
 .obtain⟨⟨H,c⟩,⟨j,o⟩,d⟩:=e;refine⟨m.toNat,M.toNat,d,λh=> ?_⟩;unfold Instr.sliceBounds;rw[e1,e2,bt _ _ _ _ (iU _),bt _ _ _ _ (iM rfl H c),bt _ _ _ _ (iM rfl j ag)];rfl
theorem AZ{n:Int}: ∀(vs:List Value)(i:Nat)(F:Value->Prop),FI n vs i F->∀j,n=((i+j:Nat):Int)->∀v,vs[j]? =some v->F v
 | [],_,_,_,j,_,v,h=>by simp at h
 |u::vs,i,F,b,j,c,v,h=>by
  obtain⟨H,a⟩:=b;cases j with
  |zero=>simp only[dw,br]at h;subst h;exact H c
  |succ j=>exact AZ vs (i+1) F a j ag v (by simpa using h)
theorem jQ{s:Sem Value}{v:Value}{h:ai}(H:rd P s h=some v):rd P (do pure (Next.value (<-s))) h=some (.value v):=by
 rw[bt _ _ _ _ H];rfl
theorem oi{o:Oper}{σ:Env}{O:Operand->Value}{h:ai}{K:Value->Option (ai->Prop)->Prop}(g:Fits σ O)(H:my P o σ h K):
  ∃v S,K v S/\sY S h/\∀h',sY S h'->rd P (execOp O o) h'=some (.value v):=by
 have V:(∀cs b,o.op≠ .select cs b)->pC P o σ K->∃v S,K v S/\sY S h/\∀h',sY S h'->rd P (execOp O o) h'=some (.value v):=λG L=>by
  obtain⟨v,r,w⟩:=pD g G L;exact⟨v,none,r,trivial,λh' _=>w h'⟩
 unfold my at H;split at H
 .rename_i c a b j;split at H
  .rename_i q va vb hc R B;have e:execOp O o=pure (.value (if q then va else vb)):=by
    unfold execOp;rw[j];simp only[g _ _ hc,g _ _ R,g _ _ B];rfl
   split at H
   .rename_i U;exact⟨va,none,H,trivial,λh' _=>by rw[e,af U];rfl⟩
   .rename_i U;exact⟨vb,none,H,trivial,λh' _=>by rw[e,ae U];rfl⟩
  .exact H.elim
 .rename_i t x j;split at H
  .rename_i p L;obtain⟨a,rfl,H⟩:=bK.1 H;obtain⟨v,S,r,w,Q⟩:=yc H;refine⟨v,S,r,w,λh' G=> ?_⟩;unfold execOp;rw[j];simp only[g _ _ L];exact jQ (Q h' G)
  .exact H.elim
 .rename_i x j;split at H
  .rename_i p L;obtain⟨a,rfl,H⟩:=bK.1 H;refine⟨_,none,H,trivial,λh' _=> ?_⟩;unfold execOp;rw[j];simp only[g _ _ L];rfl
  .exact V (by rw[j];intro cs b e;cases e) H
 .rename_i op t x y t' j;split at H
  .rename_i u v hu X;obtain⟨v,r,w⟩:=I1 j g (g _ _ hu) (g _ _ X) H;exact⟨v,none,r,trivial,λh' _=>w h'⟩
  .exact H.elim
 .rename_i s x f j;split at H
  .rename_i p off L D;obtain⟨a,rfl,H⟩:=bK.1 H;refine⟨_,none,H,trivial,λh' _=> ?_⟩;unfold DE at D;split at D
   .rename_i fs d';split at D
    .rename_i fl c';split at D
     .rename_i i E;split at D
      .cases D
      .rename_i hz;simp only[br]at D;subst D;unfold execOp;rw[j];simp only[g _ _ L];refine jQ ?_;unfold Instr.fieldAt;rw[bt _ _ _ _ (bA d')];simp only[c'];show rd P (do let y<-fieldPlace a fl;pure (Value.pointer (some y))) h'=_;have e': ¬i.size=0:=λe=>by rw[e]at hz;cases hz
       have r:rd P (fieldPlace a fl) h'=some (a.add fl.offset):=by
        unfold fieldPlace;rw[bt _ _ _ _ (gR E),ae e'];rfl
       rw[bt _ _ _ _ r];rfl
     .cases D
    .cases D
   .cases D
  .exact H.elim
 .rename_i t x ix j;split at H
  .rename_i e a' len cap k n z A E;split at H
   .rename_i i C;obtain⟨⟨r,w⟩,H⟩:=H;obtain⟨a,rfl,H⟩:=bK.1 H;refine⟨_,none,H,trivial,λh' _=> ?_⟩;unfold execOp;rw[j];simp only[g _ _ A,g _ _ E];refine jQ ?_;unfold Instr.indexAt;show rd P (do let x<-underlying t;_) h'=_;rw[bt _ _ _ _ (bA z)];simp only;rw[bt _ _ _ _ (iU _)];simp only;rw[bt _ _ _ _ (bA z)];simp only;rw[af ⟨r,w⟩,bt _ _ _ _ (gR C)];rfl
   .exact H.elim
  .rename_i len e a' k n z A E;split at H
   .rename_i i C;obtain⟨⟨r,w⟩,H⟩:=H;obtain⟨a,rfl,H⟩:=bK.1 H;refine⟨_,none,H,trivial,λh' _=> ?_⟩;unfold execOp;rw[j];simp only[g _ _ A,g _ _ E];refine jQ ?_;unfold Instr.indexAt;show rd P (do let x<-underlying t;_) h'=_;rw[bt _ _ _ _ (bA z)];simp only[Instr.sureAddr];rw[bt _ _ _ _ (iU _),bt _ _ _ _ (iU _)];simp only;rw[bt _ _ _ _ (bA z)];simp only;rw[af ⟨r,w⟩,bt _ _ _ _ (gR C)];rfl
   .exact H.elim
  .exact H.elim
 .rename_i t x ix j;split at H
  .rename_i s k n z A E;obtain⟨⟨r,w⟩,H⟩:=H;refine⟨_,none,H,trivial,λh' _=> ?_⟩;unfold execOp;rw[j];simp only[g _ _ A,g _ _ E];refine jQ ?_;unfold Instr.index;show rd P (do let x<-underlying t;_) h'=_;rw[bt _ _ _ _ (bA z)];have M:n.toNat<s.size:=ag
   have T:s[n.toNat]? =some (s.data.toList.getD n.toNat 0):=by
    rw[getElem?_pos s n.toNat M];congr 1
    rw[aY,aj (by simpa using M)];rfl
   simp only[af r,T];rfl
  .rename_i len e cs k n z A E;split at H
   .rename_i i B C Z;split at H
    .rename_i W;obtain⟨⟨r,w⟩,H⟩:=H;have Z:=bO Z;have W:=bO W;have M:n.toNat<cs.toList.length:=ag
     have F:=AZ _ _ _ H n.toNat ag _ (aj M);refine⟨_,none,F,trivial,λh' _=> ?_⟩;unfold execOp;rw[j];simp only[g _ _ A,g _ _ E];refine jQ ?_;unfold Instr.index;show rd P (do let x<-underlying t;_) h'=_;rw[bt _ _ _ _ (bA z)];simp only;rw[af ⟨r,w⟩,bt _ _ _ _ (gR C)];unfold part;rw[bt _ _ _ _ (lT B)];simp only[au,aM];rw[W,ct];have T:cs[n.toNat]? =some (cs.toList[n.toNat]'M):=bP
     rw[T];rfl
    .exact H.elim
   .exact H.elim
  .exact H.elim
 .rename_i t x lo E mx j;split at H
  .rename_i e p len cap l Y z A J I;split at H
   .rename_i i C;obtain⟨a,b,F,B⟩:=lU (P:=P) (isS:=true) g J I H;refine⟨_,none,F,trivial,λh' _=> ?_⟩;unfold execOp;rw[j];simp only[g _ _ A,Option.map_none];refine jQ ?_;unfold Instr.sliceAt;rw[bt _ _ _ _ (bA z)];unfold Instr.slice;simp only;rw[bt _ _ _ _ (bA z)];simp only;rw[bt _ _ _ _ (B _)];simp only;rw[bt _ _ _ _ (gR C)];rfl
   .exact H.elim
  .rename_i s l Y z A J I;obtain⟨a,b,F,B⟩:=lU (P:=P) (isS:=false) g J I H;refine⟨_,none,F,trivial,λh' _=> ?_⟩;unfold execOp;rw[j];simp only[g _ _ A,Option.map_none];refine jQ ?_;unfold Instr.sliceAt;rw[bt _ _ _ _ (bA z)];unfold Instr.slice;simp only;rw[bt _ _ _ _ (bA z)];simp only[Option.isSome_none,au,aM];rw[bt _ _ _ _ (B _)];rfl
  .rename_i n e p l Y z A J I;split at H
   .rename_i i C;obtain⟨ad,rfl,H⟩:=bK.1 H;obtain⟨a,b,F,B⟩:=lU (P:=P) (isS:=false) g J I H;refine⟨_,none,F,trivial,λh' _=> ?_⟩;unfold execOp;rw[j];simp only[g _ _ A,Option.map_none];refine jQ ?_;unfold Instr.sliceAt;rw[bt _ _ _ _ (bA z)];simp only[Instr.sureAddr];rw[bt _ _ _ _ (iU _),bt _ _ _ _ (B _)];simp only;rw[bt _ _ _ _ (gR C)];show some _=some _;unfold cO;congr 2
    split<;>rfl
   .exact H.elim
  .rename_i mo e p len cap b z A J I;split at H
   .rename_i k m i N C;obtain⟨⟨r,w⟩,⟨Q,h4⟩,F⟩:=H;rcases mz g J with⟨rfl,_⟩|⟨_,_,e1,_⟩
    case inr=>cases e1
    rcases mz g I with⟨_,e1⟩|⟨k2,m2,e1,e2⟩
    .cases e1
    cases e1;refine⟨_,none,F,trivial,λh' _=> ?_⟩;unfold execOp;rw[j];simp only[g _ _ A,g _ _ N,e2,Option.map_none,cZ];refine jQ ?_;unfold Instr.sliceAt;rw[bt _ _ _ _ (bA z)];unfold Instr.slice;simp only;rw[bt _ _ _ _ (bA z)];simp only;have B:rd P (Instr.sliceBounds true len cap none (some (.int k2 b)) (some (.int k m))) h'=some (0,b.toNat,m.toNat):=by
     unfold Instr.sliceBounds;simp only;rw[bt _ _ _ _ (iM rfl r w),bt _ _ _ _ (iM rfl Q ag)];rfl
    rw[bt _ _ _ _ B];simp only;rw[bt _ _ _ _ (gR C)];rfl
   .exact H.elim
  .exact H.elim
 .rename_i t x i ok j;split at H
  .rename_i m k N hk;obtain⟨v,r,w⟩:=x7 H;refine⟨v,_,w,?_,λh' G=> ?_⟩
   .show jP m h h;unfold jP;split<;>trivial
   .unfold execOp;rw[j];simp only[g _ _ N,g _ _ hk];exact jQ (r h' G)
  .exact H.elim
 .rename_i args g' j;split at H
  .rename_i x b';split at H
   .rename_i m N;split at H
    .obtain⟨n,r,w⟩:=H;refine⟨_,_,w,?_,λh' G=> ?_⟩
     .show jP m h h;unfold jP;split<;>trivial
     .have R:args= #[x]:=by rw[<-Array.toArray_toList (xs:=args),b']
      unfold execOp;rw[j];simp only[resolve,R];rw[bt _ _ _ _ (iU _)];simp only[invoke,builtin,List.map_toArray,bX,List.map_nil,g _ _ N];exact jQ (r h' G)
    .exact V (by rw[j];intro cs b e;cases e) H
   .exact H.elim
  .exact H.elim
 .rename_i s d x j;split at H
  .split at H
   .rename_i v X;obtain⟨b,r,w⟩:=H;refine⟨_,_,w,r,λh' G=> ?_⟩;unfold execOp;rw[j];simp only[g _ _ X];exact jQ G
   .exact H.elim
  .exact V (by rw[j];intro cs b e;cases e) H
 .exact H.elim
 .rename_i f';exact V f' H
def kB(p:cy)(h h':ai):Prop:= ∀x,p=some x->x.block<h.size->h'[x.block]? =h[x.block]?
def Kp(h h':ai)(l:List (cy)):Prop:= ∀p∈l,kB p h h'
def Ca(σ:Env)(o:Oper):Option (cy):=
 match o.op with
 | .load _ x=>(match σ.ev x with
  |some (.pointer p)=>some p
  |_=>some none)
 |_=>none
theorem pE{h:ai}{a:Addr}{v:Value}(H:bg h a=some v):a.block<h.size:=by
 unfold bg at H;split at H
 .rename_i b;exact(Array.getElem?_eq_some_iff.1 b).1
 .cases H
theorem kB.cell{h h':ai}{a b:Addr}{v:Value}(d:kB (some a) h h')(c:b.block=a.block)(H:bg h b=some v):bg h' b=some v:=by
 have:=d a rfl (by rw[<-c];exact pE H);rw[<-c]at this;unfold bg at H⊢;rw[this];exact H
theorem kB.trans{p:cy}{h c d:ai}(a:kB p h c)(b:kB p c d):kB p h d:=λx e f=>by
 have H:=a x e f;rw[b x e ?_,H];have:=Array.getElem?_eq_getElem f;rw[this]at H;exact(Array.getElem?_eq_some_iff.1 H).1
theorem kB.held{h h':ai}{a:Addr}(b:kB (some a) h h'): ∀(vs:List Value)(i:Nat),dI a vs i h->dI a vs i h'
 | [],_,_=>trivial
 |_::vs,i,H=>⟨b.cell (by unfold Addr.add;split<;>rfl) H.1,kB.held b vs (i+1) H.2⟩
theorem Ak{t:TypeId}{h:ai}{a:Addr}{K:Value->Option (ai->Prop)->Prop}(H:qH P t h a K):
  ∃v S,K v (some S)/\S h/\(∀h',kB (some a) h h'->S h')/\Yv P (loadVar t a) (some S) v:=by
 have m:=H;unfold qH at H;split at H
 .rename_i g;split at H
  .rename_i ls i n j;split at H
   .rename_i k;obtain⟨vs,f,c,d⟩:=rZ _ _ _ H;refine⟨_,_,d,c,λh' b=>b.held _ _ c,λh' b=> ?_⟩;unfold loadVar;rw[bt _ _ _ _ (rR g)];simp only[bj];rw[bt _ _ _ _ (gR j)];have e:i.size=vs.length:=by rw[f];exact bO k
    unfold loadCells;rw[e,bt _ _ _ _ (iu vs 0 #[] h' b)];simp[iU]
   .exact H.elim
  .exact H.elim
 .split at H
  .rename_i l f;obtain⟨v,c,d⟩:=gp.lD H;refine⟨v,_,d,c,λh' b=>b.cell rfl c,λh' b=> ?_⟩;unfold loadVar;rw[bt _ _ _ _ (lT f)];exact B9 b
  .exact H.elim
theorem Cd{o:Oper}{σ:Env}{e:Operand->Value}{h:ai}{K:Value->Option (ai->Prop)->Prop}{p:cy}(k:Fits σ e)(b:Ca σ o=some p)(H:my P o σ h K):
  ∃v S,K v (some S)/\S h/\(∀h',kB p h h'->S h')/\∀h',S h'->rd P (execOp e o) h'=some (.value v):=by
 unfold Ca at b;unfold my at H;split at b
 .rename_i t x c;simp only[c]at H;split at H
  .rename_i q d;simp only[d,br]at b;subst b;obtain⟨a,rfl,H⟩:=bK.1 H;obtain⟨v,S,f,g,j,i⟩:=Ak H;refine⟨v,S,f,g,j,λh' l=> ?_⟩;unfold execOp;rw[c];simp only[k _ _ d];exact jQ (i h' l)
  .exact H.elim
 .cases b
theorem HE{σ:Env}{a:Operand->Value}(H:Fits σ a): ∀(xs:List Operand)(vs:List Value),NS σ xs=some vs->xs.map a=vs
 | [],vs,h=>by simp only[NS,br]at h;exact h
 |x::xs,vs,h=>by
  simp only[NS]at h;split at h
  .rename_i v V b c;simp only[br]at h;rw[bX,H _ _ b,HE H xs V c,h]
  .cases h
theorem tb{σ:Env}{a:Operand->Value}(h:Fits σ a){args:Array Operand}{vs:List Value}(H:NS σ args.toList=some vs):args.map a=vs.toArray:=by
 have:=HE h _ _ H;rw[<-this];apply Array.ext'
 simp
theorem xM{o:Oper}{σ:Env}{c:Operand->Value}{h:ai}{K:fp}(d:Fits σ c)(f: ∀cs b,o.op≠ .select cs b)(H:I0 P o σ h K):pA P o c h K:=by
 unfold I0 at H;split at H
 .rename_i hd;split at H
  .rename_i O k e;have a:=H _ _ rfl rfl;dsimp only at a;split at a
   .rename_i v g;refine FE _ O k (by rw[<-DD d o hd f];exact e) _ _ ?_;exact DC _ _ g _ _ a
   .exact a.elim
  .exact H.elim
 .exact H.elim
theorem A2{a:Addr}: ∀(vs:List Value)(i:Nat)(h:ai)(K:ai->Prop),dD a vs i h K->aW P (storeCells a vs i) h (λ_ h'=>K h')
 | [],_,_,_,H=>H
 |v::vs,i,h,K,H=>by
  simp only[dD]at H;split at H
  .rename_i b;obtain⟨c,d,e⟩:=H;simp only[storeCells];rw[dB];exact⟨b,c,d,A2 vs (i+1) _ K (e _ rfl)⟩
  .exact H.elim
theorem vc{s:Sem Value}{h:ai}{t:TypeId}{K:fp}(H:aW P s h λv h'=>rQ P t λV=>v=V/\K V h'):aW P s h K:=
 jL _ _ (λ_ _ a=>x8 a) H
theorem vd{o:Oper}{σ:Env}{D:Operand->Value}{h:ai}{K:fp}(n:Fits σ D)(H:oh P o σ h K):pA P o D h K:=by
 unfold oh at H;split at H
 .rename_i j;exact xM n (by rw[j];intro cs b e;cases e) H
 .rename_i j;exact xM n (by rw[j];intro cs b e;cases e) H
 .rename_i j;exact xM n (by rw[j];intro cs b e;cases e) H
 .rename_i j;exact xM n (by rw[j];intro cs b e;cases e) H
 .rename_i t x y j;split at H
  .rename_i p v q N;obtain⟨a,rfl,H⟩:=bK.1 H;split at H
   .rename_i i J;split at H
    .rename_i z;unfold pA execOp;rw[j];simp only[n _ _ q,n _ _ N];rw[dB];unfold Instr.storeAt;rw[dB];show aW P (storeVar t a v) h _;unfold storeVar;rw[dB,FJ J];have e:v.cells.size=i.size:=by have:=bO z;simpa using this.symm
     simp only[e,en,not_true,aM];exact A2 _ _ _ _ H
    .exact H.elim
   .exact H.elim
  .exact H.elim
 .rename_i t m k x j;split at H
  .rename_i m k x w hk q;unfold pA execOp;rw[j];simp only[n _ _ w,n _ _ hk,n _ _ q];rw[dB];exact H
  .exact H.elim
 .rename_i t m k x j;split at H
  .rename_i m k x w hk q;unfold pA execOp;rw[j];simp only[n _ _ w,n _ _ hk,n _ _ q];rw[dB];exact H
  .exact H.elim
 .rename_i t l c j;split at H
  .rename_i l c L E;unfold pA execOp;rw[j];simp only[n _ _ L,n _ _ E];rw[dB];exact vc H
  .exact H.elim
 .rename_i s d x j;split at H
  .rename_i x q;unfold pA execOp;rw[j];simp only[n _ _ q];rw[dB];exact vc H
  .exact H.elim
 .rename_i b args T j;split at H
  .rename_i vs A;split at H
   .rename_i s B;unfold pA execOp;rw[j];simp only[resolve,tb n A];rw[dB,ya];simp only[invoke];cases b<;>simp only[x9]at B<;>first|cases B|skip
    all_goals (simp only[builtin];rw[dB];exact vc H)
   .exact H.elim
  .exact H.elim
 .rename_i f args T j;split at H
  .rename_i g first C vs I A;split at H
   .rename_i u;unfold pA execOp;rw[j];simp only[resolve,tb n A,n _ _ I,Deferred.ofValue];rw[dB,ya];simp only[invoke,callFunc];rw[dB];unfold oe at u;split at u
    .rename_i F G;simp only[aT,Bool.not_eq_true']at u;show aW P (match P.funcs[g]? with|none=>_|some F=>_) h _;rw[G];have z:F.body.isNone=false:=by cases M:F.body<;>simp[M]at u⊢
     simp only[u.2,z,au,aM];have e:(first++vs.toArray++C)=(first.toList++vs++C.toList).toArray:=by
      apply Array.ext'
      simp
     rw[e];exact H.mono λv h' hr=>x8 hr
    .cases u
   .exact H.elim
  .exact H.elim
 .rename_i t x j;split at H
  .rename_i x q;unfold pA execOp;rw[j];simp only[n _ _ q];rw[dB];exact jL _ _ (λv h' ⟨r,e,hr⟩=>by subst e;exact hr) H
  .exact H.elim
 .rename_i it b j;split at H
  .rename_i it q;unfold pA execOp;rw[j];simp only[n _ _ q];rw[dB];refine jL _ _ (λv h' hr=> ?_) H;rcases hr with⟨e,hr⟩|hr
   .subst e;exact hr
   .obtain⟨k,x,e,hr⟩:=hr;subst e;exact hr
  .exact H.elim
 .rename_i it j;split at H
  .rename_i it q;unfold pA execOp;rw[j];simp only[n _ _ q];rw[dB];refine jL _ _ (λv h' hr=> ?_) H;obtain⟨k,x,e,hr⟩:=hr;subst e;exact hr
  .exact H.elim
 .exact H.elim
end
section
variable {X Y:Type} {v:Value} {F:Value->Prop} {t n:Nat} {h:ai} {a b a0:Act} {xs:Array Value} {D:Option Nat} {W:List Nat} {O:Array Oper} {o:Oper} {P:Program} {w0:World}
def gp.T(X:Type):gp->Type
 | .int _=>Int->X
 | .bool=>Bool->X
 | .str=>ByteArray->X
 | .ptr=>cy->X
 | .slice=>cy->Nat->Nat->X
 | .map=>Option Nat->X
 | .raw=>Value->X
def qI(X:Type):List gp->Type
 | []=>X
 |l::ls=>l.T (qI X ls)
def Sh.T(X:Type):Sh->Type
 | .one l=>l.T X
 | .agg ls=>qI X ls
def r7(X:Type):List (Nat×Sh)->Type
 | []=>X
 |s::L=>s.2.T (r7 X L)
def gp.lam{X:Type}:(l:gp)->(Value->X)->l.T X
 | .int k,F=>λn:Int=>F (.int k n)
 | .bool,F=>λb:Bool=>F (.bool b)
 | .str,F=>λs:ByteArray=>F (.string s)
 | .ptr,F=>λp:cy=>F (.pointer p)
 | .slice,F=>λ(p:cy) (l c:Nat)=>F (.slice p l c)
 | .map,F=>λm:Option Nat=>F (.map m)
 | .raw,F=>λv:Value=>F v
def P9{X:Type}:(ls:List gp)->(List Value->X)->qI X ls
 | [],F=>F []
 |l::ls,F=>l.lam λv=>P9 ls λvs=>F (v::vs)
def Sh.lam{X:Type}:(s:Sh)->(Value->X)->s.T X
 | .one l,F=>l.lam F
 | .agg ls,F=>P9 ls λvs=>F (.agg vs.toArray)
def NZ{X:Type}:(L:List (Nat×Sh))->(Env->X)->Env->r7 X L
 | [],F,σ=>F σ
 |(t,s)::L,F,σ=>s.lam λv=>NZ L F (σ.set t v)
def gp.ap{X Y:Type}(d:Y):(l:gp)->l.T X->Value->(X->Y)->Y
 | .int k,f,.int k' n,K=>(match decide (k=k')with|true=>K (f n)|false=>d)
 | .bool,f,.bool b,K=>K (f b)
 | .str,f,.string s,K=>K (f s)
 | .ptr,f,.pointer p,K=>K (f p)
 | .slice,f,.slice p l c,K=>K (f p l c)
 | .map,f,.map m,K=>K (f m)
 | .raw,f,v,K=>K (f v)
 |_,_,_,_=>d
def Q9{X Y:Type}(d:Y):(ls:List gp)->qI X ls->List Value->(X->Y)->Y
 | [],f, [],K=>K f
 |l::ls,f,v::vs,K=>l.ap d f v λg=>Q9 d ls g vs K
 |_,_,_,_=>d
def Sh.ap{X Y:Type}(d:Y):(s:Sh)->s.T X->Value->(X->Y)->Y
 | .one l,f,v,K=>l.ap d f v K
 | .agg ls,f,.agg vs,K=>Q9 d ls f vs.toList K
 |_,_,_,_=>d
def mN{X Y:Type}(d:Y):(L:List (Nat×Sh))->r7 X L->Env->(X->Y)->Y
 | [],f,_,K=>K f
 |(t,s)::L,f,σ,K=>(match σ t with|some v=>s.ap d f v λg=>mN d L g σ K|none=>d)
def gp.all:gp->(Value->Prop)->Prop
 | .int k,F=> ∀n:Int,F (.int k n)
 | .bool,F=> ∀b:Bool,F (.bool b)
 | .str,F=> ∀s:ByteArray,F (.string s)
 | .ptr,F=> ∀p:cy,F (.pointer p)
 | .slice,F=> ∀(p:cy)(l c:Nat),F (.slice p l c)
 | .map,F=> ∀m:Option Nat,F (.map m)
 | .raw,F=> ∀v:Value,F v
def Qa:List gp->(List Value->Prop)->Prop
 | [],F=>F []
 |l::ls,F=>l.all λv=>Qa ls λvs=>F (v::vs)
def Sh.all:Sh->(Value->Prop)->Prop
 | .one l,F=>l.all F
 | .agg ls,F=>Qa ls λvs=>F (.agg vs.toArray)
def K6:List (Nat×Sh)->(Env->Prop)->Env->Prop
 | [],F,σ=>F σ
 |(t,s)::L,F,σ=>s.all λv=>K6 L F (σ.set t v)
theorem gp.K7{d:Y}{l:gp}{f:l.T X}{K:X->Y}:l.ap d f v K=d\/((∃g:X,l.ap d f v K=K g)/\∀(Z:Type)(F:Value->Z),∀(W:Type)(e:W)(J:Z->W),l.ap e (l.lam F) v J=J (F v)):=by
 cases l<;>cases v<;>first
  |exact .inl rfl
  |exact .inr ⟨⟨_,rfl⟩,λ_ _ _ _ _=>rfl⟩
  |skip
 rename_i k k' n;by_cases hk:k=k'
 .subst hk;refine .inr ⟨⟨f n,?_⟩,λZ F W e J=> ?_⟩<;>simp[gp.ap,gp.lam]
 .exact .inl (by simp[gp.ap,hk])
theorem gp.HF{l:gp}{f:l.T X}{K:X->Prop}(h:l.ap False f v K):
  (∃g:X,K g)/\(∀(Z W:Type)(F:Value->Z)(e:W)(J:Z->W),l.ap e (l.lam F) v J=J (F v)):=by
 rcases gp.K7 (d:=False) (l:=l) (f:=f) (v:=v) (K:=K)with H|⟨⟨g,H⟩,c⟩
 .rw[H]at h;exact h.elim
 .exact⟨⟨g,by rw[H]at h;exact h⟩,λZ W F e J=>c Z F W e J⟩
theorem gp.Cf{l:gp}(h:l.all F){f:l.T X}{K:X->Prop}(H:l.ap False f v K):F v:=by
 cases l<;>cases v<;>first
  |exact H.elim
  |exact h _
  |exact h _ _ _
  |skip
 rename_i k k' n;by_cases hk:k=k'
 .subst hk;exact h n
 .simp[gp.ap,hk]at H
theorem gp.Cg{l:gp}{F:Value->X}{K:X->Prop}(h:l.ap False (l.lam F) v K):K (F v):=by
 have:=(gp.HF h).2 X Prop F False K;rw[this]at h;exact h
variable {l:gp}
theorem HG : ∀{ls:List gp}{F:List Value->X}{vs:List Value}{K:X->Prop},Q9 False ls (P9 ls F) vs K->K (F vs)
 | [],_, [],_,h=>h
 | [],_,_::_,_,h=>h.elim
 |_::_,_, [],_,h=>h.elim
 |_::ls,F,v::vs,_,h=>HG (ls:=ls) (F:=λu=>F (v::u)) (vs:=vs) (gp.Cg h)
theorem Sh.Cg{s:Sh}{F:Value->X}{K:X->Prop}(h:s.ap False (s.lam F) v K):K (F v):=by
 cases s with
 |one l=>exact gp.Cg h
 |agg ls=>
  cases v<;>first|exact h.elim|skip
  rename_i cs;have:=HG (F:=λvs=>F (.agg vs.toArray)) h;simpa using this
theorem HI : ∀{ls:List gp}{F:List Value->Prop}{f:qI X ls}{vs:List Value}{K:X->Prop},Qa ls F->Q9 False ls f vs K->F vs
 | [],_,_, [],_,h,_=>h
 | [],_,_,_::_,_,_,h=>h.elim
 |_::_,_,_, [],_,_,h=>h.elim
 |l::ls,F,f,v::vs,K,h,H=>by
  obtain⟨⟨g,d⟩,_⟩:=gp.HF H;have c:=gp.Cf h H;exact HI (ls:=ls) (F:=λu=>F (v::u)) (vs:=vs) c d
theorem Sh.Cf{s:Sh}(h:s.all F){f:s.T X}{K:X->Prop}(H:s.ap False f v K):F v:=by
 cases s with
 |one l=>exact gp.Cf h H
 |agg ls=>
  cases v<;>first|exact H.elim|skip
  have:=HI h H;simpa using this
theorem DG : ∀{ls:List gp}{f:qI X ls}{vs:List Value}{K:X->Prop},Q9 False ls f vs K->∃g,K g
 | [],f, [],_,h=>⟨f,h⟩
 | [],_,_::_,_,h=>h.elim
 |_::_,_, [],_,h=>h.elim
 |_::_,_,_::_,_,h=>by
  obtain⟨⟨g,H⟩,_⟩:=gp.HF h;exact DG H
theorem Sh.HJ{s:Sh}{f:s.T X}{K:X->Prop}(h:s.ap False f v K): ∃g,K g:=by
 cases s with
 |one l=>exact(gp.HF h).1
 |agg ls=>cases v<;>first|exact h.elim|exact DG h
variable {s:Sh} {ty:List (Nat×Sh)}
def Sub(d e c:Env):Prop:= ∀t v,d t=some v->c t=some v\/e t=some v
theorem Env.rW(σ:Env)(d t:Nat)(v:Value):σ.set d v t=if t=d then some v else σ t:=by
 unfold Env.set;by_cases h:t=d
 .subst h;simp
 .have:Nat.beq t d=false:=by cases H:Nat.beq t d;rfl;exact absurd (bO H) h
  simp[this,h]
variable {K:Env->ai->Prop}
theorem Sub.set{d f c:Env}(H:c t=some v)(h:Sub d (f.set t v) c):Sub d f c:=λu x g=>by
 rcases h u x g with h1|h1
 .exact .inl h1
 .rw[Env.rW]at h1;split at h1
  .rename_i e;subst e;exact .inl (H.trans h1)
  .exact .inr h1
theorem yd{G:Env->ai->Prop}{e:Env}: ∀(L:List (Nat×Sh))(c:Env),mN False L (NZ (X:=ai->Prop) L G c) e (λf=>f h)->∃d,G d h/\Sub d c e
 | [],c,H=>⟨c,H,λ_ _ h=> .inr h⟩
 |(t,s)::L,c,H=>by
  simp only[mN]at H;split at H
  .rename_i v k;have g:=Sh.Cg H;obtain⟨d,i,j⟩:=yd L _ g;exact⟨d,i,j.set k⟩
  .exact H.elim
theorem xN{F : Env -> Prop}{m : Env}{K : X -> Prop}: ∀(L : List (Nat × Sh))(d : Env)(f : r7 X L), K6 L F d -> mN False L f m K ->
    ∃ c, F c /\ Sub c d m /\ ((∀ t s, (t, s) ∈ L -> c t = m t) /\ ∀ t, (∀ s, (t, s) ∉ L) -> c t = d t)
  | [], d, _, h, _ => ⟨d, h, λ_ _ h => .inr h, (λ_ _ h => by cases h), λ_ _ => rfl⟩
  | (t, s) :: L, d, f, h, H => by
    simp only [mN] at H
    split at H
    · rename_i v q
      have r := Sh.Cf h H
      obtain ⟨g, z⟩ := Sh.HJ H
      obtain ⟨c, w, x, y, p⟩ := xN L _ g r z
      refine ⟨c, w, x.set q, λu s' j => ?_, λu j => ?_⟩
      · by_cases i : ∃ S, (u, S) ∈ L
        · obtain ⟨S, i⟩ := i; exact y u S i
        · have A : u = t := by
            rcases bH.1 j with e | e
            · exact (Prod.mk.inj e).1
            · exact absurd ⟨s', e⟩ i
          subst A
          rw [p u (λS k => i ⟨S, k⟩), Env.rW, af rfl, q]
      · rw [p u (λs' k => j s' (bZ _ k)), Env.rW, ae]
        intro e; subst e; exact j s dh
    · exact H.elim
theorem mY{d:Y}{σ c:Env}{K:X->Y}: ∀(L:List (Nat×Sh))(f:r7 X L),(∀t s,(t,s)∈L->σ t=c t)->mN d L f σ K=mN d L f c K
 | [],_,_=>rfl
 |(t,s)::L,f,h=>by
  simp only[mN];rw[h t s dh];have:(λg=>mN d L g σ K)=(λg=>mN d L g c K):=funext λg=>mY L g (λt s H=>h t s (bZ _ H))
  rw[this]
theorem oj{σ : Env}{K : X -> Prop}: ∀(L : List (Nat × Sh))(f : r7 X L), mN False L f σ K -> ∀ t s, (t, s) ∈ L -> ∃ v, σ t = some v
  | [], _, _, _, _, h => by cases h
  | (t, s) :: L, f, h, u, s', c => by
    simp only [mN] at h
    split at h
    · rename_i v d
      rcases bH.1 c with e | e
      · exact ⟨v, by rw [(Prod.mk.inj e).1]; exact d⟩
      · obtain ⟨g, H⟩ := Sh.HJ h
        exact oj L g H u s' e
    · exact h.elim
structure Rel (n:Nat) (σ:Env) (a:Act):Prop where
 defers:a.defers= []
 size:a.tmps.size=n
 at_: ∀t v,σ t=some v->a.tmps.getD t undef=v
theorem Rel.fits{σ:Env}(h:Rel n σ a):Fits σ a.eval:=by
 intro x v H;cases x with
 |tmp t=>exact h.at_ t v H
 |const c=>simpa[Env.ev,Act.eval]using H
 |global g=>simpa[Env.ev,Act.eval]using H
 |func f=>simpa[Env.ev,Act.eval]using H
def im(n:Nat)(σ:Env)(D:Option Nat)(v:Value)(K:Env->Prop):Prop:=
 match D with
 |none=>K σ
 |some d=>(match Nat.blt d n with|true=>K (σ.set d v)|false=>False)
theorem K8{d:Nat}(hd:d<xs.size):(xs.setIfInBounds d v).getD t undef=if t=d then v else xs.getD t undef:=by
 by_cases h:t=d
 .subst h;simp[hd]
 .simp[h,fo h]
theorem iB{σ:Env}{K:Env->Prop}(H:Rel n σ a)(h:im n σ D v K): ∃f,Rel n f (a.put D v)/\K f:=by
 unfold im at h;split at h
 .exact⟨σ,H,h⟩
 .rename_i d;split at h
  .rename_i hd;have hd:d<a.tmps.size:=by rw[H.size];exact(Nat.blt_eq▸hd)
   refine⟨_,⟨H.defers,by simp[Act.put,H.size],λt u c=> ?_⟩,h⟩;simp only[Act.put];rw[K8 hd];rw[Env.rW]at c;split
   .rename_i e;rw[af e]at c;exact aX c
   .rename_i e;rw[ae e]at c;exact H.at_ t u c
  .exact h.elim
def fk(W:List Nat)(a A:Act):Prop:= ∀t,t∉W->A.tmps.getD t undef=a.tmps.getD t undef
theorem fk.refl(W:List Nat)(a:Act):fk W a a:=λ_ _=>rfl
theorem fk.trans{c:Act}(h:fk W a b)(h':fk W b c):fk W a c:=λt H=>(h' t H).trans (h t H)
theorem fk.mono{w:List Nat}(h:fk W a b)(d: ∀t,t∈W->t∈w):fk w a b:=λt c=>h t (λH=>c (d t H))
theorem fk.put(h: ∀d,D=some d->d∈W):fk W a (a.put D v):=by
 intro t c;cases D with
 |none=>rfl
 |some d=>
  have H:t≠d:=λe=>c (e▸h d rfl)
  simp[Act.put,fo H]
def iP(O : Array Oper)(o : Oper)(σ : Env)(r skip : Env -> Prop): Prop :=
  match o.guard with
  | none => r σ
  | some (j, j9) => (match (O[j]?).bind (·.dst) with
    | some g => (match σ g with
      | some (.bool b) => if b = true then (match j9 with | true => r (σ.set g (.bool true)) | false => skip (σ.set g (.bool true)))
          else (match j9 with | true => skip (σ.set g (.bool false)) | false => r (σ.set g (.bool false)))
      | some (.tuple _) => skip σ
      | _ => False)
    | none => False)
theorem getD_some(h:xs.getD t undef=v)(c:v≠undef):xs[t]? =some v:=by
 rw[eS]at h;cases H:xs[t]? with
 |none=>rw[H]at h;exact absurd h.symm c
 |some u=>rw[H]at h;exact bU some h
theorem jj{σ:Env}{r skip:Env->Prop}(d:Rel n σ a)(h:iP O o σ r skip):
  (Region.wanted o (yielded O a.tmps)=true/\∃i,Rel n i a/\r i)\/(Region.wanted o (yielded O a.tmps)=false/\∃i,Rel n i a/\skip i):=by
 unfold iP at h;split at h
 .rename_i c;exact .inl ⟨by simp[Region.wanted,c],σ,d,h⟩
 .rename_i j j9 c;split at h
  .rename_i g p;split at h
   .rename_i b q;have H:=d.at_ g _ q;have z:=getD_some H (by unfold undef;intro e;cases e);have f:yielded O a.tmps j=some b:=by simp[yielded,p,z]
    have mX:Rel n (σ.set g (.bool b)) a:=⟨d.defers,d.size,λt u k=>by
     rw[Env.rW]at k;split at k
     .rename_i e;subst e;rw[H];exact aX k
     .exact d.at_ t u k⟩
    split at h
    .rename_i w;subst w;split at h
     .exact .inl ⟨by simp[Region.wanted,c,f],_,mX,h⟩
     .exact .inr ⟨by simp[Region.wanted,c,f],_,mX,h⟩
    .rename_i m;have m:b=false:=by simpa using m
     subst m;split at h
     .exact .inr ⟨by simp[Region.wanted,c,f],_,mX,h⟩
     .exact .inl ⟨by simp[Region.wanted,c,f],_,mX,h⟩
   .rename_i x A;have H:=d.at_ g _ A;have f:yielded O a.tmps j=none:=by
     simp only[yielded,p,Option.bind_some];rw[eS]at H;cases y:a.tmps[g]? with
     |none=>rfl
     |some u=>rw[y]at H;simp at H;subst H;rfl
    exact .inr ⟨by simp[Region.wanted,c,f],σ,d,h⟩
   .exact h.elim
  .exact h.elim
def wx(P:Program)(o:Oper)(σ:Env)(h:ai)(K:fp):Prop:=
 match kQ P o with
 |true=>my P o σ h λv _=>K v h
 |false=>oh P o σ h K
theorem mZ{σ:Env}{d:Operand->Value}{K:fp}(c:Fits σ d)(H:wx P o σ h K):pA P o d h K:=by
 unfold wx at H;split at H
 .obtain⟨v,S,e,f,g⟩:=oi c H;exact K2 _ _ _ (g h f) _ e
 .exact vd c H
def ye(P:Program)(n:Nat)(O:Array Oper):List Oper->Env->ai->(Env->ai->Prop)->Prop
 | [],σ,h,K=>K σ h
 |o::rest,σ,h,K=>iP O o σ
   (λσ=>wx P o σ h λv h'=>im n σ o.dst v λc=>ye P n O rest c h' K)
   (λσ=>im n σ o.dst undef λc=>ye P n O rest c h K)
def cE(O:Array Oper):List Nat:=O.toList.filterMap (·.dst)
theorem eu{i:Nat}(H:O[i]? =some o): ∀d,o.dst=some d->d∈cE O:=λd hd=>by
 unfold cE;rw[List.mem_filterMap];exact⟨o,by simpa using Array.mem_of_getElem? H,hd⟩
def w9(n:Nat)(a0:Act)(w0:World)(W:List Nat)(K:Env->ai->Prop):Exit->Act->World->Prop:=
 λe a w=>e=.normal/\∃σ,Rel n σ a/\K σ w.heap/\fw w0 w/\fk W a0 a
theorem ve : ∀(rest:List Oper)(k:Nat)(σ:Env)(a:Act)(w:World),
  (∀j,rest[j]? =O[k+j]?)->Rel n σ a->fw w0 w->fk (cE O) a0 a->ye P n O rest σ w.heap K->wpOps P O (w9 n a0 w0 (cE O) K) (List.range' k rest.length) a w
 | [],k,σ,a,w,_,g,c,d,h=>⟨rfl,σ,g,h,c,d⟩
 |o::rest,k,σ,a,w,q,g,c,d,h=>by
  have e:O[k]? =some o:=by have:=q 0;simpa using this.symm
  have r: ∀j,rest[j]? =O[k+1+j]? :=λj=>by have:=q (j+1);simpa[Nat.add_assoc,Nat.add_comm 1 j]using this
  simp only[bf,List.range'_succ,wpOps,e];simp only[ye]at h;rcases jj g h with⟨m,x,H,h⟩|⟨m,x,H,h⟩
  .rw[af m];refine .inl ((mZ H.fits h).wp ?_);intro v w' hk u;obtain⟨p,i,f⟩:=iB H hk;exact ve rest (k+1) p _ w' r i (c.trans u) (d.trans (fk.put (eu e))) f
  .rw[ae (by rw[m];simp)];obtain⟨p,i,f⟩:=iB H h;exact ve rest (k+1) p _ w r i c (d.trans (fk.put (eu e))) f
def K9:List (Nat×Sh)->Nat->Option Sh
 | [],_=>none
 |(t,s)::L,d=>(match Nat.beq t d with|true=>some s|false=>K9 L d)
def DH(ty:List (Nat×Sh))(D:Option Nat)(v:Value)(F:Value->Prop):Prop:=
 match D with
 |none=>F v
 |some d=>(match K9 ty d with|some s=>s.ex λV=>v=V/\F V|none=>F v)
theorem pF(h:DH ty D v F):F v:=by
 unfold DH at h;split at h
 .exact h
 .split at h
  .obtain⟨V,e,h⟩:=Sh.lD h;subst e;exact h
  .exact h
def tc(P:Program)(n:Nat)(O:Array Oper)(ty:List (Nat×Sh)):List Oper->Env->ai->(Env->ai->Prop)->Prop
 | [],σ,h,K=>K σ h
 |o::rest,σ,h,K=>iP O o σ
   (λσ=>wx P o σ h λv h'=>DH ty o.dst v λv=>im n σ o.dst v λc=>tc P n O ty rest c h' K)
   (λσ=>im n σ o.dst undef λc=>tc P n O ty rest c h K)
theorem r8 : ∀(rest:List Oper)(k:Nat)(σ:Env)(a:Act)(w:World),
  (∀j,rest[j]? =O[k+j]?)->Rel n σ a->fw w0 w->fk (cE O) a0 a->tc P n O ty rest σ w.heap K->wpOps P O (w9 n a0 w0 (cE O) K) (List.range' k rest.length) a w
 | [],k,σ,a,w,_,g,c,d,h=>⟨rfl,σ,g,h,c,d⟩
 |o::rest,k,σ,a,w,q,g,c,d,h=>by
  have e:O[k]? =some o:=by have:=q 0;simpa using this.symm
  have r: ∀j,rest[j]? =O[k+1+j]? :=λj=>by have:=q (j+1);simpa[Nat.add_assoc,Nat.add_comm 1 j]using this
  simp only[bf,List.range'_succ,wpOps,e];simp only[tc]at h;rcases jj g h with⟨m,x,H,h⟩|⟨m,x,H,h⟩
  .rw[af m];refine .inl ((mZ H.fits h).wp ?_);intro v w' hk u;obtain⟨p,i,f⟩:=iB H (pF hk);exact r8 rest (k+1) p _ w' r i (c.trans u) (d.trans (fk.put (eu e))) f
  .rw[ae (by rw[m];simp)];obtain⟨p,i,f⟩:=iB H h;exact r8 rest (k+1) p _ w r i c (d.trans (fk.put (eu e))) f

end
def waits(o:Oper)(i:Nat):Bool:=o.after.toList.any λe=>Region.binds .any e && Nat.beq e.on i
def fD(o:Oper)(G:List (Nat×(ai->Prop))):List (Nat×(ai->Prop)):=G.filter λg=> !waits o g.1
theorem iN{o:Oper}{G:List (Nat×(ai->Prop))}{g:Nat×(ai->Prop)}(h:g∈fD o G):g∈G:=(ba.1 h).1
def gW(P:Program)(O:Array Oper)(Q:Exit->Act->World->Prop):Nat->List (Nat×(ai->Prop))->Array Bool->Act->World->Prop
 |0,_,l,a,w=>Region.ready .any O l= []/\Q .normal a w
 |fuel+1,G,l,a,w=>
  (Region.ready .any O l= []->Q .normal a w)/\
  ∀j∈Region.ready .any O l,∀o,O[j]? =some o->wpOp P O Q j (λA w'=>(∀g∈fD o G,g.2 w'.heap)/\gW P O Q fuel (fD o G) (l.setIfInBounds j true) A w') a w
section
variable {P : Program} {O : Array Oper} {Q : Exit → Act → World → Prop}
theorem om: ∀(fuel:Nat)(G:List (Nat×(ai->Prop)))(l:Array Bool)(a:Act)(w:World),gW P O Q fuel G l a w->wpAny P .any O Q fuel l a w
 |0,_,_,_,_,h=>h
 |fuel+1,G,l,a,w,h=>⟨h.1,λi H=>by
   obtain⟨_,o,b,_⟩:=mem_ready.1 H;exact wpOp_mono (λA w' h'=>om fuel _ _ A w' h'.2) (h.2 i H o b)⟩
theorem kg: ∀(fuel:Nat)(G b:List (Nat×(ai->Prop)))(l:Array Bool)(a:Act)(w:World),(∀g∈b,g∈G)->gW P O Q fuel G l a w->gW P O Q fuel b l a w
 |0,_,_,_,_,_,_,h=>h
 |fuel+1,G,b,l,a,w,e,h=>⟨h.1,λi c o d=>by
   have hk: ∀g∈fD o b,g∈fD o G:=λg H=>ba.2 ⟨e g (iN H),(ba.1 H).2⟩
   exact wpOp_mono (λA w' h'=>⟨λg H=>h'.1 g (hk g H),kg fuel _ _ _ A w' hk h'.2⟩) (h.2 i c o d)⟩
theorem mA(i:Nat): ∀(fuel:Nat)(G:List (Nat×(ai->Prop)))(l:Array Bool)(a:Act)(w:World),gW P O Q fuel G l a w->gW P O Q fuel ((i,λ_=>True)::G) l a w
 |0,_,_,_,_,h=>h
 |fuel+1,G,l,a,w,h=>⟨h.1,λj d o f=>by
   refine wpOp_mono (λA w' h'=>⟨λg c=> ?_,?_⟩) (h.2 j d o f)
   .obtain⟨H,b⟩:=ba.1 c;rcases bH.1 H with e|e
    .rw[e];trivial
    .exact h'.1 g (ba.2 ⟨e,b⟩)
   .have:=mA i fuel _ _ A w' h'.2;refine kg fuel _ _ _ A w' (λg c=> ?_) this;obtain⟨H,b⟩:=ba.1 c;rcases bH.1 H with e|e
    .rw[e];exact dh
    .exact bZ _ (ba.2 ⟨e,b⟩)⟩
theorem DI{o:Oper}{i:Nat}(h: ∀e∈o.after,Region.binds .any e=true->e.on≠i):waits o i=false:=by
 unfold waits;rw[List.any_eq_false];intro e a;simp only[aT,not_and];intro H b;exact h e (by simpa using a) H (bO b)
theorem oq{i:Nat}{q:Oper}{v:Value}{S:ai->Prop}(z:O[i]? =some q)(J: ∀(j:Nat) (o:Oper) cs b,O[j]? =some o->o.op≠ .select cs b)(R: ∀c a w,Q (.panic c) (a.put q.dst v) w->Q (.panic c) a w):
  ∀(F:Nat)(G:List (Nat×(ai->Prop)))(l:Array Bool)(a:Act)(w:World),
   (∀j d,O[j]? =some d->j≠i->l.getD j true=false->(∀e∈d.after,Region.binds .any e=true->e.on≠i)->q.apart O d=true)->
   i∈Region.ready .any O l->YieldsIf P O (λw=>S w.heap) q v a->S w.heap->(∀g∈G,g.2 w.heap)->
   gW P O Q F ((i,S)::G) (l.setIfInBounds i true) (a.put q.dst v) w->gW P O Q (F+1) G l a w:=by
 intro F;induction F with
 |zero=>
  intro G l a w _ p t x u H;refine⟨λh=>(by rw[h]at p;cases p),λj s o A=> ?_⟩;by_cases n:j=i
  .subst n;exact t.wpOp z x ⟨λg f=>u g (iN f),H⟩
  .have:=ready_mono s n;rw[H.1]at this;cases this
 |succ F ih=>
  intro G l a w C p t x u H;refine⟨λh=>(by rw[h]at p;cases p),λj s o A=> ?_⟩;by_cases n:j=i
  .subst n;refine t.wpOp z x ⟨λg f=>u g (iN f),kg _ _ _ _ _ _ (λg f=>bZ _ (iN f)) H⟩
  .have m:=H.2 j (ready_mono s n) o A;obtain⟨E,d,r,T⟩:=mem_ready.1 s;obtain rfl:d=o:=by rw[A]at r;exact(aX r).symm
   have I: ∀e∈d.after,Region.binds .any e=true->e.on≠i:=λe V U W=>by
    have m:=T e V U;have B:=(mem_ready.1 p).1;rw[W]at m;rcases Nat.lt_or_ge i l.size with h'|h'
    .simp[h']at B m;rw[B]at m;cases m
    .simp[Array.getElem?_eq_none h']at m
   have Y:fD d ((i,S)::G)=(i,S)::fD d G:=by
    unfold fD;rw[ch,af];simp[DI I]
   rw[Y]at m;have M:=wpOp_putIf r (C j d r n E I) (λcs b=>J i q cs b z) (λcs b=>J j d cs b r) R t m;have X: ∀k ok,O[k]? =some ok->k≠i->(l.setIfInBounds j true).getD k true=false->
     (∀e∈ok.after,Region.binds .any e=true->e.on≠i)->q.apart O ok=true:=λk ok hk Z K a'=>by
    refine C k ok hk Z ?_ a';by_cases D:j=k
    .subst D;exact E
    .rw[getD_set_ne true D]at K;exact K
   refine wpOp_mono (λL w' N=> ?_) M;obtain⟨c',y,b'⟩:=N;refine⟨λg f=>y g (bZ _ f),?_⟩;refine ih (fD d G) (l.setIfInBounds j true) L w' X (ready_mono p (fo n)) c' (y _ dh) (λg f=>y g (bZ _ f)) ?_;rw[Array.setIfInBounds_comm _ _ n];exact b'
end
inductive pc where
 |done
 |op (i:Nat) (p:pc)
 |alts (q:pc)
 |fork (i:Nat) (p q:pc)
 |gX
def qX:pc->Nat->Bool
 | .done,n=>Nat.beq n 0
 | .op _ p,n+1=>qX p n
 | .alts q,n+1=>qX q (n+1)
 | .fork _ p q,n+1=>qX p n && qX q (n+1)
 | .gX,_=>true
 |_,_=>false
def ig(P:Program)(O:Array Oper):pc->Option (List Nat)->Array Bool->Bool
 | .done,none,l=>(Region.ready .any O l).isEmpty
 | .op i rest,none,l=>
  (match O[i]? with
   |some o=>(match kQ P o with
    |true=>(Region.ready .any O l).contains i && Region.free .any O l i
    |false=>(match Region.ready .any O l with| [j]=>Nat.beq i j|_=>false))
   |none=>false) && ig P O rest none (l.setIfInBounds i true)
 | .alts q,none,l=>(match Region.ready .any O l with| []=>false|j::J=>ig P O q (some (j::J)) l)
 | .fork i p q,some R,l=>(match O[i]? with
   |some o=> !kQ P o
   |none=>false) && ig P O p none (l.setIfInBounds i true) && ig P O q (some (R.filter λj=> !Nat.beq i j)) l
 | .gX,some R,_=>R.isEmpty
 |_,_,_=>false
def pG(h:ai)(K:Prop):List (Nat×(ai->Prop))->Prop
 | []=>K
 |g::G=>g.2 h/\pG h K G
theorem te{h:ai}{K:Prop}: ∀{G:List (Nat×(ai->Prop))},pG h K G->(∀g∈G,g.2 h)/\K
 | [],H=>⟨(λ_ a=>by cases a),H⟩
 |_::_,H=>by
  obtain⟨b,c⟩:=te H.2;refine⟨λd a=> ?_,c⟩;rcases bH.1 a with e|e
  .rw[e];exact H.1
  .exact b _ e
def tf(i:Nat)(S:Option (ai->Prop))(G:List (Nat×(ai->Prop))):List (Nat×(ai->Prop)):=
 match S with
 |some S=>(i,S)::G
 |none=>G
def iq(P:Program)(n:Nat)(O:Array Oper):pc->List (Nat×(ai->Prop))->Env->ai->(Env->ai->Prop)->Prop
 | .done,_,σ,h,K=>K σ h
 | .op i rest,G,σ,h,K=>(match O[i]? with
  |some o=>iP O o σ
    (λσ=>(match kQ P o with
     |true=>my P o σ h λv S=>im n σ o.dst v λa=>iq P n O rest (tf i S G) a h K
     |false=>oh P o σ h λv h'=>pG h' (im n σ o.dst v λa=>iq P n O rest (fD o G) a h' K) (fD o G)))
    (λσ=>im n σ o.dst undef λa=>iq P n O rest G a h K)
  |none=>False)
 | .alts q,G,σ,h,K=>iq P n O q G σ h K
 | .fork i rest q,G,σ,h,K=>(match O[i]? with
  |some o=>iP O o σ
    (λσ=>oh P o σ h λv h'=>pG h' (im n σ o.dst v λa=>iq P n O rest (fD o G) a h' K) (fD o G))
    (λσ=>im n σ o.dst undef λa=>iq P n O rest G a h K)
  |none=>False)/\iq P n O q G σ h K
 | .gX,_,_,_,_=>True
theorem yf{P:Program}{n:Nat}{O:Array Oper}{K:Env->ai->Prop}{a0:Act}{w0:World}{rest:pc}{i m:Nat}{o:Oper}{L:Array Bool}{G:List (Nat×(ai->Prop))}{σ:Env}{a:Act}{w:World}(I: ∀G σ a w,Rel n σ a->fw w0 w->fk (cE O) a0 a->(∀g∈G,g.2 w.heap)->iq P n O rest G σ w.heap K->gW P O (w9 n a0 w0 (cE O) K) m G (L.setIfInBounds i true) a w)(H:O[i]? =some o)(t:Rel n σ a)(q:fw w0 w)(r:fk (cE O) a0 a)(p: ∀g∈G,g.2 w.heap)(h:iP O o σ (λσ=>oh P o σ w.heap λv h'=>pG h' (im n σ o.dst v λb=>iq P n O rest (fD o G) b h' K) (fD o G)) (λσ=>im n σ o.dst undef λb=>iq P n O rest G b w.heap K)):
  wpOp P O (w9 n a0 w0 (cE O) K) i (λA w'=>(∀g∈fD o G,g.2 w'.heap)/\gW P O (w9 n a0 w0 (cE O) K) m (fD o G) (L.setIfInBounds i true) A w') a w:=by
 rcases jj t h with⟨j,b,c,h⟩|⟨j,b,c,x⟩
 .unfold wpOp;simp only[H,j,bj];refine .inl ((vd c.fits h).wp ?_);intro v w' hk u;obtain⟨l,s⟩:=te hk;obtain⟨k,f,d⟩:=iB c s;exact⟨l,I _ k _ w' f (q.trans u) (r.trans (fk.put (eu H))) l d⟩
 .unfold wpOp;simp only[H,j,au,aM];obtain⟨k,f,d⟩:=iB c x;have I:=I G k _ w f q (r.trans (fk.put (eu H))) p d;exact⟨λg e=>p g (iN e),kg _ _ _ _ _ _ (λg e=>iN e) I⟩
theorem Ch{P:Program}{n:Nat}{O:Array Oper}{K:Env->ai->Prop}{a0:Act}{w0:World}(a':Region.noSelect O=true)(iC:pc):
  (∀(m:Nat)(l:Array Bool)(G:List (Nat×(ai->Prop)))(σ:Env)(a:Act)(w:World),qX iC m=true->
   ig P O iC none l=true->Rel n σ a->fw w0 w->fk (cE O) a0 a->(∀g∈G,g.2 w.heap)->iq P n O iC G σ w.heap K->
   gW P O (w9 n a0 w0 (cE O) K) m G l a w)/\
  (∀(m:Nat)(R:List Nat)(l:Array Bool)(G:List (Nat×(ai->Prop)))(σ:Env)(a:Act)(w:World),qX iC (m+1)=true->
   ig P O iC (some R) l=true->Rel n σ a->fw w0 w->fk (cE O) a0 a->(∀g∈G,g.2 w.heap)->iq P n O iC G σ w.heap K->
   ∀j∈R,∀o,O[j]? =some o->wpOp P O (w9 n a0 w0 (cE O) K) j (λQ w'=>(∀g∈fD o G,g.2 w'.heap)/\gW P O (w9 n a0 w0 (cE O) K) m (fD o G) (l.setIfInBounds j true) Q w') a w):=by
 induction iC with
 |done=>
  refine⟨λm l G σ a w b H f k p d h=> ?_,λm R l G σ a w b H=>by cases H⟩;obtain rfl:m=0:=bO b;simp only[ig,List.isEmpty_iff]at H;exact⟨H,rfl,σ,f,h,k,p⟩
 |gX=>
  refine⟨λm l G σ a w b H=>(by cases H),λm R l G σ a w b H f k p d h j t=> ?_⟩;simp only[ig,List.isEmpty_iff]at H;subst H;cases t
 |alts q I=>
  refine⟨λm l G σ a w b H f k p d h=> ?_,λm R l G σ a w b H=>by cases H⟩;cases m with
  |zero=>cases b
  |succ m=>
   simp only[ig]at H;split at H
   .cases H
   .rename_i j js z;refine⟨(λe=>by rw[z]at e;cases e),λj' L o r=> ?_⟩;rw[z]at L;exact I.2 m _ l G σ a w b H f k p d h j' L o r
 |fork i rest q c' d'=>
  refine⟨λm l G σ a w b H=>(by cases H),λm R l G σ a w b H f k p d h j t o r=> ?_⟩;simp only[ig,aT]at H;obtain⟨⟨s,B⟩,Z⟩:=H;simp only[qX,aT]at b;simp only[iq]at h;by_cases M:i=j
  .subst M;have h:=h.1;rw[r]at h;exact yf (λG σ a w f k p d h=>c'.1 m _ G σ a w b.1 B f k p d h) r f k p d h
  .refine d'.2 m _ l G σ a w b.2 Z f k p d h.2 j (ba.2 ⟨t,?_⟩) o r;have:Nat.beq i j=false:=by cases Y:Nat.beq i j;rfl;exact absurd (bO Y) M
   simp[this]
 |op i rest I=>
  refine⟨λm l G σ a w b H f k p d h=> ?_,λm R l G σ a w b H=>by cases H⟩;cases m with
  |zero=>cases b
  |succ m=>
   simp only[ig,aT]at H;obtain⟨s,B⟩:=H;simp only[iq]at h;split at h
   .rename_i o r;simp only[r]at s;have X: ∀v,∀c a w,w9 n a0 w0 (cE O) K (.panic c) (a.put o.dst v) w->w9 n a0 w0 (cE O) K (.panic c) a w:=λv c a w hq=>by cases hq.1
    have take: ∀(v:Value)(S:Option (ai->Prop))(y:Env),kQ P o=true->Rel n y (a.put o.dst v)->YieldsIf P O (λw=>sY S w.heap) o v a->sY S w.heap->
      iq P n O rest (tf i S G) y w.heap K->gW P O (w9 n a0 w0 (cE O) K) (m+1) G l a w:=λv S y x u hy A hd=>by
     rw[x]at s;simp only[aT]at s;have W: ∀g∈tf i S G,g.2 w.heap:=by
      intro g J;cases S with
      |none=>exact d g J
      |some S=>
       rcases bH.1 J with e|e
       .rw[e];exact A
       .exact d g e
     have I:=I.1 m _ (tf i S G) y (a.put o.dst v) w b B u k (p.trans (fk.put (eu r))) W hd;refine oq (S:=sY S) r (Region.noSelect_spec a') (X v) m G l a w (Region.free_spec r s.2) (by simpa using s.1) hy A d ?_;cases S with
     |none=>exact mA i _ _ _ _ _ I
     |some S=>exact I
    cases x:kQ P o with
    |true=>
     rcases jj f h with⟨E,y,u,h⟩|⟨E,y,u,b'⟩
     .rw[x]at h;obtain⟨v,S,T,U,V⟩:=oi u.fits h;obtain⟨F,D,C⟩:=iB u T;exact take v S F x D (.inl ⟨E,λw' A=>pz _ _ _ (V _ A)⟩) U C
     .obtain⟨F,D,C⟩:=iB u b';exact take undef none F x D (.inr ⟨E,rfl⟩) trivial C
    |false=>
     rw[x]at s h;simp only at s h;have z:Region.ready .any O l= [i]:=by
      split at s
      .rename_i j t;rw[t,bO s]
      .cases s
     refine⟨(λe=>by rw[z]at e;cases e),λj t o' N=> ?_⟩;rw[z]at t;obtain rfl:j=i:=by simpa using t
     obtain rfl:o'=o:=by rw[r]at N;exact(aX N).symm
     exact yf (λG σ a w f k p d h=>I.1 m _ G σ a w b B f k p d h) r f k p d h
   .exact h.elim
def fC:Nat->Nat->pc->pc
 |0,_,p=>p
 |k+1,i,p=> .op i (fC k (i+1) p)
def rT(o:Oper)(B:List (Nat×cy)):List (Nat×cy):=B.filter λg=> !waits o g.1
def SA(h h':ai)(K:Prop):List (Nat×cy)->Prop
 | []=>K
 |B=>Kp h h' (B.map (·.2))/\K
theorem Qb{h h':ai}{K:Prop}{B:List (Nat×cy)}(H:SA h h' K B):(∀g∈B,kB g.2 h h')/\K:=by
 cases B with
 |nil=>exact⟨(λ_ c=>by cases c),H⟩
 |cons b B=>exact⟨λg a=>H.1 g.2 (bh.2 ⟨g,a,rfl⟩),H.2⟩
def gB(P:Program)(n:Nat)(O:Array Oper):pc->List (Nat×(ai->Prop))->List (Nat×cy)->Env->ai->(Env->ai->Prop)->Prop
 | .done,_,_,σ,h,K=>K σ h
 | .op i rest,G,B,σ,h,K=>(match O[i]? with
  |some o=>iP O o σ
    (λσ=>(match kQ P o with
     |true=>my P o σ h λv S=>im n σ o.dst v λa=>(match Ca σ o with
      |some p=>gB P n O rest G ((i,p)::B) a h K
      |none=>gB P n O rest (tf i S G) B a h K)
     |false=>oh P o σ h λv h'=>pG h' (SA h h' (im n σ o.dst v λa=>gB P n O rest (fD o G) (rT o B) a h' K) (rT o B)) (fD o G)))
    (λσ=>im n σ o.dst undef λa=>gB P n O rest G B a h K)
  |none=>False)
 | .alts q,G,B,σ,h,K=>gB P n O q G B σ h K
 | .fork i rest q,G,B,σ,h,K=>(match O[i]? with
  |some o=>iP O o σ
    (λσ=>oh P o σ h λv h'=>pG h' (SA h h' (im n σ o.dst v λa=>gB P n O rest (fD o G) (rT o B) a h' K) (rT o B)) (fD o G))
    (λσ=>im n σ o.dst undef λa=>gB P n O rest G B a h K)
  |none=>False)/\gB P n O q G B σ h K
 | .gX,_,_,_,_,_=>True
def GB(F G:List (Nat×(ai->Prop)))(B:List (Nat×cy))(h:ai):Prop:= ∀f∈F,f∈G\/∃p,(f.1,p)∈B/\∀h',kB p h h'->f.2 h'
theorem GB.step{F G:List (Nat×(ai->Prop))}{B:List (Nat×cy)}{h h':ai}{o:Oper}(H:GB F G B h)(j: ∀g∈fD o G,g.2 h')(k: ∀g∈rT o B,kB g.2 h h'):(∀f∈fD o F,f.2 h')/\GB (fD o F) (fD o G) (rT o B) h':=by
 have key: ∀f∈fD o F,f.2 h'/\(f∈fD o G\/∃p,(f.1,p)∈rT o B/\∀c,kB p h' c->f.2 c):=λf b=>by
  obtain⟨l,d⟩:=ba.1 b;rcases H f l with a|⟨p,m,hk⟩
  .have:f∈fD o G:=ba.2 ⟨a,d⟩;exact⟨j f this,.inl this⟩
  .have e:(f.1,p)∈rT o B:=ba.2 ⟨m,d⟩;have i:=k _ e;exact⟨hk _ i,.inr ⟨p,e,λc q=>hk _ (kB.trans i q)⟩⟩
 exact⟨λf b=>(key f b).1,λf b=>(key f b).2⟩
theorem wy{P:Program}{n:Nat}{O:Array Oper}{K:Env->ai->Prop}{a0:Act}{w0:World}{rest:pc}{i m:Nat}{o:Oper}{L:Array Bool}{F G:List (Nat×(ai->Prop))}{B:List (Nat×cy)}{σ:Env}{a:Act}{w:World}(I: ∀F G B σ a w,Rel n σ a->fw w0 w->fk (cE O) a0 a->(∀g∈F,g.2 w.heap)->GB F G B w.heap->gB P n O rest G B σ w.heap K->gW P O (w9 n a0 w0 (cE O) K) m F (L.setIfInBounds i true) a w)(c:O[i]? =some o)(u:Rel n σ a)(r:fw w0 w)(s:fk (cE O) a0 a)(p: ∀g∈F,g.2 w.heap)(q:GB F G B w.heap)(h:iP O o σ (λσ=>oh P o σ w.heap λv h'=>pG h' (SA w.heap h' (im n σ o.dst v λb=>gB P n O rest (fD o G) (rT o B) b h' K) (rT o B)) (fD o G)) (λσ=>im n σ o.dst undef λb=>gB P n O rest G B b w.heap K)):
  wpOp P O (w9 n a0 w0 (cE O) K) i (λA w'=>(∀g∈fD o F,g.2 w'.heap)/\gW P O (w9 n a0 w0 (cE O) K) m (fD o F) (L.setIfInBounds i true) A w') a w:=by
 rcases jj u h with⟨k,b,d,h⟩|⟨k,b,d,y⟩
 .unfold wpOp;simp only[c,k,bj];refine .inl ((vd d.fits h).wp ?_);intro v w' hk x;obtain⟨t,e⟩:=te hk;obtain⟨e,H⟩:=Qb e;obtain⟨l,j,H⟩:=iB d H;obtain⟨q1,q2⟩:=q.step t e;exact⟨q1,I _ _ _ l _ w' j (r.trans x) (s.trans (fk.put (eu c))) q1 q2 H⟩
 .unfold wpOp;simp only[c,k,au,aM];obtain⟨l,j,H⟩:=iB d y;have I:=I F G B l _ w j r (s.trans (fk.put (eu c))) p q H;exact⟨λg f=>p g (iN f),kg _ _ _ _ _ _ (λg f=>iN f) I⟩
theorem Am{P:Program}{n:Nat}{O:Array Oper}{K:Env->ai->Prop}{a0:Act}{w0:World}(i':Region.noSelect O=true)(iC:pc):
  (∀(m:Nat)(l:Array Bool)(F G:List (Nat×(ai->Prop)))(B:List (Nat×cy))(σ:Env)(a:Act)(w:World),qX iC m=true->
   ig P O iC none l=true->Rel n σ a->fw w0 w->fk (cE O) a0 a->(∀g∈F,g.2 w.heap)->GB F G B w.heap->gB P n O iC G B σ w.heap K->
   gW P O (w9 n a0 w0 (cE O) K) m F l a w)/\
  (∀(m:Nat)(R:List Nat)(l:Array Bool)(F G:List (Nat×(ai->Prop)))(B:List (Nat×cy))(σ:Env)(a:Act)(w:World),qX iC (m+1)=true->
   ig P O iC (some R) l=true->Rel n σ a->fw w0 w->fk (cE O) a0 a->(∀g∈F,g.2 w.heap)->GB F G B w.heap->gB P n O iC G B σ w.heap K->
   ∀j∈R,∀o,O[j]? =some o->wpOp P O (w9 n a0 w0 (cE O) K) j (λa' w'=>(∀g∈fD o F,g.2 w'.heap)/\gW P O (w9 n a0 w0 (cE O) K) m (fD o F) (l.setIfInBounds j true) a' w') a w):=by
 induction iC with
 |done=>
  refine⟨λm l F G B σ a w b H r s t k d h=> ?_,λm R l F G B σ a w b H=>by cases H⟩;obtain rfl:m=0:=bO b;simp only[ig,List.isEmpty_iff]at H;exact⟨H,rfl,σ,r,h,s,t⟩
 |gX=>
  refine⟨λm l F G B σ a w b H=>(by cases H),λm R l F G B σ a w b H r s t k d h j y=> ?_⟩;simp only[ig,List.isEmpty_iff]at H;subst H;cases y
 |alts q I=>
  refine⟨λm l F G B σ a w b H r s t k d h=> ?_,λm R l F G B σ a w b H=>by cases H⟩;cases m with
  |zero=>cases b
  |succ m=>
   simp only[ig]at H;split at H
   .cases H
   .rename_i j js L;refine⟨(λe=>by rw[L]at e;cases e),λj' b' o u=> ?_⟩;rw[L]at b';exact I.2 m _ l F G B σ a w b H r s t k d h j' b' o u
 |fork i rest q l' m'=>
  refine⟨λm l F G B σ a w b H=>(by cases H),λm R l F G B σ a w b H r s t k d h j y o u=> ?_⟩;simp only[ig,aT]at H;obtain⟨⟨x,U⟩,h'⟩:=H;simp only[qX,aT]at b;simp only[gB]at h;by_cases c':i=j
  .subst c';have h:=h.1;rw[u]at h;exact wy (λF G B σ a w r s t k d h=>l'.1 m _ F G B σ a w b.1 U r s t k d h) u r s t k d h
  .refine m'.2 m _ l F G B σ a w b.2 h' r s t k d h.2 j (ba.2 ⟨y,?_⟩) o u;have:Nat.beq i j=false:=by cases hb:Nat.beq i j;rfl;exact absurd (bO hb) c'
   simp[this]
 |op i rest I=>
  refine⟨λm l F G B σ a w b H r s t k d h=> ?_,λm R l F G B σ a w b H=>by cases H⟩;cases m with
  |zero=>cases b
  |succ m=>
   simp only[ig,aT]at H;obtain⟨x,U⟩:=H;simp only[gB]at h;split at h
   .rename_i o u;simp only[u]at x;have hQ: ∀v,∀c a w,w9 n a0 w0 (cE O) K (.panic c) (a.put o.dst v) w->w9 n a0 w0 (cE O) K (.panic c) a w:=λv c a w hq=>by cases hq.1
    have take: ∀(v:Value)(S:Option (ai->Prop))(C:Env)(Q:List (Nat×(ai->Prop)))(N:List (Nat×cy)),kQ P o=true->Rel n C (a.put o.dst v)->YieldsIf P O (λw=>sY S w.heap) o v a->sY S w.heap->GB (tf i S F) Q N w.heap->
      gB P n O rest Q N C w.heap K->gW P O (w9 n a0 w0 (cE O) K) (m+1) F l a w:=λv S C Q N A z hy D g' hd=>by
     rw[A]at x;simp only[aT]at x;have f': ∀g∈tf i S F,g.2 w.heap:=by
      intro g hg;cases S with
      |none=>exact k g hg
      |some S=>
       rcases bH.1 hg with e|e
       .rw[e];exact D
       .exact k g e
     have I:=I.1 m _ (tf i S F) Q N C (a.put o.dst v) w b U z s (t.trans (fk.put (eu u))) f' g' hd;refine oq (S:=sY S) u (Region.noSelect_spec i') (hQ v) m F l a w (Region.free_spec u x.2) (by simpa using x.1) hy D k ?_;cases S with
     |none=>exact mA i _ _ _ _ _ I
     |some S=>exact I
    have gb: ∀(S:Option (ai->Prop)),GB (tf i S F) (tf i S G) B w.heap:=λS f T=>by
     cases S with
     |none=>exact d f T
     |some S=>
      rcases bH.1 T with e|e
      .exact .inl (e▸dh)
      .exact(d f e).imp (bZ _) id
    cases A:kQ P o with
    |true=>
     rcases jj r h with⟨V,C,z,h⟩|⟨V,C,z,k'⟩
     .rw[A]at h;dsimp only at h;cases Z:Ca C o with
      |some p=>
       rw[Z]at h;obtain⟨v,S,W,X,E,Y⟩:=Cd z.fits Z h;obtain⟨M,J,e'⟩:=iB z W;refine take v (some S) M G ((i,p)::B) A J (.inl ⟨V,λw' D=>pz _ _ _ (Y _ D)⟩) X (λf T=> ?_) e';rcases bH.1 T with e|e
       .exact .inr ⟨p,e▸dh,e▸E⟩
       .exact(d f e).imp id λ⟨q,hq,hk⟩=>⟨q,bZ _ hq,hk⟩
      |none=>
       rw[Z]at h;obtain⟨v,S,W,X,Y⟩:=oi z.fits h;obtain⟨M,J,E⟩:=iB z W;exact take v S M _ B A J (.inl ⟨V,λw' D=>pz _ _ _ (Y _ D)⟩) X (gb S) E
     .obtain⟨M,J,E⟩:=iB z k';exact take undef none M G B A J (.inr ⟨V,rfl⟩) trivial d E
    |false=>
     rw[A]at x h;simp only at x h;have L:Region.ready .any O l= [i]:=by
      split at x
      .rename_i j y;rw[y,bO x]
      .cases x
     refine⟨(λe=>by rw[L]at e;cases e),λj y o' d'=> ?_⟩;rw[L]at y;obtain rfl:j=i:=by simpa using y
     obtain rfl:o'=o:=by rw[u]at d';exact(aX d').symm
     exact wy (λF G B σ a w r s t k d h=>I.1 m _ F G B σ a w b U r s t k d h) u r s t k d h
   .exact h.elim
inductive sV where
 |leaf
 |seq (a b:sV)
 |cond (a b:sV)
 |block (a:sV)
 |loop (L:List (Nat×Sh)) (a:sV)
 |join (L:List (Nat×Sh)) (a:sV)
 |iC (p:pc)
 |jz (p:pc)
 |scope (l:Nat) (L:List (Nat×Sh)) (a b:sV)
 |typed (ty:List (Nat×Sh))
def writes:Code->List Nat
 | .region _ o _=>cE o
 | .seq a b=>writes a++writes b
 | .cond _ a b=>writes a++writes b
 | .block _ a=>writes a
 | .loop a=>writes a
 | .scope a=>writes a
 |_=> []
def Env.forget(σ:Env)(ws:List Nat):Env:=λt=>bif ws.any (Nat.beq t)then none else σ t
theorem Env.wz{σ:Env}{ws:List Nat}{t:Nat}{v:Value}(h:σ.forget ws t=some v):t∉ws/\σ t=some v:=by
 unfold Env.forget at h;cases H:ws.any (Nat.beq t)with
 |true=>rw[H]at h;cases h
 |false=>
  rw[H]at h;refine⟨λa=> ?_,h⟩;have:=List.any_eq_false.1 H t a;simp at this
def HK(K:Env->ai->Prop)(Q:Exit->Env->ai->Prop):Exit->Env->ai->Prop
 | .normal=>K
 |e=>Q e
def La(id:Nat)(Q:Exit->Env->ai->Prop):Exit->Env->ai->Prop
 | .exit i=>(match Nat.beq i id with|true=>Q .normal|false=>Q (.exit i))
 |e=>Q e
def aG{α:Type}(F:α)(B:α->Prop):Prop:=B F
def wA(l:Nat)(K:Env->ai->Prop)(Q:Exit->Env->ai->Prop):Exit->Env->ai->Prop
 | .goto L=>(match Nat.beq L l with|true=>K|false=>λ_ _=>False)
 |e=>Q e
def na:Code->Nat->Bool
 | .seq a b,l=>na a l||na b l
 | .label L,l=>Nat.beq L l
 |_,_=>false
def den(P:Program)(n:Nat):sV->Option Nat->Code->(Exit->Env->ai->Prop)->Env->ai->Prop
 | .leaf,none,c,Q,σ,h=>(match c with
  | .skip=>Q .normal σ h
  | .label _=>Q .normal σ h
  | .exit id=>Q (.exit id) σ h
  | .goto l=>Q (.goto l) σ h
  | .ret=>Q .ret σ h
  | .region _ o false=>ye P n o o.toList σ h (Q .normal)
  |_=>False)
 | .leaf,some l,c,Q,σ,h=>(match c with
  | .label j=>(match Nat.beq j l with|true=>Q (.goto l) σ h|false=>False)
  |_=>False)
 | .iC p,none,c,Q,σ,h=>(match c with
  | .region _ o true=>(match (P.follows .mixedOrders && Region.noSelect o && qX p o.size && ig P o p none (Array.replicate o.size false))with
   |true=>iq P n o p [] σ h (Q .normal)
   |false=>False)
  |_=>False)
 | .jz p,none,c,Q,σ,h=>(match c with
  | .region _ o true=>(match (P.follows .mixedOrders && Region.noSelect o && qX p o.size && ig P o p none (Array.replicate o.size false))with
   |true=>gB P n o p [] [] σ h (Q .normal)
   |false=>False)
  |_=>False)
 | .seq a b,none,c,Q,σ,h=>(match c with
  | .seq c d=>den P n a none c (HK (λe h'=>den P n b none d Q e h') Q) σ h
  |_=>False)
 | .seq a b,some l,c,Q,σ,h=>(match c with
  | .seq c d=>(match na c l with
   |true=>den P n a (some l) c Q σ h
   |false=>den P n a none c (HK (λe h'=>den P n b (some l) d Q e h') Q) σ h)
  |_=>False)
 | .cond a b,none,c,Q,σ,h=>(match c with
  | .cond x c d=>(match σ.ev x with
   |some (.bool q)=>if q=true then den P n a none c Q σ h else den P n b none d Q σ h
   |_=>False)
  |_=>False)
 | .block a,none,c,Q,σ,h=>(match c with
  | .block id c=>den P n a none c (La id Q) σ h
  |_=>False)
 | .loop L a,none,c,Q,σ,h=>(match c with
  | .loop c=> ∃(I:r7 (ai->Prop) L)(g:r7 (ai->Nat) L),mN False L I σ (λf=>f h)/\
    K6 L (λe=> ∀h',mN False L I e (λf=>f h')->
     den P n a none c (HK (λi H=>mN False L I i (λf=>f H)/\mN 0 L g i (λf=>f H)<mN 0 L g e (λf=>f h')) Q) e h') (σ.forget (writes c))
  |_=>False)
 | .join L a,none,c,Q,σ,h=>aG (α:=r7 (ai->Prop) L) (NZ L (λe h'=>Q .normal e h') (σ.forget (writes c)))
   (λJ=>den P n a none c (HK (λe h'=>mN False L J e (λf=>f h')) Q) σ h)
 | .typed ty,none,c,Q,σ,h=>(match c with
  | .region _ o false=>tc P n o ty o.toList σ h (Q .normal)
  |_=>False)
 | .scope l L a b,none,c,Q,σ,h=>(match c with
  | .scope c=>(match findLabel c l with
   |some r=> ∃(I:r7 (ai->Prop) L)(g:r7 (ai->Nat) L),
     den P n a (some l) c (wA l (λe h'=>mN False L I e (λf=>f h')) Q) σ h/\
     K6 L (λe=> ∀h',mN False L I e (λf=>f h')->
      den P n b none r (wA l (λi H=>mN False L I i (λf=>f H)/\mN 0 L g i (λf=>f H)<mN 0 L g e (λf=>f h')) Q) e h') (σ.forget (writes c))
   |none=>False)
  |_=>False)
 |_,_,_,_,_,_=>False
def opened:Code->List Code
 | .skip=> []
 | .seq a b=>opened a++ [b]
 |c=> [c]
theorem jR{P:Program}{b:Frame}{a:Act}{cs:List Frame}{w:World}: ∀(c:Code)(k:List Item),Steps P (lone (b.at a (.code c::k)) cs w) (lone (b.at a ((opened c).map Item.code++k)) cs w)
 | .skip,k=> .one step_skip
 | .seq x y,k=>by
  simp only[opened,aZ,bX,List.map_nil,dQ,eR,dW];exact .head step_seq (jR x (.code y::k))
 | .region _ _ _,_=> .refl _ _
 | .cond _ _ _,_=> .refl _ _
 | .block _ _,_=> .refl _ _
 | .loop _,_=> .refl _ _
 | .rangeFunc _ _ _ _,_=> .refl _ _
 | .exit _,_=> .refl _ _
 | .scope _,_=> .refl _ _
 | .label _,_=> .refl _ _
 | .goto _,_=> .refl _ _
 | .ret,_=> .refl _ _
 | .refuse _,_=> .refl _ _
theorem mO: ∀(c:Code)(l:Nat),na c l=(findLabel c l).isSome
 | .seq a b,l=>by
  unfold na findLabel;rw[mO a l,mO b l];cases findLabel a l<;>simp
 | .label L,l=>by
  unfold na findLabel;by_cases h:L=l
  .subst h;simp
  .have:Nat.beq L l=false:=by cases H:Nat.beq L l;rfl;exact absurd (bO H) h
   simp[this,h]
 | .skip,_=>rfl
 | .region _ _ _,_=>rfl
 | .cond _ _ _,_=>rfl
 | .block _ _,_=>rfl
 | .loop _,_=>rfl
 | .rangeFunc _ _ _ _,_=>rfl
 | .exit _,_=>rfl
 | .scope _,_=>rfl
 | .goto _,_=>rfl
 | .ret,_=>rfl
 | .refuse _,_=>rfl
theorem kh: ∀(c:Code)(l:Nat)(r:Code),findLabel c l=some r->∀t,t∈writes r->t∈writes c
 | .seq a b,l,r,h,t,ht=>by
  unfold findLabel at h;split at h
  .rename_i rest H;simp only[br]at h;subst h;rcases bM.1 ht with ht|ht
   .exact dS _ (kh a l rest H t ht)
   .exact eH _ ht
  .exact eH _ (kh b l r h t ht)
 | .label L,l,r,h,t,ht=>by
  unfold findLabel at h;split at h
  .simp only[br]at h;subst h;cases ht
  .cases h
 | .skip,_,_,h,_,_=>by cases h
 | .region _ _ _,_,_,h,_,_=>by cases h
 | .cond _ _ _,_,_,h,_,_=>by cases h
 | .block _ _,_,_,h,_,_=>by cases h
 | .loop _,_,_,h,_,_=>by cases h
 | .rangeFunc _ _ _ _,_,_,h,_,_=>by cases h
 | .exit _,_,_,h,_,_=>by cases h
 | .scope _,_,_,h,_,_=>by cases h
 | .goto _,_,_,h,_,_=>by cases h
 | .ret,_,_,h,_,_=>by cases h
 | .refuse _,_,_,h,_,_=>by cases h
def Ra(P:Program)(l:Nat)(c:Code)(Q:Exit->Act->World->Prop)(a:Act)(w:World):Prop:=
 ∀(b:Frame)(k:List Item)(cs:List Frame),
  (∃e A w',Q e A w'/\e≠ .normal/\Arrives P (lone (b.at a (.code c::k)) cs w) b k cs e A w')\/
  (∃A w' r,Q (.goto l) A w'/\findLabel c l=some r/\Steps P (lone (b.at a (.code c::k)) cs w) (lone (b.at A ((opened r).map Item.code++k)) cs w'))
def up(n:Nat)(a0:Act)(w0:World)(W:List Nat)(Q:Exit->Env->ai->Prop):Exit->Act->World->Prop:=
 λe a w=> ∃σ,Rel n σ a/\Q e σ w.heap/\fw w0 w/\fk W a0 a
theorem qJ{n:Nat}{a0:Act}{w0:World}{W:List Nat}{Q:Exit->Env->ai->Prop}{e:Exit}{a:Act}{w:World}(h:w9 n a0 w0 W (Q .normal) e a w):up n a0 w0 W Q e a w:=by
 obtain⟨rfl,h⟩:=h;exact h
def wB(a:Act):Env:=λt=>some (a.tmps.getD t undef)
theorem Rel.sa{n:Nat}{σ b c:Env}{a A:Act}{W:List Nat}(f:Rel n σ a)(H:Rel n b A)(i:fk W a A)(g:Sub c (σ.forget W) b):Rel n c A:=
 ⟨H.defers,H.size,λt v j=>by
  rcases g t v j with h|h
  .exact H.at_ t v h
  .obtain⟨d,e⟩:=Env.wz h;rw[i t d];exact f.at_ t v e⟩
theorem lK{Y:Type}{d:Y}{X:Type}{L:List (Nat×Sh)}{f:r7 X L}{K:X->Y}{n:Nat}{σ:Env}{a:Act}(b:Rel n σ a)(hd: ∀t s,(t,s)∈L->∃v,σ t=some v):mN d L f (wB a) K=mN d L f σ K:=
 mY L f λt s H=>by
  obtain⟨v,h⟩:=hd t s H;rw[h];unfold wB;rw[b.at_ t v h]
def NT(P:Program)(c:Code)(Q:Exit->Act->World->Prop)(a:Act)(w:World):Prop:=
 ∀(b:Frame)(k:List Item)(cs:List Frame),∃e A w',Q e A w'/\Arrives P (lone (b.at a ((opened c).map Item.code++k)) cs w) b k cs e A w'
theorem NT.wp{P:Program}{c:Code}{Q:Exit->Act->World->Prop}{a:Act}{w:World}(h:NT P c Q a w):c.wp P Q a w:=λb k cs=>by
 obtain⟨e,A,w',d,H⟩:=h b k cs;exact⟨e,A,w',d,.of_steps (jR c k) H⟩
theorem gS{P:Program}{c:Code}{Q:Exit->Act->World->Prop}{a:Act}{w:World}(H:opened c= [c])(h:c.wp P Q a w):NT P c Q a w:=λb k cs=>by
 rw[H];exact h b k cs
theorem tg{P:Program}{c:Code}{Q d:Exit->Act->World->Prop}{a:Act}{w:World}(h:NT P c Q a w)(H: ∀e a w,Q e a w->d e a w):NT P c d a w:=
 λb k cs=>let ⟨e,A,w',q,r⟩:=h b k cs;⟨e,A,w',H _ _ _ q,r⟩
theorem N0{P:Program}{x y:Code}{Q:Exit->Act->World->Prop}{a:Act}{w:World}(h:NT P x (Exit.then (NT P y Q) Q) a w):NT P (.seq x y) Q a w:=by
 intro b k cs;simp only[opened,aZ,bX,List.map_nil,dQ,eR,dW];obtain⟨e,A,W,c,H⟩:=h b (.code y::k) cs;cases e with
 |normal=>
  obtain⟨E,d,i,g,f⟩:=c b k cs;exact⟨E,d,i,g,.of_steps (Steps.trans H (jR y k)) f⟩
 |exit id=>exact⟨_,A,W,c,.pass (x:=.code y) rfl (λ_ _=> .inl bP) H⟩
 |goto l=>exact⟨_,A,W,c,.pass (x:=.code y) rfl (λ_ _=> .inl bP) H⟩
 |ret=>exact⟨_,A,W,c,.pass (x:=.code y) rfl (λ_ _=> .inl bP) H⟩
 |panic C=>exact⟨_,A,W,c,.pass (x:=.code y) rfl (λ_ _=> .inl bP) H⟩
 |outgrown=>exact⟨_,A,W,c,.pass (x:=.code y) rfl (λ_ _=> .inl bP) H⟩
theorem yg{P:Program}{Q:Exit->Act->World->Prop}{a:Act}{w:World}{c r:Code}{l:Nat}(t:findLabel c l=some r)(I:Act->World->Prop)(j:Act->World->Nat)(q:Exit->Act->World->Prop)(o:Act->World->Exit->Act->World->Prop)(B:Ra P l c q a w)(u: ∀A w',q (.goto l) A w'->I A w')(C: ∀e A w',e≠ .goto l->e≠ .normal->q e A w'->Q e A w'/\∀x,e≠ .goto x)(R: ∀a w,I a w->NT P r (o a w) a w)(D: ∀a w A w',I a w->o a w (.goto l) A w'->I A w'/\j A w'<j a w)(E: ∀a w e A w',I a w->e≠ .goto l->o a w e A w'->Q e A w'/\∀x,e≠ .goto x):
  (Code.scope c).wp P Q a w:=by
 intro b k cs;have out: ∀(m:Machine)(e:Exit)(A:Act)(w':World),(∀x,e≠ .goto x)->Arrives P m b (.inScope c::k) cs e A w'->Arrives P m b k cs e A w':=by
  intro m e A w' f h;cases e with
  |normal=>exact Steps.trans h (.one step_inScope)
  |exit id=>exact λk' hk=>h k' (by simp[exitTo,hk])
  |goto x=>exact absurd rfl (f x)
  |ret=>exact h
  |panic M=>exact h
  |outgrown=>exact h
 have key: ∀n a w,j a w=n->I a w->∃e A w',Q e A w'/\Arrives P (lone (b.at a ((opened r).map Item.code++ .inScope c::k)) cs w) b k cs e A w':=by
  intro n;induction n using Nat.strongRecOn with
  |_ n L=>
   intro a w K p;obtain⟨e,a1,w1,H,h⟩:=R a w p b (.inScope c::k) cs;by_cases v:e=.goto l
   .subst v;obtain⟨F,J⟩:=D a w a1 w1 p H;have i:=h (.code r:: .inScope c::k) (by simp[gotoIn,t]);obtain⟨e2,a2,w2,g,d⟩:=L (j a1 w1) (K▸J) a1 w1 rfl F;exact⟨e2,a2,w2,g,.of_steps (Steps.trans i (jR r _)) d⟩
   .obtain⟨s,f⟩:=E a w e a1 w1 p v H;exact⟨e,a1,w1,s,out _ e a1 w1 f h⟩
 rcases B b (.inScope c::k) cs with⟨e,A,w',H,G,h⟩|⟨A,w',N,H,z,i⟩
 .by_cases y:e=.goto l
  .subst y;have i:=h (.code r:: .inScope c::k) (by simp[gotoIn,t]);obtain⟨e2,a2,w2,g,d⟩:=key _ A w' rfl (u A w' H);exact⟨e2,a2,w2,g,.of_steps (.head step_scope (Steps.trans i (jR r _))) d⟩
  .obtain⟨s,f⟩:=C e A w' y G H;exact⟨e,A,w',s,.of_steps (.one step_scope) (out _ e A w' f h)⟩
 .rw[t]at z;cases z;obtain⟨e2,a2,w2,g,d⟩:=key _ A w' rfl (u A w' H);exact⟨e2,a2,w2,g,.of_steps (.head step_scope i) d⟩
def Rb(P:Program)(c:Code)(Q:Exit->Act->World->Prop)(a:Act)(w:World):Option Nat->Prop
 |none=>NT P c Q a w
 |some l=>Ra P l c Q a w
theorem jS{P:Program}{n:Nat}: ∀(k':sV)(m:Option Nat)(c:Code)(Q:Exit->Env->ai->Prop)(σ:Env)(a:Act)(w:World),Rel n σ a->den P n k' m c Q σ w.heap->Rb P c (up n a w (writes c) Q) a w m
 | .leaf,none,c,Q,σ,a,w,s,h=>by
  unfold den at h;split at h
  .exact λb k cs=>⟨.normal,a,w,⟨σ,s,h,fw.refl w,fk.refl _ _⟩,.refl _ _⟩
  .exact gS rfl (wp_label ⟨σ,s,h,fw.refl w,fk.refl _ _⟩)
  .exact gS rfl (wp_exit ⟨σ,s,h,fw.refl w,fk.refl _ _⟩)
  .exact gS rfl (wp_goto ⟨σ,s,h,fw.refl w,fk.refl _ _⟩)
  .exact gS rfl (wp_ret ⟨σ,s,h,fw.refl w,fk.refl _ _⟩)
  .rename_i id O;refine gS rfl (wp_mono (wp_region (Q:=w9 n a w (cE O) (Q .normal)) ?_) (λe A w' H=>qJ H));have:=ve (a0:=a) (w0:=w) O.toList 0 σ a w bP s (fw.refl w) (fk.refl _ _) h;rw[fG];simpa using this
  .exact h.elim
 | .leaf,some l,c,Q,σ,a,w,s,h=>by
  unfold den at h;split at h
  .rename_i l';split at h
   .rename_i hl;obtain rfl:l'=l:=bO hl;exact λb k cs=> .inr ⟨a,w,.skip,⟨σ,s,h,fw.refl w,fk.refl _ _⟩,by simp[findLabel],.one step_label⟩
   .exact h.elim
  .exact h.elim
 | .iC p,none,c,Q,σ,a,w,s,h=>by
  unfold den at h;split at h
  .rename_i id O;split at h
   .rename_i F;simp only[aT]at F;obtain⟨⟨⟨h1,h2⟩,h3⟩,h4⟩:=F;refine gS rfl (wp_mono (wp_region_any (Q:=w9 n a w (cE O) (Q .normal)) h1 ?_) (λe A w' H=>qJ H));have:=(Ch (a0:=a) (w0:=w) h2 p).1 O.size (Array.replicate O.size false) [] σ a { w with drawn:=w.drawn+1 } h3 h4 s ⟨rfl,rfl,rfl⟩ (fk.refl _ _) (λ_ U=>by cases U) h;exact om _ _ _ _ _ this
   .exact h.elim
  .exact h.elim
 | .jz p,none,c,Q,σ,a,w,s,h=>by
  unfold den at h;split at h
  .rename_i id O;split at h
   .rename_i F;simp only[aT]at F;obtain⟨⟨⟨h1,h2⟩,h3⟩,h4⟩:=F;refine gS rfl (wp_mono (wp_region_any (Q:=w9 n a w (cE O) (Q .normal)) h1 ?_) (λe A w' H=>qJ H));have:=(Am (a0:=a) (w0:=w) h2 p).1 O.size (Array.replicate O.size false) [] [] [] σ a { w with drawn:=w.drawn+1 } h3 h4 s ⟨rfl,rfl,rfl⟩ (fk.refl _ _) (λ_ U=>by cases U) (λ_ U=>by cases U) h;exact om _ _ _ _ _ this
   .exact h.elim
  .exact h.elim
 | .seq x y,none,c,Q,σ,a,w,s,h=>by
  unfold den at h;split at h
  .rename_i c d;refine N0 (tg (jS x none c _ σ a w s h) ?_);rintro e A w' ⟨g,o,H,j,i⟩;have v: ∀t,t∈writes c->t∈writes (.seq c d):=λt u=>dS _ u
   cases e with
   |normal=>
    refine tg (jS y none d Q g A w' o H) ?_;rintro e2 a2 w2 ⟨a',W,B,X,Z⟩;exact⟨a',W,B,j.trans X,(i.mono v).trans (Z.mono λt u=>eH _ u)⟩
   |exit id=>exact⟨g,o,H,j,i.mono v⟩
   |goto l=>exact⟨g,o,H,j,i.mono v⟩
   |ret=>exact⟨g,o,H,j,i.mono v⟩
   |panic R=>exact⟨g,o,H,j,i.mono v⟩
   |outgrown=>exact⟨g,o,H,j,i.mono v⟩
  .exact h.elim
 | .seq x y,some l,c,Q,σ,a,w,s,h=>by
  unfold den at h;split at h
  .rename_i c d;have v: ∀t,t∈writes c->t∈writes (.seq c d):=λt u=>dS _ u
   have i': ∀t,t∈writes d->t∈writes (.seq c d):=λt u=>eH _ u
   split at h
   .rename_i hl;have ih:=jS x (some l) c Q σ a w s h;intro b k cs;rcases ih b (.code d::k) cs with⟨e,A,w',H,b',E⟩|⟨A,w',r,H,hf,t'⟩
    .obtain⟨g,o,H,j,i⟩:=H;exact .inl ⟨e,A,w',⟨g,o,H,j,i.mono v⟩,b',.of_steps (.one step_seq) (.pass (x:=.code d) rfl (λ_ _=> .inl b') E)⟩
    .obtain⟨g,o,H,j,i⟩:=H;refine .inr ⟨A,w',.seq r d,⟨g,o,H,j,i.mono v⟩,by simp[findLabel,hf],.head step_seq ?_⟩;simpa[opened]using t'
   .rename_i hl;have ih:=jS x none c _ σ a w s h;have q':findLabel c l=none:=by
     have:=mO c l;rw[hl]at this;cases H:findLabel c l with
     |none=>rfl
     |some r=>rw[H]at this;cases this
    intro b k cs;obtain⟨e,A,w',⟨g,o,H,j,i⟩,E⟩:=ih.wp b (.code d::k) cs;cases e with
    |normal=>
     rcases jS y (some l) d Q g A w' o H b k cs with⟨e2,a2,w2,B,b',n'⟩|⟨a2,w2,r,B,p',u'⟩
     .obtain⟨a',W,B,X,Z⟩:=B;exact .inl ⟨e2,a2,w2,⟨a',W,B,j.trans X,(i.mono v).trans (Z.mono i')⟩,b',.of_steps (.head step_seq E) n'⟩
     .obtain⟨a',W,B,X,Z⟩:=B;exact .inr ⟨a2,w2,r,⟨a',W,B,j.trans X,(i.mono v).trans (Z.mono i')⟩,by simp[findLabel,q',p'],.head step_seq (Steps.trans E u')⟩
    |exit id=>exact .inl ⟨_,A,w',⟨g,o,H,j,i.mono v⟩,bP,.of_steps (.one step_seq) (.pass (x:=.code d) rfl (λ_ _=> .inl bP) E)⟩
    |goto l'=>exact .inl ⟨_,A,w',⟨g,o,H,j,i.mono v⟩,bP,.of_steps (.one step_seq) (.pass (x:=.code d) rfl (λ_ _=> .inl bP) E)⟩
    |ret=>exact .inl ⟨_,A,w',⟨g,o,H,j,i.mono v⟩,bP,.of_steps (.one step_seq) (.pass (x:=.code d) rfl (λ_ _=> .inl bP) E)⟩
    |panic R=>exact .inl ⟨_,A,w',⟨g,o,H,j,i.mono v⟩,bP,.of_steps (.one step_seq) (.pass (x:=.code d) rfl (λ_ _=> .inl bP) E)⟩
    |outgrown=>exact .inl ⟨_,A,w',⟨g,o,H,j,i.mono v⟩,bP,.of_steps (.one step_seq) (.pass (x:=.code d) rfl (λ_ _=> .inl bP) E)⟩
  .exact h.elim
 | .cond x y,none,c,Q,σ,a,w,s,h=>by
  unfold den at h;split at h
  .rename_i k c d;split at h
   .rename_i q H;have he:=s.fits _ _ H;split at h
    .rename_i u;subst u;refine gS rfl (wp_cond_true he (wp_mono (jS x none c Q σ a w s h).wp ?_));rintro e A w' ⟨g,o,H,j,i⟩;exact⟨g,o,H,j,i.mono λt u=>dS _ u⟩
    .rename_i u;have u:q=false:=by simpa using u
     subst u;refine gS rfl (wp_cond_false he (wp_mono (jS y none d Q σ a w s h).wp ?_));rintro e A w' ⟨g,o,H,j,i⟩;exact⟨g,o,H,j,i.mono λt u=>eH _ u⟩
   .exact h.elim
  .exact h.elim
 | .block x,none,c,Q,σ,a,w,s,h=>by
  unfold den at h;split at h
  .rename_i id c;refine gS rfl (wp_block (wp_mono (jS x none c _ σ a w s h).wp ?_));rintro e A w' ⟨g,o,H,j,i⟩;cases e with
   |exit e'=>
    simp only[Exit.inBlock];simp only[La]at H;by_cases hid:e'=id
    .subst hid;simp only[Nat.beq_refl]at H;rw[af rfl];exact⟨g,o,H,j,i⟩
    .rw[ae hid];have:Nat.beq e' id=false:=by cases F:Nat.beq e' id;rfl;exact absurd (bO F) hid
     rw[this]at H;exact⟨g,o,H,j,i⟩
   |normal=>exact⟨g,o,H,j,i⟩
   |goto l=>exact⟨g,o,H,j,i⟩
   |ret=>exact⟨g,o,H,j,i⟩
   |panic R=>exact⟨g,o,H,j,i⟩
   |outgrown=>exact⟨g,o,H,j,i⟩
  .exact h.elim
 | .loop L x,none,c,Q,σ,a,w,s,h=>by
  unfold den at h;split at h
  .rename_i c;obtain⟨I,μ,h0,d'⟩:=h;refine gS rfl (wp_loop (λA w'=> ∃g,Rel n g A/\mN False L I g (λf=>f w'.heap)/\fw w w'/\fk (writes c) a A)
    (λA w'=>mN 0 L μ (wB A) (λf=>f w'.heap)) ⟨σ,s,h0,fw.refl w,fk.refl _ _⟩ ?_)
   rintro A w' ⟨g,o,S,j,i⟩;obtain⟨D,hF,Y,hL,_⟩:=xN L _ I d' S;have V:=Rel.sa s o i Y;have T:mN False L I D (λf=>f w'.heap):=by rw[mY L I hL];exact S
   have hd:=hF w'.heap T;refine wp_mono (jS x none c _ D A w' V hd).wp ?_;rintro e a1 w1 ⟨N,G,H,J,M⟩;cases e with
   |normal=>
    obtain⟨g',r'⟩:=H;refine⟨⟨N,G,g',j.trans J,i.trans M⟩,?_⟩;rw[lK G (oj L I g'),lK V (oj L I T)];exact r'
   |exit id=>exact⟨N,G,H,j.trans J,i.trans M⟩
   |goto l=>exact⟨N,G,H,j.trans J,i.trans M⟩
   |ret=>exact⟨N,G,H,j.trans J,i.trans M⟩
   |panic R=>exact⟨N,G,H,j.trans J,i.trans M⟩
   |outgrown=>exact⟨N,G,H,j.trans J,i.trans M⟩
  .exact h.elim
 | .join L x,none,c,Q,σ,a,w,s,h=>by
  unfold den at h;unfold aG at h;refine tg (jS x none c _ σ a w s h) ?_;rintro e A w' ⟨g,o,H,j,i⟩;cases e with
  |normal=>
   obtain⟨D,hQ,Y⟩:=yd L _ H;exact⟨D,Rel.sa s o i Y,hQ,j,i⟩
  |exit id=>exact⟨g,o,H,j,i⟩
  |goto l=>exact⟨g,o,H,j,i⟩
  |ret=>exact⟨g,o,H,j,i⟩
  |panic R=>exact⟨g,o,H,j,i⟩
  |outgrown=>exact⟨g,o,H,j,i⟩
 | .scope l L x y,none,c,Q,σ,a,w,s,h=>by
  unfold den at h;split at h
  .rename_i c;split at h
   .rename_i r hf;obtain⟨I,μ,h0,d'⟩:=h;have m':=kh c l r hf;have j': ∀(K:Env->ai->Prop)(e:Exit)(g:Env)(h':ai),e≠ .goto l->wA l K Q e g h'->Q e g h'/\∀z,e≠ .goto z:=by
     intro K e g h' s' H;cases e with
     |goto z=>
      simp only[wA]at H;have:Nat.beq z l=false:=by cases F:Nat.beq z l;rfl;exact absurd (by rw[bO F]) s'
      rw[this]at H;exact H.elim
     |normal=>exact⟨H,λz C=>by cases C⟩
     |exit id=>exact⟨H,λz C=>by cases C⟩
     |ret=>exact⟨H,λz C=>by cases C⟩
     |panic R=>exact⟨H,λz C=>by cases C⟩
     |outgrown=>exact⟨H,λz C=>by cases C⟩
    refine gS rfl (yg hf (λA w'=> ∃g,Rel n g A/\mN False L I g (λf=>f w'.heap)/\fw w w'/\fk (writes c) a A)
     (λA w'=>mN 0 L μ (wB A) (λf=>f w'.heap)) _
     (λa0 w0 e A w'=> ∃g,Rel n g A/\wA l (λD f'=>mN False L I D (λf=>f f')/\mN 0 L μ D (λf=>f f')<mN 0 L μ (wB a0) (λf=>f w0.heap)) Q e g w'.heap/\fw w w'/\fk (writes c) a A)
     (jS x (some l) c _ σ a w s h0) ?_ ?_ ?_ ?_ ?_)
    .rintro A w' ⟨g,o,H,j,i⟩;simp only[wA,Nat.beq_refl]at H;exact⟨g,o,H,j,i⟩
    .rintro e A w' o' _ ⟨g,o,H,j,i⟩;obtain⟨c',B⟩:=j' _ e g _ o' H;exact⟨⟨g,o,c',j,i⟩,B⟩
    .rintro A w' ⟨g,o,S,j,i⟩;obtain⟨D,hF,Y,hL,_⟩:=xN L _ I d' S;have V:=Rel.sa s o i Y;have T:mN False L I D (λf=>f w'.heap):=by rw[mY L I hL];exact S
     have hd:=hF w'.heap T;refine tg (jS y none r _ D A w' V hd) ?_;rintro e a1 w1 ⟨N,G,H,J,M⟩;refine⟨N,G,?_,j.trans J,i.trans (M.mono m')⟩;cases e with
     |goto z=>
      simp only[wA]at H⊢;cases C:Nat.beq z l with
      |false=>rw[C]at H;exact H.elim
      |true=>
       rw[C]at H;obtain⟨q1,q2⟩:=H;exact⟨q1,by rw[lK V (oj L I T)];exact q2⟩
     |normal=>exact H
     |exit id=>exact H
     |ret=>exact H
     |panic R=>exact H
     |outgrown=>exact H
    .rintro a0 w0 A w' _ ⟨g,o,H,j,i⟩;simp only[wA,Nat.beq_refl]at H;obtain⟨q1,q2⟩:=H;refine⟨⟨g,o,q1,j,i⟩,?_⟩;rw[lK o (oj L I q1)];exact q2
    .rintro a0 w0 e A w' _ he ⟨g,o,H,j,i⟩;obtain⟨c',B⟩:=j' _ e g _ he H;exact⟨⟨g,o,c',j,i⟩,B⟩
   .exact h.elim
  .exact h.elim
 | .iC _,some _,_,_,_,_,_,_,h=>h.elim
 | .jz _,some _,_,_,_,_,_,_,h=>h.elim
 | .cond _ _,some _,_,_,_,_,_,_,h=>h.elim
 | .block _,some _,_,_,_,_,_,_,h=>h.elim
 | .loop _ _,some _,_,_,_,_,_,_,h=>h.elim
 | .join _ _,some _,_,_,_,_,_,_,h=>h.elim
 | .scope _ _ _ _,some _,_,_,_,_,_,_,h=>h.elim
 | .typed _,some _,_,_,_,_,_,_,h=>h.elim
 | .typed ty,none,c,Q,σ,a,w,s,h=>by
  unfold den at h;split at h
  .rename_i id O;refine gS rfl (wp_mono (wp_region (Q:=w9 n a w (cE O) (Q .normal)) ?_) (λe A w' H=>qJ H));have:=r8 (a0:=a) (w0:=w) O.toList 0 σ a w bP s (fw.refl w) (fk.refl _ _) h;rw[fG];simpa using this
  .exact h.elim
def sc(P:Program):List ResultVar->Env->ai->(List Value->Prop)->Prop
 | [],_,_,F=>F []
 | .tmp t::r,σ,h,F=>aL (σ t) λv=>sc P r σ h λvs=>F (v::vs)
 | .cell a t::r,σ,h,F=>(match σ a with
  |some (.pointer p)=>aL p λA=>qH P t h A λv _=>sc P r σ h λvs=>F (v::vs)
  |_=>False)
def wC(vs:List Value):Value:=
 match vs with
 | [v]=>v
 |vs=> .tuple vs.toArray
def Qc(P:Program)(r:Array ResultVar)(R:fp):Exit->Env->ai->Prop
 | .normal,σ,h=>sc P r.toList σ h λvs=>R (wC vs) h
 | .ret,σ,h=>sc P r.toList σ h λvs=>R (wC vs) h
 |_,_,_=>False
def lV(args:List Value):Env:=λt=>args[t]?
def I2(a:Act):ResultVar->Sem Value
 | .tmp t=>pure (a.tmps.getD t undef)
 | .cell A t=>do loadVar t (<-asAddr (a.tmps.getD A undef))
theorem Ci{P:Program}{n:Nat}{σ:Env}{a:Act}{h:ai}(c:Rel n σ a): ∀(r:List ResultVar)(F:List Value->Prop),sc P r σ h F->∃vs,F vs/\
  rd P (r.mapM (I2 a)) h=some vs
 | [],F,H=>⟨[],H,rfl⟩
 | .tmp t::r,F,H=>by
  obtain⟨v,m,H⟩:=bK.1 H;obtain⟨vs,d,e⟩:=Ci c r _ H;refine⟨v::vs,d,?_⟩;rw[List.mapM_cons];have f:rd P (I2 a (.tmp t)) h=some v:=by
   show some (a.tmps.getD t undef)=some v;rw[c.at_ t v m]
  rw[bt _ _ _ _ f,bt _ _ _ _ e];rfl
 | .cell A t::r,F,H=>by
  simp only[sc]at H;split at H
  .rename_i p l;obtain⟨b,rfl,k⟩:=bK.1 H;obtain⟨v,S,d,e,g⟩:=yc k;obtain⟨vs,i,j⟩:=Ci c r _ d;refine⟨v::vs,i,?_⟩;rw[List.mapM_cons];have f:rd P (I2 a (.cell A t)) h=some v:=by
    show rd P (do loadVar t (<-asAddr (a.tmps.getD A undef))) h=_;rw[c.at_ A _ l];exact g h e
   rw[bt _ _ _ _ f,bt _ _ _ _ j];rfl
  .exact H.elim
theorem sd{P:Program}{n:Nat}{σ:Env}{a:Act}{h:ai}{f:Func}{F:Value->Prop}(g:Rel n σ a)(e:sc P f.results.toList σ h λvs=>F (wC vs)):
  ∃v,F v/\rd P (results f a.tmps) h=some v:=by
 obtain⟨vs,H,b⟩:=Ci g _ _ e;refine⟨_,H,?_⟩;have c:rd P (f.results.mapM (I2 a)) h=some vs.toArray:=by
  rw[Array.mapM_eq_mapM_toList];show rd P (f.results.toList.mapM (I2 a)>>=λl=>pure (List.toArray l)) h=_;rw[bt _ _ _ _ b];rfl
 have d:results f a.tmps=f.results.mapM (I2 a)>>=λvs=>pure (if h:vs.size=1 then vs[0]else .tuple vs):=by
  unfold results;congr 1
 rw[d,bt _ _ _ _ c]
 match vs with
 | []=>rfl
 | [v]=>rfl
 |u::v::vs=>rfl
theorem An{P:Program}{f:FuncId}{b:Func}{c:Code}{args:List Value}{h:ai}{R:fp}(A:sV)(n:P.funcs[f]? =some b)(m:b.body=some c)(i:Nat.ble args.length b.ntmps=true)(hd:den P b.ntmps A none c (Qc P b.results R) (lV args) h):lS P f args.toArray h R:=by
 intro w r;subst r;have i:=Nat.le_of_ble_eq_true i;refine calls_of_wp n m ?_;have d:Rel b.ntmps (lV args) { tmps:=args.toArray++Array.replicate (b.ntmps - args.toArray.size) undef,defers:= [] } :=by
  refine⟨rfl,by simp;omega,λt v g=> ?_⟩;unfold lV at g;have p:t<args.length:=(aB.1 g).1;simp only[eS];rw[dz (by simpa using p)];simp[g]
 refine wp_mono (jS A none c _ _ _ w d hd).wp ?_;rintro e a w' ⟨σ,d,H,q,_⟩;have fin:sc P b.results.toList σ w'.heap (λvs=>R (wC vs) w'.heap)->a.defers= []/\∃v,(results b a.tmps).run P w'=.ok v w'/\∃V,Ending.returned v=.returned V/\R V w'.heap/\fw w w':=λo=>by
  obtain⟨v,j,k⟩:=sd (F:=λv=>R v w'.heap) d o;exact⟨d.defers,v,pz _ _ _ k,v,rfl,j,q⟩
 cases e with
 |normal=>exact fin H
 |ret=>exact fin H
 |exit id=>exact H.elim
 |goto l=>exact H.elim
 |panic C=>exact H.elim
 |outgrown=>exact H.elim
def sf(f:Func):Code:=f.body.getD .skip
theorem yh{P:Program}{f:FuncId}{F:Func}{args:List Value}{h:ai}{R:fp}(a:sV)(d:P.funcs[f]? =some F)(b:F.body.isSome=true)(e:Nat.ble args.length F.ntmps=true)(hd:den P F.ntmps a none (sf F) (Qc P F.results R) (lV args) h):lS P f args.toArray h R:=by
 obtain⟨c,H⟩:=dG.1 b;refine An a d H e ?_;rw[sf,H]at hd;exact hd
abbrev ring(v:Value):List PanicEntry:= [{ v,recovered:=false }]
def hM(P:Program)(f:FuncId)(args:Array Value)(h:ai)(R E:fp):Prop:=
 ∀w:World,w.heap=h->Calls P f args w λe w'=>fw w w'/\((∃v,e=.returned v/\R v w'.heap)\/∃v,e=.panicked (ring v)/\E v w'.heap)
section
variable {P : Program} {f : FuncId} {args : Array Value} {h : ai} {R r E a : Value → ai → Prop}
theorem hM.mono(b:hM P f args h R E)(d: ∀v h',R v h'->r v h')(H: ∀v h',E v h'->a v h'):hM P f args h r a:=
 λw i=>(b w i).mono λ_ _ ⟨g,c⟩=>⟨g,c.imp (λ⟨v,e,h⟩=>⟨v,e,d _ _ h⟩) (λ⟨v,e,h⟩=>⟨v,e,H _ _ h⟩)⟩
end
theorem hM.UL{P:Program}{f:FuncId}{args:Array Value}{h:ai}{R:fp}(H:hM P f args h R (λ_ _=>False)):lS P f args h R:=
 λw c=>(H w c).mono λ_ _ ⟨b,a⟩=>a.elim (λ⟨v,e,h⟩=>⟨v,e,h,b⟩) (λ⟨_,_,h⟩=>h.elim)
def vf(P:Program)(mq:List Nat)(o:Oper)(σ:Env)(h:ai)(K E:fp):Prop:=
 match o.op with
 | .panic x=>(match σ.ev x with
  |some (.iface t v)=>E (.iface t v) h
  |_=>False)
 | .call { callee:=.value f,args:=args,argTypes:=_ } =>(match σ.ev f,NS σ args.toList with
  |some (.func (.func g) first c),some vs=>(match mq.any (Nat.beq g)with
   |true=>(match oe P g with
    |true=>hM P g (first.toList++vs++c.toList).toArray h (λv h'=>rQ P o.type λV=>v=V/\K V h') E
    |false=>False)
   |false=>wx P o σ h K)
  |_,_=>wx P o σ h K)
 |_=>wx P o σ h K
theorem Lb{P:Program}{o:Oper}{σ:Env}{b:Operand->Value}{h:ai}{f:Operand}{args:Array Operand}{t:Array TypeId}{g:FuncId}{first c:Array Value}{vs:List Value}(a:Fits σ b)(k:o.op=.call { callee:=.value f,args:=args,argTypes:=t })(i:σ.ev f=some (.func (.func g) first c))(m:NS σ args.toList=some vs)(H:oe P g=true):
  aW P (execOp b o) h λx h'=>x=.enter g (first.toList++vs++c.toList).toArray/\h'=h:=by
 unfold execOp;rw[k];simp only[resolve,tb a m,a _ _ i,Deferred.ofValue];rw[dB,ya];simp only[invoke,callFunc];rw[dB];unfold oe at H;split at H
 .rename_i F d;simp only[aT,Bool.not_eq_true']at H;show aW P (match P.funcs[g]? with|none=>_|some F=>_) h _;rw[d];have j:F.body.isNone=false:=by cases l:F.body<;>simp[l]at H⊢
  simp only[H.2,j,au,aM];have e:(first++vs.toArray++c)=(first.toList++vs++c.toList).toArray:=by
   apply Array.ext'
   simp
  rw[e];exact⟨rfl,rfl⟩
 .cases H
theorem A4{P:Program}{mq:List Nat}{o:Oper}{σ:Env}{a:Act}{w:World}{K E:fp}{next:Act->World->Prop}{Q:Exit->Act->World->Prop}(H:Fits σ a.eval)(h:vf P mq o σ w.heap K E)(b: ∀v w',K v w'.heap->fw w w'->next (a.put o.dst v) w')(d: ∀v w',E v w'.heap->fw w w'->Q (.panic (ring v)) a w'):o.wp P a w next Q:=by
 unfold vf at h;split at h
 .rename_i x c;split at h
  .rename_i t v r;unfold Oper.wp execOp;rw[c];simp only[H _ _ r];exact d _ _ h (fw.refl w)
  .exact h.elim
 .rename_i f args T c;split at h
  .rename_i g first C vs n p;split at h
   .split at h
    .rename_i m;obtain⟨x,w',r1,⟨rfl,q⟩,i⟩:=od _ _ _ (Lb H c n p m) w rfl;unfold Oper.wp;rw[r1];refine(h w' q).mono ?_;rintro e W ⟨j,⟨v,rfl,l⟩|⟨v,rfl,k⟩⟩
     .exact b _ _ (x8 l) (i.trans j)
     .exact d _ _ k (i.trans j)
    .exact h.elim
   .exact(mZ H h).wp b
  .exact(mZ H h).wp b
 .exact(mZ H h).wp b
structure jq (n:Nat) (D:List Deferred) (σ:Env) (a:Act):Prop where
 size:a.tmps.size=n
 at_: ∀t v,σ t=some v->a.tmps.getD t undef=v
 defs:a.defers=D
theorem jq.fits{n:Nat}{D:List Deferred}{σ:Env}{a:Act}(h:jq n D σ a):Fits σ a.eval:=by
 intro x v H;cases x with
 |tmp t=>exact h.at_ t v H
 |const c=>simpa[Env.ev,Act.eval]using H
 |global g=>simpa[Env.ev,Act.eval]using H
 |func f=>simpa[Env.ev,Act.eval]using H
theorem jq.bare{n:Nat}{D:List Deferred}{σ:Env}{a:Act}(h:jq n D σ a):Rel n σ { a with defers:= [] } :=⟨rfl,h.size,h.at_⟩
theorem jq.of{n:Nat}{D:List Deferred}{σ:Env}{a:Act}(h:Rel n σ { a with defers:= [] })(hd:a.defers=D):jq n D σ a:=⟨h.size,h.at_,hd⟩
theorem DJ(a:Act)(d:Option Nat)(v:Value):(a.put d v).defers=a.defers:=by cases d<;>rfl
theorem ot{n:Nat}{D:List Deferred}{σ:Env}{a:Act}{d:Option Nat}{v:Value}{K:Env->Prop}(H:jq n D σ a)(h:im n σ d v K): ∃b,jq n D b (a.put d v)/\K b:=by
 obtain⟨b,c,f⟩:=iB H.bare h;refine⟨b,.of ?_ ((DJ _ _ _).trans H.defs),f⟩;have e:({ a with defers:= [] } :Act).put d v= { (a.put d v)with defers:= [] } :=by cases d<;>rfl
 rw[<-e];exact c
theorem ou{n:Nat}{D:List Deferred}{O:Array Oper}{o:Oper}{σ:Env}{a:Act}{r skip:Env->Prop}(e:jq n D σ a)(h:iP O o σ r skip):
  (Region.wanted o (yielded O a.tmps)=true/\∃b,jq n D b a/\r b)\/(Region.wanted o (yielded O a.tmps)=false/\∃b,jq n D b a/\skip b):=by
 rcases jj e.bare h with⟨H,b,c,d⟩|⟨H,b,c,d⟩
 .exact .inl ⟨H,b,.of c e.defs,d⟩
 .exact .inr ⟨H,b,.of c e.defs,d⟩
def Qd(n:Nat)(D:List Deferred)(a0:Act)(w0:World)(W:List Nat)(K:List Deferred->Env->ai->Prop)(E:fp):Exit->Act->World->Prop:=
 λe a w=>(e=.normal/\∃D' σ,jq n D' σ a/\K D' σ w.heap/\fw w0 w/\fk W a0 a)\/(a.defers=D/\a.tmps.size=n/\fk W a0 a/\fw w0 w/\∃v,e=.panic (ring v)/\E v w.heap)
def yi(o:Oper)(D:List Deferred)(σ:Env):Option (List Deferred):=
 match o.op with
 | .defer { callee:=.value f,args:=args,argTypes:=_ } =>(match σ.ev f,NS σ args.toList with
  |some (.func g first c),some vs=>some ({ target:=.fn g c,args:=(first.toList++vs).toArray } ::D)
  |_,_=>none)
 |_=>none
theorem DK{P:Program}{o:Oper}{σ:Env}{a:Act}{w:World}{D D':List Deferred}{next:Act->World->Prop}{Q:Exit->Act->World->Prop}(H:Fits σ a.eval)(hd:a.defers=D)(h:yi o D σ=some D')(c:next ({ a with defers:=D' }.put o.dst undef) w):o.wp P a w next Q:=by
 unfold yi at h;split at h
 .rename_i f args t d;split at h
  .rename_i g first C vs b i;cases h;subst hd;unfold Oper.wp execOp;rw[d];simp only[resolve,tb H i,H _ _ b,Deferred.ofValue];have e:first++vs.toArray=(first.toList++vs).toArray:=by apply Array.ext';simp
   rw[e];exact c
  .cases h
 .cases h
def mB(P:Program)(mq:List Nat)(n:Nat)(O:Array Oper)(ty:List (Nat×Sh))(E:fp):List Oper->List Deferred->Env->ai->(List Deferred->Env->ai->Prop)->Prop
 | [],D,σ,h,K=>K D σ h
 |o::rest,D,σ,h,K=>(match o.op with
  | .defer _=>iP O o σ
   (λσ=>(match yi o D σ with
    |some D'=>(match rest with| []=>im n σ o.dst undef λa=>K D' a h|_=>False)
    |none=>False))
   (λσ=>im n σ o.dst undef λa=>mB P mq n O ty E rest D a h K)
  |_=>iP O o σ
   (λσ=>vf P mq o σ h (λv h'=>DH ty o.dst v λv=>im n σ o.dst v λa=>mB P mq n O ty E rest D a h' K) E)
   (λσ=>im n σ o.dst undef λa=>mB P mq n O ty E rest D a h K))
theorem ox{P:Program}{mq:List Nat}{n:Nat}{O:Array Oper}{ty:List (Nat×Sh)}{E:fp}{D:List Deferred}{K:List Deferred->Env->ai->Prop}{a0:Act}{w0:World}: ∀(rest:List Oper)(k:Nat)(σ:Env)(a:Act)(w:World),
  (∀j,rest[j]? =O[k+j]?)->jq n D σ a->fw w0 w->fk (cE O) a0 a->mB P mq n O ty E rest D σ w.heap K->wpOps P O (Qd n D a0 w0 (cE O) K E) (List.range' k rest.length) a w
 | [],k,σ,a,w,_,p,e,f,h=> .inl ⟨rfl,D,σ,p,h,e,f⟩
 |o::rest,k,σ,a,w,r,p,e,f,h=>by
  have m:O[k]? =some o:=by have:=r 0;simpa using this.symm
  have s: ∀j,rest[j]? =O[k+1+j]? :=λj=>by have:=r (j+1);simpa[Nat.add_assoc,Nat.add_comm 1 j]using this
  simp only[bf,List.range'_succ,wpOps,m];have skip: ∀{d:Env},Region.wanted o (yielded O a.tmps)=false->jq n D d a->(im n d o.dst undef λd=>mB P mq n O ty E rest D d w.heap K)->
    (if Region.wanted o (yielded O a.tmps)=true then o.wp P a w (wpOps P O (Qd n D a0 w0 (cE O) K E) (List.range' (k+1) rest.length)) (Qd n D a0 w0 (cE O) K E)\/(o.asks P a w/\LetsOut (Qd n D a0 w0 (cE O) K E))else wpOps P O (Qd n D a0 w0 (cE O) K E) (List.range' (k+1) rest.length) (a.put o.dst undef) w):=by
   intro d b H h;rw[ae (by rw[b];simp)];obtain⟨l,i,g⟩:=ot H h;exact ox rest (k+1) l _ w s i e (f.trans (fk.put (eu m))) g
  unfold mB at h;split at h
  .rename_i c x;rcases ou p h with⟨b,d,H,h⟩|⟨b,d,H,h⟩
   .rw[af b];split at h
    .rename_i D' t;split at h
     .obtain⟨l,i,g⟩:=ot (D:=D') (a:= { a with defers:=D' }) ⟨H.size,H.at_,rfl⟩ h;exact .inl (DK H.fits H.defs t (.inl ⟨rfl,D',l,i,g,e,f.trans (fk.put (a:= { a with defers:=D' }) (eu m))⟩))
     .exact h.elim
    .exact h.elim
   .exact skip b H h
  .rcases ou p h with⟨b,d,H,h⟩|⟨b,d,H,h⟩
   .rw[af b];refine .inl (A4 H.fits h (λv w' hk q=> ?_) (λv w' u q=> .inr ⟨H.defs,H.size,f,e.trans q,v,rfl,u⟩));obtain⟨l,i,g⟩:=ot H (pF hk);exact ox rest (k+1) l _ w' s i (e.trans q) (f.trans (fk.put (eu m))) g
   .exact skip b H h
def gK(P:Program)(mq:List Nat)(n:Nat)(O:Array Oper)(E:fp):pc->List (Nat×(ai->Prop))->Env->ai->(Env->ai->Prop)->Prop
 | .done,_,σ,h,K=>K σ h
 | .op i rest,G,σ,h,K=>(match O[i]? with
  |some o=>iP O o σ
    (λσ=>(match kQ P o with
     |true=>my P o σ h λv S=>im n σ o.dst v λa=>gK P mq n O E rest (tf i S G) a h K
     |false=>vf P mq o σ h (λv h'=>pG h' (im n σ o.dst v λa=>gK P mq n O E rest (fD o G) a h' K) (fD o G)) E))
    (λσ=>im n σ o.dst undef λa=>gK P mq n O E rest G a h K)
  |none=>False)
 | .alts q,G,σ,h,K=>gK P mq n O E q G σ h K
 | .fork i rest q,G,σ,h,K=>(match O[i]? with
  |some o=>iP O o σ
    (λσ=>vf P mq o σ h (λv h'=>pG h' (im n σ o.dst v λa=>gK P mq n O E rest (fD o G) a h' K) (fD o G)) E)
    (λσ=>im n σ o.dst undef λa=>gK P mq n O E rest G a h K)
  |none=>False)/\gK P mq n O E q G σ h K
 | .gX,_,_,_,_=>True
theorem fk.Rc{W:List Nat}{a b:Act}{D:Option Nat}{v:Value}(h: ∀d,D=some d->d∈W)(f:fk W a (b.put D v)):fk W a b:=λt H=>by
 rw[<-f t H];cases D with
 |none=>rfl
 |some d=>
  have c:t≠d:=λe=>H (e▸h d rfl)
  simp[Act.put,fo c]
section
variable {P : Program} {mq : List Nat} {n : Nat} {O : Array Oper} {E : Value → ai → Prop} {D : List Deferred} {K : Env → ai → Prop} {a0 : Act} {w0 : World}
abbrev NU(n:Nat)(D:List Deferred)(a0:Act)(w0:World)(O:Array Oper)(K:Env->ai->Prop)(E:fp):=Qd n D a0 w0 (cE O) (λD' σ h=>D'=D/\K σ h) E
theorem wD{rest:pc}{i m:Nat}{o:Oper}{L:Array Bool}{G:List (Nat×(ai->Prop))}{σ:Env}{a:Act}{w:World}(I: ∀G σ a w,jq n D σ a->fw w0 w->fk (cE O) a0 a->(∀g∈G,g.2 w.heap)->gK P mq n O E rest G σ w.heap K->gW P O (NU n D a0 w0 O K E) m G (L.setIfInBounds i true) a w)(c:O[i]? =some o)(x:jq n D σ a)(j:fw w0 w)(l:fk (cE O) a0 a)(s: ∀g∈G,g.2 w.heap)(h:iP O o σ (λσ=>vf P mq o σ w.heap (λv h'=>pG h' (im n σ o.dst v λb=>gK P mq n O E rest (fD o G) b h' K) (fD o G)) E) (λσ=>im n σ o.dst undef λb=>gK P mq n O E rest G b w.heap K)):
  wpOp P O (NU n D a0 w0 O K E) i (λA w'=>(∀g∈fD o G,g.2 w'.heap)/\gW P O (NU n D a0 w0 O K E) m (fD o G) (L.setIfInBounds i true) A w') a w:=by
 rcases ou x h with⟨p,b,H,h⟩|⟨p,b,H,y⟩
 .unfold wpOp;simp only[c,p,bj];refine .inl (A4 H.fits h (λv w' hk k=> ?_) (λv w' u k=> .inr ⟨H.defs,H.size,l,j.trans k,v,rfl,u⟩));obtain⟨r,t⟩:=te hk;obtain⟨q,f,d⟩:=ot H t;exact⟨r,I _ q _ w' f (j.trans k) (l.trans (fk.put (eu c))) r d⟩
 .unfold wpOp;simp only[c,p,au,aM];obtain⟨q,f,d⟩:=ot H y;have I:=I G q _ w f j (l.trans (fk.put (eu c))) s d;exact⟨λg e=>s g (iN e),kg _ _ _ _ _ _ (λg e=>iN e) I⟩
theorem Ao(b':Region.noSelect O=true)(iC:pc):
  (∀(m:Nat)(l:Array Bool)(G:List (Nat×(ai->Prop)))(σ:Env)(a:Act)(w:World),qX iC m=true->
   ig P O iC none l=true->jq n D σ a->fw w0 w->fk (cE O) a0 a->(∀g∈G,g.2 w.heap)->gK P mq n O E iC G σ w.heap K->
   gW P O (NU n D a0 w0 O K E) m G l a w)/\
  (∀(m:Nat)(R:List Nat)(l:Array Bool)(G:List (Nat×(ai->Prop)))(σ:Env)(a:Act)(w:World),qX iC (m+1)=true->
   ig P O iC (some R) l=true->jq n D σ a->fw w0 w->fk (cE O) a0 a->(∀g∈G,g.2 w.heap)->gK P mq n O E iC G σ w.heap K->
   ∀j∈R,∀o,O[j]? =some o->wpOp P O (NU n D a0 w0 O K E) j (λX w'=>(∀g∈fD o G,g.2 w'.heap)/\gW P O (NU n D a0 w0 O K E) m (fD o G) (l.setIfInBounds j true) X w') a w):=by
 induction iC with
 |done=>
  refine⟨λm l G σ a w b H f k p d h=> ?_,λm R l G σ a w b H=>by cases H⟩;obtain rfl:m=0:=bO b;simp only[ig,List.isEmpty_iff]at H;exact⟨H,.inl ⟨rfl,D,σ,f,⟨rfl,h⟩,k,p⟩⟩
 |gX=>
  refine⟨λm l G σ a w b H=>(by cases H),λm R l G σ a w b H f k p d h j t=> ?_⟩;simp only[ig,List.isEmpty_iff]at H;subst H;cases t
 |alts q I=>
  refine⟨λm l G σ a w b H f k p d h=> ?_,λm R l G σ a w b H=>by cases H⟩;cases m with
  |zero=>cases b
  |succ m=>
   simp only[ig]at H;split at H
   .cases H
   .rename_i j js A;refine⟨(λe=>by rw[A]at e;cases e),λj' U o r=> ?_⟩;rw[A]at U;exact I.2 m _ l G σ a w b H f k p d h j' U o r
 |fork i rest q d' e'=>
  refine⟨λm l G σ a w b H=>(by cases H),λm R l G σ a w b H f k p d h j t o r=> ?_⟩;simp only[ig,aT]at H;obtain⟨⟨s,C⟩,a'⟩:=H;simp only[qX,aT]at b;simp only[gK]at h;by_cases V:i=j
  .subst V;have h:=h.1;rw[r]at h;exact wD (λG σ a w f k p d h=>d'.1 m _ G σ a w b.1 C f k p d h) r f k p d h
  .refine e'.2 m _ l G σ a w b.2 a' f k p d h.2 j (ba.2 ⟨t,?_⟩) o r;have:Nat.beq i j=false:=by cases hb:Nat.beq i j;rfl;exact absurd (bO hb) V
   simp[this]
 |op i rest I=>
  refine⟨λm l G σ a w b H f k p d h=> ?_,λm R l G σ a w b H=>by cases H⟩;cases m with
  |zero=>cases b
  |succ m=>
   simp only[ig,aT]at H;obtain⟨s,C⟩:=H;simp only[gK]at h;split at h
   .rename_i o r;simp only[r]at s;have Z: ∀v,∀c a w,NU n D a0 w0 O K E (.panic c) (a.put o.dst v) w->NU n D a0 w0 O K E (.panic c) a w:=λv c a w hq=>by
     rcases hq with⟨e,_⟩|⟨F,J,L,z⟩
     .cases e
     .refine .inr ⟨(DJ _ _ _).symm.trans F,?_,L.Rc (eu r),z⟩;rw[<-J];cases o.dst<;>simp[Act.put]
    have take: ∀(v:Value)(S:Option (ai->Prop))(y:Env),kQ P o=true->jq n D y (a.put o.dst v)->YieldsIf P O (λw=>sY S w.heap) o v a->sY S w.heap->
      gK P mq n O E rest (tf i S G) y w.heap K->gW P O (NU n D a0 w0 O K E) (m+1) G l a w:=λv S y x u hy B hd=>by
     rw[x]at s;simp only[aT]at s;have Y: ∀g∈tf i S G,g.2 w.heap:=by
      intro g T;cases S with
      |none=>exact d g T
      |some S=>
       rcases bH.1 T with e|e
       .rw[e];exact B
       .exact d g e
     have I:=I.1 m _ (tf i S G) y (a.put o.dst v) w b C u k (p.trans (fk.put (eu r))) Y hd;refine oq (S:=sY S) r (Region.noSelect_spec b') (Z v) m G l a w (Region.free_spec r s.2) (by simpa using s.1) hy B d ?_;cases S with
     |none=>exact mA i _ _ _ _ _ I
     |some S=>exact I
    cases x:kQ P o with
    |true=>
     rcases ou f h with⟨N,y,u,h⟩|⟨N,y,u,c'⟩
     .rw[x]at h;obtain⟨v,S,F,J,L⟩:=oi u.fits h;obtain⟨Q,M,z⟩:=ot u F;exact take v S Q x M (.inl ⟨N,λw' B=>pz _ _ _ (L _ B)⟩) J z
     .obtain⟨Q,M,z⟩:=ot u c';exact take undef none Q x M (.inr ⟨N,rfl⟩) trivial z
    |false=>
     rw[x]at s h;simp only at s h;have A:Region.ready .any O l= [i]:=by
      split at s
      .rename_i j t;rw[t,bO s]
      .cases s
     refine⟨(λe=>by rw[A]at e;cases e),λj t o' W=> ?_⟩;rw[A]at t;obtain rfl:j=i:=by simpa using t
     obtain rfl:o'=o:=by rw[r]at W;exact(aX W).symm
     exact wD (λG σ a w f k p d h=>I.1 m _ G σ a w b C f k p d h) r f k p d h
   .exact h.elim
end
def Ld(K:List Deferred->Env->ai->Prop)(Q:Exit->List Deferred->Env->ai->Prop):Exit->List Deferred->Env->ai->Prop
 | .normal=>K
 |e=>Q e
def Le(id:Nat)(Q:Exit->List Deferred->Env->ai->Prop):Exit->List Deferred->Env->ai->Prop
 | .exit i=>(match Nat.beq i id with|true=>Q .normal|false=>Q (.exit i))
 |e=>Q e
def pd(P : Program)(mq : List Nat)(n : Nat)(E : List Deferred -> Env -> fp): sV -> Code -> (Exit -> List Deferred -> Env -> ai -> Prop) -> List Deferred -> Env -> ai -> Prop
  | .leaf, c, Q, D, σ, h => (match c with
    | .skip => Q .normal D σ h
    | .label _ => Q .normal D σ h
    | .exit id => Q (.exit id) D σ h
    | .ret => Q .ret D σ h
    | .region _ o false => mB P mq n o [] (E D (σ.forget (cE o))) o.toList D σ h (Q .normal)
    | _ => False)
  | .typed ty, c, Q, D, σ, h => (match c with
    | .region _ o false => mB P mq n o ty (E D (σ.forget (cE o))) o.toList D σ h (Q .normal)
    | _ => False)
  | .iC p, c, Q, D, σ, h => (match c with
    | .region _ o true => (match (P.follows .mixedOrders && Region.noSelect o && qX p o.size && ig P o p none (Array.replicate o.size false)) with
      | true => gK P mq n o (E D (σ.forget (cE o))) p [] σ h (Q .normal D)
      | false => False)
    | _ => False)
  | .seq a b, c, Q, D, σ, h => (match c with
    | .seq c d => pd P mq n E a c (Ld (λD' e h' => pd P mq n E b d Q D' e h') Q) D σ h
    | _ => False)
  | .cond a b, c, Q, D, σ, h => (match c with
    | .cond x c d => (match σ.ev x with
      | some (.bool q) => if q = true then pd P mq n E a c Q D σ h else pd P mq n E b d Q D σ h
      | _ => False)
    | _ => False)
  | .block a, c, Q, D, σ, h => (match c with
    | .block id c => pd P mq n E a c (Le id Q) D σ h
    | _ => False)
  | .loop L a, c, Q, D, σ, h => (match c with
    | .loop c => ∃(I : r7 (ai -> Prop) L)(g : r7 (ai -> Nat) L), mN False L I σ (λf => f h) /\
        K6 L (λe => ∀ h', mN False L I e (λf => f h') ->
          pd P mq n E a c (Ld (λD' i H => D' = D /\ mN False L I i (λf => f H) /\ mN 0 L g i (λf => f H) < mN 0 L g e (λf => f h')) Q) D e h') (σ.forget (writes c))
    | _ => False)
  | .join L a, c, Q, D, σ, h => aG (α := r7 (ai -> Prop) L) (NZ L (λe h' => Q .normal D e h') (σ.forget (writes c)))
      (λJ => pd P mq n E a c (Ld (λD' e h' => D' = D /\ mN False L J e (λf => f h')) Q) D σ h)
  | .scope _ _ _ _, _, _, _, _, _ => False
  | .jz _, _, _, _, _, _ => False
def Qe(n:Nat)(a0:Act)(w0:World)(W:List Nat)(Q:Exit->List Deferred->Env->ai->Prop)(E:List Deferred->Env->fp):Exit->Act->World->Prop:=
 λe a w=>fw w0 w/\fk W a0 a/\((∃D σ,jq n D σ a/\Q e D σ w.heap/\∀c,e≠ .panic c)\/∃D σ v,jq n D σ a/\e=.panic (ring v)/\E D σ v w.heap)
theorem jq.sa{n:Nat}{D D':List Deferred}{σ b c:Env}{a A:Act}{W:List Nat}(H:jq n D σ a)(h:jq n D' b A)(e:fk W a A)(d:Sub c (σ.forget W) b):jq n D' c A:=
 .of (Rel.sa H.bare h.bare e d) h.defs
theorem sg{n:Nat}{D:List Deferred}{a0:Act}{w0:World}{σ:Env}{W:List Nat}{Q:Exit->List Deferred->Env->ai->Prop}{E:List Deferred->Env->fp}(g:jq n D σ a0){e:Exit}{a:Act}{w:World}(h:Qd n D a0 w0 W (Q .normal) (E D (σ.forget W)) e a w):Qe n a0 w0 W Q E e a w:=by
 rcases h with⟨rfl,D',j,b,c,H,d⟩|⟨b,c,H,d,v,rfl,f⟩
 .exact⟨H,d,.inl ⟨D',j,b,c,λ_ e=>by cases e⟩⟩
 .refine⟨d,H,.inr ⟨D,_,v,⟨c,λt u i=> ?_,b⟩,rfl,f⟩⟩;obtain⟨q1,q2⟩:=Env.wz i;rw[H t q1];exact g.at_ t u q2
theorem th{n:Nat}{a0:Act}{w0:World}{W b:List Nat}{Q:Exit->List Deferred->Env->ai->Prop}{E:List Deferred->Env->fp}(H: ∀t,t∈W->t∈b){e:Exit}{a:Act}{w:World}(h:Qe n a0 w0 W Q E e a w):Qe n a0 w0 b Q E e a w:=
 ⟨h.1,h.2.1.mono H,h.2.2⟩
theorem I3{n:Nat}{a0 a1:Act}{w0 w1:World}{W:List Nat}{Q:Exit->List Deferred->Env->ai->Prop}{E:List Deferred->Env->fp}(H:fw w0 w1)(b:fk W a0 a1){e:Exit}{a:Act}{w:World}(h:Qe n a1 w1 W Q E e a w):Qe n a0 w0 W Q E e a w:=
 ⟨H.trans h.1,b.trans h.2.1,h.2.2⟩
theorem mC{P:Program}{mq:List Nat}{n:Nat}{E:List Deferred->Env->fp}: ∀(U:sV)(c:Code)(Q:Exit->List Deferred->Env->ai->Prop)(D:List Deferred)(σ:Env)(a:Act)(w:World),jq n D σ a->
  pd P mq n E U c Q D σ w.heap->c.wp P (Qe n a w (writes c) Q E) a w
 | .leaf,c,Q,D,σ,a,w,o,h=>by
  unfold pd at h;have ok: ∀e,(∀C,e≠ .panic C)->Q e D σ w.heap->Qe n a w (writes c) Q E e a w:=λe H hq=>⟨fw.refl w,fk.refl _ _,.inl ⟨D,σ,o,hq,H⟩⟩
  split at h
  .exact wp_skip (ok _ (λ_ e=>by cases e) h)
  .exact wp_label (ok _ (λ_ e=>by cases e) h)
  .exact wp_exit (ok _ (λ_ e=>by cases e) h)
  .exact wp_ret (ok _ (λ_ e=>by cases e) h)
  .rename_i id O;refine wp_mono (wp_region ?_) (λe A w' hq=>sg o hq);have:=ox (a0:=a) (w0:=w) O.toList 0 σ a w bP o (fw.refl w) (fk.refl _ _) h;rw[fG];rw[ee]at this;exact this
  .exact h.elim
 | .typed ty,c,Q,D,σ,a,w,o,h=>by
  unfold pd at h;split at h
  .rename_i id O;refine wp_mono (wp_region ?_) (λe A w' hq=>sg o hq);have:=ox (a0:=a) (w0:=w) O.toList 0 σ a w bP o (fw.refl w) (fk.refl _ _) h;rw[fG];rw[ee]at this;exact this
  .exact h.elim
 | .iC p,c,Q,D,σ,a,w,o,h=>by
  unfold pd at h;split at h
  .rename_i id O;split at h
   .rename_i G;simp only[aT]at G;obtain⟨⟨⟨W,X⟩,Y⟩,Z⟩:=G;refine wp_mono (wp_region_any (Q:=NU n D a w O (Q .normal D) (E D (σ.forget (cE O)))) W ?_) (λe A w' hq=>sg (Q:=Q) o ?_)
    .exact om _ _ _ _ _ ((Ao (a0:=a) (w0:=w) X p).1 O.size (Array.replicate O.size false) [] σ a { w with drawn:=w.drawn+1 } Y Z o ⟨rfl,rfl,rfl⟩ (fk.refl _ _) (λ_ hm=>by cases hm) h)
    .rcases hq with⟨e,D',j,q1,⟨rfl,q2⟩,q3⟩|hq
     .exact .inl ⟨e,_,j,q1,q2,q3⟩
     .exact .inr hq
   .exact h.elim
  .exact h.elim
 | .seq x y,c,Q,D,σ,a,w,o,h=>by
  unfold pd at h;split at h
  .rename_i c d;have hW: ∀t,t∈writes c->t∈writes (.seq c d):=λt r=>dS _ r
   refine wp_seq (wp_mono (mC x c _ D σ a w o h) ?_);rintro e A w' hq;have hq:=th hW hq;obtain⟨i,g,⟨D',j,m,hq,H⟩|⟨D',j,v,m,rfl,hE⟩⟩:=hq
   .cases e with
    |normal=>exact wp_mono (mC y d Q D' j A w' m hq) (λe2 a2 w2 b'=>I3 i g (th (λt r=>eH _ r) b'))
    |exit id=>exact⟨i,g,.inl ⟨D',j,m,hq,H⟩⟩
    |goto l=>exact⟨i,g,.inl ⟨D',j,m,hq,H⟩⟩
    |ret=>exact⟨i,g,.inl ⟨D',j,m,hq,H⟩⟩
    |panic C=>exact absurd rfl (H C)
    |outgrown=>exact⟨i,g,.inl ⟨D',j,m,hq,H⟩⟩
   .exact⟨i,g,.inr ⟨D',j,v,m,rfl,hE⟩⟩
  .exact h.elim
 | .cond x y,c,Q,D,σ,a,w,o,h=>by
  unfold pd at h;split at h
  .rename_i k c d;split at h
   .rename_i q hq;have H:=o.fits _ _ hq;split at h
    .rename_i r;subst r;exact wp_cond_true H (wp_mono (mC x c Q D σ a w o h) (λ_ _ _=>th λt r=>dS _ r))
    .rename_i r;have r:q=false:=by simpa using r
     subst r;exact wp_cond_false H (wp_mono (mC y d Q D σ a w o h) (λ_ _ _=>th λt r=>eH _ r))
   .exact h.elim
  .exact h.elim
 | .block x,c,Q,D,σ,a,w,o,h=>by
  unfold pd at h;split at h
  .rename_i id c;refine wp_block (wp_mono (mC x c _ D σ a w o h) ?_);rintro e A w' ⟨i,g,⟨D',j,m,hq,H⟩|⟨D',j,v,m,rfl,hE⟩⟩
   .cases e with
    |exit M=>
     simp only[Exit.inBlock];simp only[Le]at hq;by_cases hid:M=id
     .subst hid;simp only[Nat.beq_refl]at hq;rw[af rfl];exact⟨i,g,.inl ⟨D',j,m,hq,λ_ e=>by cases e⟩⟩
     .rw[ae hid];have:Nat.beq M id=false:=by cases G:Nat.beq M id;rfl;exact absurd (bO G) hid
      rw[this]at hq;exact⟨i,g,.inl ⟨D',j,m,hq,H⟩⟩
    |normal=>exact⟨i,g,.inl ⟨D',j,m,hq,H⟩⟩
    |goto l=>exact⟨i,g,.inl ⟨D',j,m,hq,H⟩⟩
    |ret=>exact⟨i,g,.inl ⟨D',j,m,hq,H⟩⟩
    |panic C=>exact absurd rfl (H C)
    |outgrown=>exact⟨i,g,.inl ⟨D',j,m,hq,H⟩⟩
   .exact⟨i,g,.inr ⟨D',j,v,m,rfl,hE⟩⟩
  .exact h.elim
 | .loop L x,c,Q,D,σ,a,w,o,h=>by
  unfold pd at h;split at h
  .rename_i c;obtain⟨I,μ,V,c'⟩:=h;refine wp_loop (λA w'=> ∃j,jq n D j A/\mN False L I j (λf=>f w'.heap)/\fw w w'/\fk (writes c) a A)
    (λA w'=>mN 0 L μ (wB A) (λf=>f w'.heap)) ⟨σ,o,V,fw.refl w,fk.refl _ _⟩ ?_
   rintro A w' ⟨j,m,N,i,g⟩;obtain⟨J,hF,K,hL,_⟩:=xN L _ I c' N;have T:=jq.sa o m g K;have R:mN False L I J (λf=>f w'.heap):=by rw[mY L I hL];exact N
   have hd:=hF w'.heap R;refine wp_mono (mC x c _ D J A w' T hd) ?_;rintro e a1 w1 ⟨B,F,⟨z,u,s,hq,H⟩|⟨z,u,v,s,rfl,hE⟩⟩
   .cases e with
    |normal=>
     obtain⟨rfl,S,a'⟩:=hq;refine⟨⟨u,s,S,i.trans B,g.trans F⟩,?_⟩;have ev: ∀b:Act,wB { b with defers:= [] } =wB b:=λ_=>rfl
     rw[<-ev a1,<-ev A,lK s.bare (oj L I S),lK T.bare (oj L I R)];exact a'
    |exit id=>exact⟨i.trans B,g.trans F,.inl ⟨z,u,s,hq,H⟩⟩
    |goto l=>exact⟨i.trans B,g.trans F,.inl ⟨z,u,s,hq,H⟩⟩
    |ret=>exact⟨i.trans B,g.trans F,.inl ⟨z,u,s,hq,H⟩⟩
    |panic C=>exact absurd rfl (H C)
    |outgrown=>exact⟨i.trans B,g.trans F,.inl ⟨z,u,s,hq,H⟩⟩
   .exact⟨i.trans B,g.trans F,.inr ⟨z,u,v,s,rfl,hE⟩⟩
  .exact h.elim
 | .join L x,c,Q,D,σ,a,w,o,h=>by
  unfold pd at h;unfold aG at h;refine wp_mono (mC x c _ D σ a w o h) ?_;rintro e A w' ⟨i,g,⟨D',j,m,hq,H⟩|hE⟩
  .cases e with
   |normal=>
    obtain⟨rfl,hq⟩:=hq;obtain⟨J,hQ,K⟩:=yd L _ hq;exact⟨i,g,.inl ⟨_,J,jq.sa o m g K,hQ,H⟩⟩
   |exit id=>exact⟨i,g,.inl ⟨D',j,m,hq,H⟩⟩
   |goto l=>exact⟨i,g,.inl ⟨D',j,m,hq,H⟩⟩
   |ret=>exact⟨i,g,.inl ⟨D',j,m,hq,H⟩⟩
   |panic C=>exact absurd rfl (H C)
   |outgrown=>exact⟨i,g,.inl ⟨D',j,m,hq,H⟩⟩
  .exact⟨i,g,.inr hE⟩
 | .scope _ _ _ _,_,_,_,_,_,_,_,h=>by unfold pd at h;exact h.elim
def wE:Option Value->FrameMode
 |none=> .returning
 |some v=> .panicking (ring v)
def pH(P:Program)(g:FuncId)(args:Array Value)(rv:Option Value)(h:ai)(K:Option Value->ai->Prop):Prop:=
 ∀w:World,w.heap=h->CallsD P g args (wE rv) w λe u w'=>(∃v,e=.returned v)/\fw w w'/\∃r,settle u=wE r/\K r w'.heap
def Lf(A:ai->Prop)(E:fp):Option Value->ai->Prop
 |none,h=>A h
 |some v,h=>E v h
def yj(P:Program)(r:List ResultVar)(R E:fp):List Deferred->Option Value->Env->ai->Prop
 | [],none,σ,h=>sc P r σ h λvs=>R (wC vs) h
 | [],some v,_,h=>E v h
 | [d],rv,σ,h=>(match d.target with
  | .fn (.func g) cap=>(match oe P g with
   |true=>pH P g (d.args.toList++cap.toList).toArray rv h (Lf (λh'=>sc P r σ h' λvs=>R (wC vs) h') E)
   |false=>False)
  |_=>False)
 |_::_::_,_,_,_=>False
theorem N1{P:Program}{n:Nat}{D:List Deferred}{σ:Env}{a:Act}{h:ai}{f:Func}{F:Value->Prop}(b:jq n D σ a)(H:sc P f.results.toList σ h λvs=>F (wC vs)): ∃v,F v/\rd P (results f a.tmps) h=some v:=
 sd (a:= { a with defers:= [] }) b.bare H
theorem ym{P:Program}{n:Nat}{f:Func}{R E:fp}{w0:World}{D:List Deferred}{rv:Option Value}{σ:Env}{a:Act}{w:World}(q:jq n D σ a)(b:fw w0 w)(h:yj P f.results.toList R E D rv σ w.heap):
  Leaves P f a.tmps (λe w'=>fw w0 w'/\((∃v,e=.returned v/\R v w'.heap)\/∃v,e=.panicked (ring v)/\E v w'.heap)) D (wE rv) w:=by
 have fin: ∀(rv:Option Value)(w:World),fw w0 w->(match rv with|none=>sc P f.results.toList σ w.heap λvs=>R (wC vs) w.heap|some v=>E v w.heap)->
   Leaves P f a.tmps (λe w'=>fw w0 w'/\((∃v,e=.returned v/\R v w'.heap)\/∃v,e=.panicked (ring v)/\E v w'.heap)) [] (wE rv) w:=by
  intro rv w b h;cases rv with
  |none=>
   obtain⟨v,i,j⟩:=N1 (F:=λv=>R v w.heap) q h;exact⟨v,pz _ _ _ j,b,.inl ⟨v,rfl,i⟩⟩
  |some v=>exact⟨b,.inr ⟨v,rfl,h⟩⟩
 match D,h with
 | [],h=>
  refine fin rv w b ?_;cases rv<;>exact h
 | [d],h=>
  simp only[yj]at h;split at h
  .rename_i g cap k;split at h
   .rename_i H;refine⟨by cases rv<;>simp[wE],.func g,cap,g,(d.args.toList++cap.toList).toArray,k,?_,?_⟩
    .rw[k];unfold oe at H;split at H
     .rename_i f2 m;simp only[aT,Bool.not_eq_true']at H;have o:f2.body.isNone=false:=by cases p:f2.body<;>simp[p]at H⊢
      have e:d.args++cap=(d.args.toList++cap.toList).toArray:=by apply Array.ext';simp
      rw[<-e];refine pz _ _ _ ?_;simp only[invoke,callFunc];show rd P (match P.funcs[g]? with|none=>_|some f=>_) w.heap=_;rw[m];simp only[H.2,o,au,aM];rfl
     .cases H
    .intro c cs t;obtain⟨e,u,w',fr,⟨⟨v,rfl⟩,s,r,i,j⟩,l⟩:=h w rfl c cs t;refine⟨_,u,w',fr,?_,l⟩;show Leaves P f a.tmps _ [] (settle u) w';rw[i];exact fin r w' (b.trans s) (by cases r<;>exact j)
   .exact h.elim
  .exact h.elim
 |_::_::_,h=>exact h.elim
def SK(P:Program)(r:Array ResultVar)(R E:fp):Exit->List Deferred->Env->ai->Prop
 | .normal,D,σ,h=>yj P r.toList R E D none σ h
 | .ret,D,σ,h=>yj P r.toList R E D none σ h
 |_,_,_,_=>False
theorem gY{P:Program}{f:FuncId}{F:Func}{args:List Value}{h:ai}{R E:fp}(A:sV)(mq:List Nat)(o:P.funcs[f]? =some F)(m:F.body.isSome=true)(k:Nat.ble args.length F.ntmps=true)(hd:pd P mq F.ntmps (λD σ v h=>yj P F.results.toList R E D (some v) σ h) A (sf F) (SK P F.results R E) [] (lV args) h):hM P f args.toArray h R E:=by
 obtain⟨c,j⟩:=dG.1 m;rw[sf,j]at hd;intro w q;subst q;have k:=Nat.le_of_ble_eq_true k;refine calls_of_wp_defers o j ?_;have H:jq F.ntmps [] (lV args) { tmps:=args.toArray++Array.replicate (F.ntmps - args.toArray.size) undef,defers:= [] } :=by
  refine⟨by simp;omega,λt v g=> ?_,rfl⟩;unfold lV at g;have p:t<args.length:=(aB.1 g).1;simp only[eS];rw[dz (by simpa using p)];simp[g]
 refine wp_mono (mC A c _ _ _ _ w H hd) ?_;rintro e a w' ⟨d,_,⟨D,σ,H,b,n⟩|⟨D,σ,v,H,rfl,i⟩⟩
 .cases e with
  |normal=>rw[<-H.defs]at b H;exact ym (rv:=none) H d b
  |ret=>rw[<-H.defs]at b H;exact ym (rv:=none) H d b
  |exit id=>exact b.elim
  |goto l=>exact b.elim
  |panic C=>exact absurd rfl (n C)
  |outgrown=>exact b.elim
 .rw[<-H.defs]at i H;exact ym (rv:=some v) H d i
inductive RS where
 |calm
 |Lh (v:Value)
 |done (v:Value)
def RS.mode:RS->FrameMode
 | .calm=> .returning
 | .Lh v=> .panicking (ring v)
 | .done v=> .panicking [{ v,recovered:=true }]
def RS.left:RS->Option Value
 | .Lh v=>some v
 |_=>none
def RS.of:Option Value->RS
 |none=> .calm
 |some v=> .Lh v
theorem RS.settle(a:RS):settle a.mode=wE a.left:=by cases a<;>rfl
theorem RS.N4(rv:Option Value):(RS.of rv).mode=wE rv:=by cases rv<;>rfl
def isRec(o:Oper):Bool:=match o.op with
 | .call { callee:=.builtin .recover,args:=_,argTypes:=_ } =>true
 |_=>false
theorem I4{P:Program}{o:Oper}{a:Operand->Value}{w:World}(h:isRec o=true):(execOp a o).run P w=.ok .recover w:=by
 unfold isRec at h;split at h
 .rename_i H;unfold execOp;rw[H];rfl
 .cases h
def FK(P:Program)(o:Oper)(σ:Env)(h:ai)(K:fp):Prop:=
 match o.op with
 | .typeAssert x X a ok=>(match σ.ev x with
  |some v=>aW P (Instr.typeAssert v X a ok) h K
  |none=>False)
 |_=>wx P o σ h K
theorem I5{P:Program}{o:Oper}{σ:Env}{b:Operand->Value}{h:ai}{K:fp}(a:Fits σ b)(H:FK P o σ h K):pA P o b h K:=by
 unfold FK at H;split at H
 .rename_i x X A ok c;split at H
  .rename_i v d;unfold pA execOp;rw[c];simp only[a _ _ d];rw[dB];exact H
  .exact H.elim
 .exact mZ a H
def iV(P:Program)(n:Nat)(O:Array Oper)(ty:List (Nat×Sh)):List Oper->RS->Env->ai->(RS->Env->ai->Prop)->Prop
 | [],b,σ,h,K=>K b σ h
 |o::rest,b,σ,h,K=>(match isRec o with
  |true=>iP O o σ
   (λσ=>(match b with
    | .Lh v=>im n σ o.dst v λa=>iV P n O ty rest (.done v) a h K
    | .calm=>im n σ o.dst .nilIface λa=>iV P n O ty rest .calm a h K
    | .done v=>im n σ o.dst .nilIface λa=>iV P n O ty rest (.done v) a h K))
   (λσ=>im n σ o.dst undef λa=>iV P n O ty rest b a h K)
  |false=>iP O o σ
   (λσ=>FK P o σ h λv h'=>DH ty o.dst v λv=>im n σ o.dst v λa=>iV P n O ty rest b a h' K)
   (λσ=>im n σ o.dst undef λa=>iV P n O ty rest b a h K))
def QX(n:Nat)(a0:Act)(w0:World)(W:List Nat)(c0:Frame)(cs0:List Frame)(Q:Exit->RS->Env->ai->Prop):Exit->Act->List Frame->World->Prop:=
 λe a cs w=> ∃b σ,cs= { c0 with mode:=b.mode } ::cs0/\Rel n σ a/\Q e b σ w.heap/\fw w0 w/\fk W a0 a
def Li(K:RS->Env->ai->Prop):Exit->RS->Env->ai->Prop
 | .normal=>K
 |_=>λ_ _ _=>False
theorem yo{P:Program}{n:Nat}{O:Array Oper}{ty:List (Nat×Sh)}{K:RS->Env->ai->Prop}{a0:Act}{w0:World}{c0:Frame}{cs0:List Frame}: ∀(rest:List Oper)(k:Nat)(c:RS)(σ:Env)(a:Act)(w:World),
  (∀j,rest[j]? =O[k+j]?)->Rel n σ a->fw w0 w->fk (cE O) a0 a->iV P n O ty rest c σ w.heap K->wpOpsS P O (QX n a0 w0 (cE O) c0 cs0 (Li K)) (List.range' k rest.length) a ({ c0 with mode:=c.mode } ::cs0) w
 | [],k,c,σ,a,w,_,g,i,m,h=>⟨c,σ,rfl,g,h,i,m⟩
 |o::rest,k,c,σ,a,w,q,g,i,m,h=>by
  have p:O[k]? =some o:=by have:=q 0;simpa using this.symm
  have u: ∀j,rest[j]? =O[k+1+j]? :=λj=>by have:=q (j+1);simpa[Nat.add_assoc,Nat.add_comm 1 j]using this
  simp only[bf,List.range'_succ,wpOpsS,p];unfold iV at h;have next: ∀{b:Env}{v:Value}{Du:RS}{w':World},fw w w'->Rel n b a->(im n b o.dst v λb=>iV P n O ty rest Du b w'.heap K)->
    wpOpsS P O (QX n a0 w0 (cE O) c0 cs0 (Li K)) (List.range' (k+1) rest.length) (a.put o.dst v) ({ c0 with mode:=Du.mode } ::cs0) w':=by
   intro b v Du w' l H h;obtain⟨A,y,s⟩:=iB H h;exact yo rest (k+1) Du A _ w' u y (i.trans l) (m.trans (fk.put (eu p))) s
  split at h
  .rename_i z;rcases jj g h with⟨d,b,H,h⟩|⟨d,b,H,h⟩
   .rw[af d,I4 z];cases c with
    |calm=>exact next (Du:=.calm) (fw.refl w) H h
    |Lh v=>exact next (Du:=.done v) (fw.refl w) H h
    |done v=>exact next (Du:=.done v) (fw.refl w) H h
   .rw[ae (by rw[d];simp)];exact next (fw.refl w) H h
  .rcases jj g h with⟨d,b,H,h⟩|⟨d,b,H,h⟩
   .rw[af d];obtain⟨x,w',r1,r2,r⟩:=od _ _ _ (I5 H.fits h) w rfl;rw[r1];cases x with
    |value v=>exact next r H (pF (F:=λv=>im n b o.dst v λb=>iV P n O ty rest c b w'.heap K) r2)
    |skip=>exact next r H (pF (F:=λv=>im n b o.dst v λb=>iV P n O ty rest c b w'.heap K) r2)
    |enter f args=>
     refine(r2 w' rfl).mono ?_;rintro e W ⟨v,rfl,t,l⟩;exact next (r.trans l) H (pF t)
    |_=>exact r2.elim
   .rw[ae (by rw[d];simp)];exact next (fw.refl w) H h
def thenS(K:RS->Env->ai->Prop)(Q:Exit->RS->Env->ai->Prop):Exit->RS->Env->ai->Prop
 | .normal=>K
 |e=>Q e
def FL(P:Program)(n:Nat):sV->Code->(Exit->RS->Env->ai->Prop)->RS->Env->ai->Prop
 | .seq a b,c,Q,f,σ,h=>(match c with
  | .seq c d=>FL P n a c (thenS (λDu g h'=>FL P n b d Q Du g h') Q) f σ h
  |_=>False)
 | .typed ty,c,Q,f,σ,h=>(match c with
  | .region _ o false=>iV P n o ty o.toList f σ h (Q .normal)
  |_=>False)
 | .leaf,c,Q,f,σ,h=>(match c with
  | .region _ o false=>iV P n o [] o.toList f σ h (Q .normal)
  |c=>den P n .leaf none c (λe g h'=>Q e f g h') σ h)
 |UM,c,Q,f,σ,h=>den P n UM none c (λe g h'=>Q e f g h') σ h
theorem N7{P:Program}{n:Nat}{c0:Frame}{cs0:List Frame}: ∀(A:sV)(c:Code)(Q:Exit->RS->Env->ai->Prop)(f:RS)(σ:Env)(a:Act)(w:World),Rel n σ a->FL P n A c Q f σ w.heap->
  c.wpS P (QX n a w (writes c) c0 cs0 Q) a ({ c0 with mode:=f.mode } ::cs0) w:=by
 have mono: ∀{c:Code}{Q J:Exit->Act->List Frame->World->Prop}{a:Act}{cs:List Frame}{w:World},c.wpS P Q a cs w->(∀e a cs w,Q e a cs w->J e a cs w)->c.wpS P J a cs w:=
  λh i b k K H=>let ⟨e,B,E,w',q,r⟩:=h b k K H;⟨e,B,E,w',i _ _ _ _ q,r⟩
 have j: ∀(A:sV)(c:Code)(Q:Exit->RS->Env->ai->Prop)(f:RS)(σ:Env)(a:Act)(w:World),Rel n σ a->den P n A none c (λe g h'=>Q e f g h') σ w.heap->
   c.wpS P (QX n a w (writes c) c0 cs0 Q) a ({ c0 with mode:=f.mode } ::cs0) w:=λA c Q f σ a w H h=>
  wpS_of_wp (wp_mono (jS A none c _ σ a w H h).wp λe B w' ⟨g,C,F,D,G⟩=>⟨f,g,rfl,C,F,D,G⟩)
 have R: ∀(id:Nat)(o:Array Oper)(ty:List (Nat×Sh))(Q:Exit->RS->Env->ai->Prop)(f:RS)(σ:Env)(a:Act)(w:World),Rel n σ a->iV P n o ty o.toList f σ w.heap (Q .normal)->
   (Code.region id o false).wpS P (QX n a w (cE o) c0 cs0 Q) a ({ c0 with mode:=f.mode } ::cs0) w:=λid o ty Q f σ a w H h=>by
  refine mono (wpS_region (Q:=QX n a w (cE o) c0 cs0 (Li (Q .normal))) ?_) ?_
  .have:=yo (c0:=c0) (cs0:=cs0) (a0:=a) (w0:=w) o.toList 0 f σ a w bP H (fw.refl w) (fk.refl _ _) h;rw[fG];rw[ee]at this;exact this
  .rintro e B E w' ⟨Du,g,C,F,D,G⟩;cases e with
   |normal=>exact⟨Du,g,C,F,D,G⟩
   |_=>exact D.elim
 intro A;induction A with
 |seq x y T U=>
  intro c Q f σ a w H h;unfold FL at h;split at h
  .rename_i c d;have m: ∀t,t∈writes c->t∈writes (.seq c d):=λt I=>dS _ I
   refine wpS_seq (mono (T c _ f σ a w H h) ?_);rintro e B E w' ⟨Du,g,rfl,s,i,u,v⟩;cases e with
   |normal=>
    refine mono (U d Q Du g B w' s i) ?_;rintro e2 a2 Y w2 ⟨V,W,C,N,M,O,S⟩;exact⟨V,W,C,N,M,u.trans O,(v.mono m).trans (S.mono λt I=>eH _ I)⟩
   |exit id=>exact⟨Du,g,rfl,s,i,u,v.mono m⟩
   |goto l=>exact⟨Du,g,rfl,s,i,u,v.mono m⟩
   |ret=>exact⟨Du,g,rfl,s,i,u,v.mono m⟩
   |panic X=>exact⟨Du,g,rfl,s,i,u,v.mono m⟩
   |outgrown=>exact⟨Du,g,rfl,s,i,u,v.mono m⟩
  .exact h.elim
 |typed ty=>
  intro c Q f σ a w H h;unfold FL at h;split at h
  .exact R _ _ ty Q f σ a w H h
  .exact h.elim
 |leaf=>
  intro c Q f σ a w H h;unfold FL at h;split at h
  .exact R _ _ [] Q f σ a w H h
  .exact j .leaf c Q f σ a w H h
 |cond x y=>exact λc Q f σ a w H h=>j _ c Q f σ a w H h
 |block x=>exact λc Q f σ a w H h=>j _ c Q f σ a w H h
 |loop L x=>exact λc Q f σ a w H h=>j _ c Q f σ a w H h
 |join L x=>exact λc Q f σ a w H h=>j _ c Q f σ a w H h
 |iC p=>exact λc Q f σ a w H h=>j _ c Q f σ a w H h
 |jz p=>exact λc Q f σ a w H h=>j _ c Q f σ a w H h
 |scope z L x y=>exact λc Q f σ a w H h=>j _ c Q f σ a w H h
def SL(P:Program)(r:Array ResultVar)(K:Option Value->ai->Prop):Exit->RS->Env->ai->Prop
 | .normal,a,σ,h=>sc P r.toList σ h λ_=>K a.left h
 | .ret,a,σ,h=>sc P r.toList σ h λ_=>K a.left h
 |_,_,_,_=>False
theorem pI{P:Program}{f:FuncId}{a:Func}{args:List Value}{rv:Option Value}{h:ai}{K:Option Value->ai->Prop}(j:sV)(x:P.funcs[f]? =some a)(g:a.body.isSome=true)(n:Nat.ble args.length a.ntmps=true)(hd:FL P a.ntmps j (sf a) (SL P a.results K) (RS.of rv) (lV args) h):pH P f args.toArray rv h K:=by
 obtain⟨c,m⟩:=dG.1 g;rw[sf,m]at hd;intro w I;subst I;have n:=Nat.le_of_ble_eq_true n;refine callsD_of_wpS x m λc0 cs B=> ?_
 have E:c0= { c0 with mode:=(RS.of rv).mode } :=by rw[RS.N4,<-B]
 have C:Rel a.ntmps (lV args) { tmps:=args.toArray++Array.replicate (a.ntmps - args.toArray.size) undef,defers:= [] } :=by
  refine⟨rfl,by simp;omega,λt v i=> ?_⟩;unfold lV at i;have z:t<args.length:=(aB.1 i).1;simp only[eS];rw[dz (by simpa using z)];simp[i]
 have key:=N7 (c0:=c0) (cs0:=cs) j c _ (RS.of rv) _ _ w C hd;rw[<-E]at key;intro b k g D;obtain⟨e,A,L,w',⟨d,σ,rfl,o,H,G,_⟩,s⟩:=key b k g D;refine⟨e,A,_,w',?_,s⟩;have fin:(sc P a.results.toList σ w'.heap λ_=>K d.left w'.heap)->A.defers= []/\∃u,({ c0 with mode:=d.mode } ::cs:List Frame)= { c0 with mode:=u } ::cs/\∃v,(results a A.tmps).run P w'=.ok v w'/\(∃V,Ending.returned v=.returned V)/\fw w w'/\∃r,Go.settle u=wE r/\K r w'.heap:=λy=>by
  obtain⟨v,p,q⟩:=sd (F:=λ_=>K d.left w'.heap) o y;exact⟨o.defers,d.mode,rfl,v,pz _ _ _ q,⟨v,rfl⟩,G,d.left,RS.settle d,p⟩
 cases e with
 |normal=>exact fin H
 |ret=>exact fin H
 |exit id=>exact H.elim
 |goto l=>exact H.elim
 |panic J=>exact H.elim
 |outgrown=>exact H.elim
end Go.Den
namespace Go.Den
theorem kj{h:ai}{b i:Nat}{c:Array Value}{t:TypeId}{f:Nat×Nat}(H:h[b]? =some (.cells c t f)):bg h (AA b i)=c[i]? :=by
 simp[bg,H]
theorem mD{h:ai}{b i:Nat}{c:Array Value}{t:TypeId}(H:h[b]? =some (.cells c t (0,0))):oa h (AA b i)=false:=by
 simp[oa,H]
theorem yq{h:ai}{a:Addr}{v:Value}(H:bg h a=some v): ∃c t f,h[a.block]? =some (.cells c t f)/\a.spot=none/\c[a.off]? =some v:=by
 unfold bg at H;split at H
 .rename_i c t f b;split at H
  .cases H
  .rename_i d;exact⟨c,t,f,b,by simpa using d,H⟩
 .cases H
theorem aD{h:ai}{b:Nat}{o:Obj}(H:h[b]? =some o):b<h.size:=(Array.getElem?_eq_some_iff.1 H).1
theorem yr{h:ai}{b:Nat}{o x:Obj}(H:h[b]? =some o):(h.push x)[b]? =some o:=by
 rw[fu,ae (Nat.ne_of_lt (aD H)),H]
theorem bV{h:ai}{x:Obj}:(h.push x)[h.size]? =some x:=bP
theorem vg{h:ai}{b i:Nat}{c:Array Value}{t:TypeId}{f:Nat×Nat}{v:Value}(H:h[b]? =some (.cells c t f)):(mX h (AA b i) v)[b]? =some (.cells (c.setIfInBounds i v) t f):=by
 simp[mX,dO,H]
theorem si{h:ai}{a:Addr}{b:Nat}{v:Value}(H:b≠a.block):(mX h a v)[b]? =h[b]? :=by
 simp[mX,dO,fo H]
theorem A5{h:ai}{a:Addr}{v:Value}:(mX h a v).size=h.size:=by simp[mX]
theorem gz(b o n:Nat):((AA b o):Addr).add n=(AA b (o+n)):=by
 unfold Addr.add;split
 .rename_i h;subst h;rfl
 .rfl
theorem add_add(a:Addr)(m n:Nat):(a.add m).add n=a.add (m+n):=by
 unfold Addr.add;split
 .rename_i h;subst h;simp
 .split
  .rename_i h H;subst H;simp[h]
  .rename_i h H;have:m+n≠0:=ag
   rw[ae this];simp[Nat.add_assoc]
def Fr(S:Nat->Prop)(h h':ai):Prop:=h.size<=h'.size/\∀c,c<h.size->¬S c->h'[c]? =h[c]?
theorem Fr.refl(S:Nat->Prop)(h:ai):Fr S h h:=⟨bk _,λ_ _ _=>rfl⟩
theorem Fr.get{S:Nat->Prop}{h h':ai}(a:Fr S h h'){c:Nat}{o:Obj}(H:h[c]? =some o)(b: ¬S c):h'[c]? =some o:=
 (a.2 c (aD H) b).trans H
theorem Fr.trans{S s S'':Nat->Prop}{h d e:ai}(a:Fr S h d)(f:Fr s d e)(i: ∀c,c<h.size->S c->S'' c)(j: ∀c,c<h.size->s c->S'' c):Fr S'' h e:=
 ⟨cW a.1 f.1,λc H g=>(f.2 c (cC H a.1) (λb=>g (j c H b))).trans (a.2 c H (λb=>g (i c H b)))⟩
theorem Fr.mono{S s:Nat->Prop}{h h':ai}(a:Fr S h h')(e: ∀c,c<h.size->S c->s c):Fr s h h':=
 ⟨a.1,λc H b=>a.2 c H (λd=>b (e c H d))⟩
theorem Fr.push{S:Nat->Prop}(h:ai)(o:Obj):Fr S h (h.push o):=
 ⟨bP,λc H _=>by rw[fu,ae (Nat.ne_of_lt H)]⟩
theorem Fr.cell{S:Nat->Prop}{h h':ai}(d:Fr S h h'){a:Addr}{v:Value}(b:bg h a=some v)(e: ¬S a.block):bg h' a=some v:=by
 obtain⟨c,t,f,H,g,i⟩:=yq b;have:=d.get H e;unfold bg;rw[this];simp[g,i]
def iD(l:List (Int×Value))(k:Int):Option Value:=(l.find? (·.1==k)).map (·.2)
def DL(l:List (Int×Value))(k:Int)(v:Value):List (Int×Value):=if(iD l k).isSome=true then l.map (λe=>if e.1==k then(k,v)else e)else l++ [(k,v)]
def vh(l:List (Int×Value))(k:Int):List (Int×Value):=l.filter (λe=> !(e.1==k))
theorem Lj(k:Int):iD [] k=none:=rfl
theorem gw(e:Int×Value)(l:List (Int×Value))(k:Int):iD (e::l) k=if e.1=k then some e.2 else iD l k:=by
 unfold iD;by_cases h:e.1=k<;>simp[h]
theorem DM{l:List (Int×Value)}{k:Int}:(iD l k).isSome=true↔k∈l.map (·.1):=by
 induction l with
 |nil=>simp[iD]
 |cons e l i=>
  rw[gw,bX,bH];by_cases h:e.1=k
  .simp[h]
  .rw[ae h,i];constructor
   .exact λhm=> .inr hm
   .rintro(E|hm)
    .exact absurd E.symm h
    .exact hm
theorem yt(l:List (Int×Value))(k k':Int)(v:Value)(H:k'≠k):iD (l.map (λe=>if e.1==k then(k,v)else e)) k'=iD l k':=by
 induction l with
 |nil=>rfl
 |cons e l i=>
  rw[bX,gw,gw,i];by_cases h:e.1=k
  .simp[h,fo H]
  .simp[h]
theorem Ap(l:List (Int×Value))(k:Int)(v:Value)(H:(iD l k).isSome=true):iD (l.map (λe=>if e.1==k then(k,v)else e)) k=some v:=by
 induction l with
 |nil=>simp[iD]at H
 |cons e l i=>
  rw[bX,gw];by_cases h:e.1=k
  .simp[h]
  .rw[gw,ae h]at H;have a:(e.1==k)=false:=by simp[h]
   rw[a];simp only[au,aM,ae h];exact i H
theorem DN(l L:List (Int×Value))(k:Int):iD (l++L) k=(iD l k).or (iD L k):=by
 induction l with
 |nil=>simp[iD]
 |cons e l i=>
  rw[eR,gw,gw,i];by_cases h:e.1=k<;>simp[h]
theorem I6(l:List (Int×Value))(k k':Int)(v:Value):iD (DL l k v) k'=if k'=k then some v else iD l k':=by
 unfold DL;by_cases H:(iD l k).isSome=true
 .rw[af H];by_cases h:k'=k
  .subst h;rw[af rfl,Ap _ _ _ H]
  .rw[ae h,yt _ _ _ _ h]
 .rw[ae H,DN,gw,Lj];have a:iD l k=none:=by simpa using H
  by_cases h:k'=k
  .subst h;simp[a]
  .simp[h,fo h]
theorem I7(l:List (Int×Value))(k k':Int):iD (vh l k) k'=if k'=k then none else iD l k':=by
 unfold vh;induction l with
 |nil=>simp[iD]
 |cons e l i=>
  rw[ch,gw];by_cases h:e.1=k
  .subst h;simp only[fc,cN,au,aM];rw[i];by_cases hk:k'=e.1
   .simp[hk]
   .simp[hk,fo hk]
  .have H:(!(e.1==k))=true:=by simp[h]
   rw[af H,gw,i];by_cases hk:k'=k
   .subst hk;simp[h]
   .simp[hk]
theorem I8(l:List (Int×Value))(k:Int)(v:Value)(d:(l.map (·.1)).Nodup):((DL l k v).map (·.1)).Nodup:=by
 unfold DL;by_cases H:(iD l k).isSome=true
 .rw[af H];have:(l.map (λe=>if e.1==k then(k,v)else e)).map (·.1)=l.map (·.1):=by
   rw[dE];apply eh
   intro e _;by_cases h:e.1=k<;>simp[h]
  rw[this];exact d
 .rw[ae H,aZ];rw[DM]at H;rw[eK];exact⟨d,bP,by intro a f b c;simp at c;subst c;intro e;subst e;exact H f⟩
theorem I9(l:List (Int×Value))(k:Int)(h:(l.map (·.1)).Nodup):((vh l k).map (·.1)).Nodup:=
 List.Sublist.nodup (fx _ cJ) h
def pJ(h:ai)(m:Nat)(l:List (Int×Value)):Prop:=
 ∃(es:Array MapEntry)(c:Nat),h[m]? =some (.map es c)/\es.toList.map (λe=>(e.key,e.val))=l.map (λe=>(Value.int .i64 e.1,e.2))/\(l.map (·.1)).Nodup/\
  (∀e∈es.toList,e.born<c)/\(es.toList.map (·.born)).Nodup
def mv(h:ai)(m:Nat)(f:Int->Option Value):Prop:= ∃l,pJ h m l/\∀k,iD l k=f k
theorem pJ.lW{h h':ai}{m:Nat}{l:List (Int×Value)}(d:pJ h m l)(b:h'[m]? =h[m]?):pJ h' m l:=by
 obtain⟨es,c,H,a⟩:=d;exact⟨es,c,b.trans H,a⟩
theorem pJ.lt{h:ai}{m:Nat}{l:List (Int×Value)}(a:pJ h m l):m<h.size:=by
 obtain⟨es,c,H,_⟩:=a;exact aD H
theorem pJ.frame{S:Nat->Prop}{h h':ai}{m:Nat}{l:List (Int×Value)}(H:pJ h m l)(a:Fr S h h')(b: ¬S m):pJ h' m l:=
 H.lW (a.2 m H.lt b)
theorem mv.lW{h h':ai}{m:Nat}{f:Int->Option Value}(c:mv h m f)(b:h'[m]? =h[m]?):mv h' m f:=by
 obtain⟨l,H,a⟩:=c;exact⟨l,H.lW b,a⟩
theorem mv.lt{h:ai}{m:Nat}{f:Int->Option Value}(a:mv h m f):m<h.size:=by
 obtain⟨l,H,_⟩:=a;exact H.lt
theorem mv.frame{S:Nat->Prop}{h h':ai}{m:Nat}{f:Int->Option Value}(c:mv h m f)(b:Fr S h h')(d: ¬S m):mv h' m f:=by
 obtain⟨l,H,a⟩:=c;exact⟨l,H.frame b d,a⟩
theorem mv.map{h:ai}{m:Nat}{f:Int->Option Value}(a:mv h m f): ∃es c,h[m]? =some (.map es c):=by
 obtain⟨l,⟨es,c,H,_⟩,_⟩:=a;exact⟨es,c,H⟩
theorem pJ.push(h:ai):pJ (h.push (.map #[] 0)) h.size []:=⟨#[],0,bV,rfl,bP,bP,bP⟩
theorem mv.push(h:ai):mv (h.push (.map #[] 0)) h.size (λ_=>none):=⟨[],pJ.push h,λ_=>rfl⟩
theorem pL{k:Int}: ∀(es:List MapEntry)(l:List (Int×Value))(i:Nat)(d:IntKind),es.map (λe=>(e.key,e.val))=l.map (λe=>(Value.I e.1,e.2))->
  (iD l k=none->Instr.findNow (.int d) (.I k) es i=some none)/\
  (∀v,iD l k=some v->∃j,Instr.findNow (.int d) (.I k) es i=some (some (i+j,v))/\∃e,es[j]? =some e/\e.key=.I k/\e.val=v)
 | [],l,i,d,h=>by
  have:l= []:=by cases l<;>simp at h⊢
  subst this;exact⟨λ_=>rfl,λv f=>by simp[iD]at f⟩
 |e::es,l,i,d,h=>by
  cases l with
  |nil=>simp at h
  |cons x l=>
   simp only[bX,List.cons.injEq,gh]at h;obtain⟨⟨hk,f⟩,p⟩:=h;have I:=pL (k:=k) es l (i+1) d p;have c:Instr.sameNow (.int d) (.I k) e.key=some (k==x.1):=by rw[hk];simp[Instr.sameNow]
   by_cases a:x.1=k
   .refine⟨(λb=>by rw[gw,af a]at b;cases b),λv H=>⟨0,?_,e,rfl,by rw[hk,a],?_⟩⟩
    .rw[gw,af a]at H;simp only[br]at H;simp[Instr.findNow,c,a,f,H]
    .rw[gw,af a]at H;simp only[br]at H;rw[f,H]
   .have o:(k==x.1)=false:=by simp[fo a]
    rw[o]at c;refine⟨λb=> ?_,λv H=> ?_⟩
    .rw[gw,ae a]at b;simp only[Instr.findNow,c];exact I.1 b
    .rw[gw,ae a]at H;obtain⟨j,g,E,m,n⟩:=I.2 v H;refine⟨j+1,?_,E,by simpa using m,n⟩;simp only[Instr.findNow,c];rw[g,show i+1+j=i+(j+1) by omega]
section
variable {P : Program}
theorem pM{e:Bool}{n:Nat}{t:TypeId}{d:IntKind}{v:Value}{h:ai}(H:P.underlying t=some (.int d)):rd P (Instr.checkKey e (n+1) t v) h=some ():=by
 unfold Instr.checkKey;rw[bt _ _ _ _ (bA H)];rfl
theorem kR{t:TypeId}{d:IntKind}{k:Int}{es:List MapEntry}{l:List (Int×Value)}{h:ai}(a:P.underlying t=some (.int d))(H:es.map (λe=>(e.key,e.val))=l.map (λe=>(Value.I e.1,e.2)))(hk:iD l k=none):rd P (Instr.findKey t (.I k) es) h=some none:=by
 unfold Instr.findKey;rw[bt _ _ _ _ (bA a)];simp only[(pL es l 0 d H).1 hk];rfl
theorem kT{t:TypeId}{d:IntKind}{k:Int}{v:Value}{es:List MapEntry}{l:List (Int×Value)}{h:ai}(c:P.underlying t=some (.int d))(b:es.map (λe=>(e.key,e.val))=l.map (λe=>(Value.I e.1,e.2)))(hk:iD l k=some v): ∃j,rd P (Instr.findKey t (.I k) es) h=some (some (j,v))/\∃e,es[j]? =some e/\e.key=.I k/\e.val=v:=by
 obtain⟨j,H,a⟩:=(pL es l 0 d b).2 v hk;refine⟨j,?_,a⟩;unfold Instr.findKey;rw[bt _ _ _ _ (bA c)];simp only[H,bL];rfl
theorem iE{t:TypeId}{i:TypeInfo}{z:Value}{h:ai}(H:P.info? t=some i)(a:i.zero=some z):rd P (zeroValue t) h=some z:=by
 unfold zeroValue;rw[bt _ _ _ _ (gQ H),a];rfl
theorem iO{r:Nat}{es:Array MapEntry}{c:Nat}{h:ai}(H:h[r]? =some (.map es c)):rd P (getObj r) h=some (.map es c):=by
 unfold getObj;simp only[rd,H]
structure pO (P:Program) (t:TypeId) (z:Value):Prop where
 ty: ∃k e d,P.underlying t=some (.map k e)/\P.underlying k=some (.int d)/\∃i,P.info? e=some i/\i.zero=some z
theorem pO.of{P:Program}{t:TypeId}{z:Value}(k e:TypeId)(d:IntKind)(a:P.underlying t=some (.map k e))(b:P.underlying k=some (.int d))(h:(P.info? e).bind (·.zero)=some z):pO P t z:=by
 cases H:P.info? e with
 |none=>rw[H]at h;cases h
 |some i=>exact⟨k,e,d,a,b,i,H,by rw[H]at h;exact h⟩
theorem DO{t:TypeId}{z:Value}(T:pO P t z){h:ai}{m:Nat}{l:List (Int×Value)}(g:pJ h m l)(k:Int):
  rd P (Instr.lookup t (.map (some m)) (.I k) false) h=some ((iD l k).getD z)/\
  rd P (Instr.lookup t (.map (some m)) (.I k) true) h=some (.tuple #[(iD l k).getD z,.bool (iD l k).isSome]):=by
 obtain⟨kt,e,d,n,hk,i,f,o⟩:=T.ty;obtain⟨es,C,c,a,_⟩:=g;have gen: ∀ok:Bool,rd P (Instr.lookup t (.map (some m)) (.I k) ok) h=some (if ok then .tuple #[(iD l k).getD z,.bool (iD l k).isSome]else(iD l k).getD z):=λok=>by
  unfold Instr.lookup;rw[bt _ _ _ _ (bA n)];simp only;rw[bt _ _ _ _ (iO c)];simp only;rw[bt _ _ _ _ (iU _),bt _ _ _ _ (pM hk)];cases H:iD l k with
  |none=>
   rw[bt _ _ _ _ (kR hk a H)];simp only;rw[bt _ _ _ _ (iE f o)];cases ok<;>rfl
  |some v=>
   obtain⟨j,b,_⟩:=kT (h:=h) hk a H;rw[bt _ _ _ _ b];simp only;cases ok<;>rfl
 exact⟨gen false,gen true⟩
theorem A6{t:TypeId}{z:Value}(T:pO P t z){h:ai}{m:Nat}{f:Int->Option Value}(b:mv h m f)(k:Int):
  hI P t (.map (some m)) (.I k) false h ((f k).getD z):=λh' c=>by
 obtain⟨l,a,H⟩:=b;rw[<-H k];exact(DO T (a.lW c) k).1
theorem Cj{t:TypeId}{z:Value}(T:pO P t z){h:ai}{m:Nat}{f:Int->Option Value}(b:mv h m f)(k:Int):
  hI P t (.map (some m)) (.I k) true h (.tuple #[(f k).getD z,.bool (f k).isSome]):=λh' c=>by
 obtain⟨l,a,H⟩:=b;rw[<-H k];exact(DO T (a.lW c) k).2
theorem bT{α b:Type}{s:Sem α}{g:α->Sem b}{h:ai}{a:α}{K:b->ai->Prop}(H:rd P s h=some a)(hk:aW P (g a) h K):aW P (s>>=g) h K:=
 (dB s g K).2 (K2 s h a H _ hk)
theorem FM{es:List MapEntry}{l:List (Int×Value)}{k:Int}{v:Value}{j:Nat}(q:es.map (λe=>(e.key,e.val))=l.map (λe=>(Value.I e.1,e.2)))(r:(l.map (·.1)).Nodup){e:MapEntry}(d:es[j]? =some e)(hk:e.key=.I k)(f:MapEntry->MapEntry)(o: ∀e:MapEntry,(f e).key=.I k/\(f e).val=v):
  (es.modify j f).map (λe=>(e.key,e.val))=(l.map (λe=>if e.1==k then(k,v)else e)).map (λe=>(Value.I e.1,e.2)):=by
 apply eV
 intro i;have m: ∀i:Nat,(es[i]?).map (λe:MapEntry=>(e.key,e.val))=(l[i]?).map (λe:Int×Value=>(Value.I e.1,e.2)):=λi=>by
  have:=bU (·[i]?) q;simpa using this
 have H:=m j;rw[d]at H;cases a:l[j]? with
 |none=>rw[a]at H;simp at H
 |some x=>
  rw[a]at H;simp only[cZ,br,gh]at H;have n:x.1=k:=by have:=H.1.symm.trans hk;simpa using this
  simp only[aK,List.getElem?_modify,Option.map_map];by_cases c:j=i
  .subst c;simp[d,a,o,n]
  .have h:=m i;cases g:es[i]? with
   |none=>
    rw[g]at h;cases b:l[i]? with
    |none=>simp
    |some y=>rw[b]at h;simp at h
   |some E=>
    rw[g]at h;cases b:l[i]? with
    |none=>rw[b]at h;simp at h
    |some y=>
     rw[b]at h;simp only[cZ,br,gh]at h;have t:y.1≠k:=by
      intro s;apply c
      have p:j<(l.map (·.1)).length:=by simpa using (aB.1 a).1
      refine(eg p r).1 ?_;simp[a,b,n,s]
     simp[c,t,h.1,h.2]
theorem Aq{t:TypeId}{z:Value}(T:pO P t z){h:ai}{m:Nat}{l:List (Int×Value)}(R:pJ h m l){k:Int}{v:Value}{K:Unit->ai->Prop}(hk: ∀h',pJ h' m (DL l k v)->h'.size=h.size->(∀c,c≠m->h'[c]? =h[c]?)->K () h'):aW P (Instr.mapUpdate t (.map (some m)) (.I k) v) h K:=by
 obtain⟨kt,e,d,U,s,_⟩:=T.ty;obtain⟨es,V,r,o,F,x,G⟩:=R;have Q:=aD r;unfold Instr.mapUpdate;refine bT (bA U) ?_;simp only;refine bT (iO r) ?_;simp only;refine bT (pM s) ?_;have fin: ∀(E:Array MapEntry)(C:Nat),E.toList.map (λe=>(e.key,e.val))=(DL l k v).map (λe=>(Value.I e.1,e.2))->(∀e∈E.toList,e.born<C)->(E.toList.map (·.born)).Nodup->
   aW P (setObj m (.map E C)) h K:=λE C q I J=>by
  refine⟨⟨_,r,λc e f N=>by cases N⟩,?_⟩;refine hk _ ⟨E,C,by simp[Q],q,I8 l k v F,I,J⟩ bP (λc M=> ?_);rw[cB,ae (fo M)]
 cases n:iD l k with
 |none=>
  refine bT (kR s o n) ?_;simp only;refine fin _ _ ?_ ?_ ?_
  .unfold DL;rw[n];simp[o]
  .intro p H;simp only[Array.toList_push,bM,bN]at H;rcases H with H|rfl
   .exact Nat.lt_succ_of_lt (x _ H)
   .exact Nat.lt_succ_self _
  .simp only[Array.toList_push,aZ,bX,List.map_nil];rw[eK];refine⟨G,bP,?_⟩;intro a L b A;simp at A;subst A;obtain⟨p,H,rfl⟩:=bh.1 L;exact Nat.ne_of_lt (x _ H)
 |some u=>
  obtain⟨j,q,p,H,D,_⟩:=kT (h:=h) s o n;refine bT q ?_;simp only;have O:es[j]? =some p:=by simpa using H
  have S:rd P (Instr.keyThatStays (((es[j]?).map (·.key)).getD (.I k)) (.I k)) h=some (.I k):=by
   rw[O];simp only[cZ,Option.getD_some,D];unfold Instr.keyThatStays;have:Instr.sameBits 10000 (.I k) (.I k)=true:=by unfold Instr.sameBits;simp
   rw[af this];rfl
  refine bT S ?_;refine fin _ _ ?_ ?_ ?_
  .unfold DL;rw[n];simp only[Option.isSome_some,bj];rw[Array.toList_modify];exact FM o F H D _ (λe=>⟨rfl,rfl⟩)
  .intro e2 B;rw[Array.toList_modify]at B;obtain⟨i,g⟩:=bE B;rw[List.getElem?_modify]at g;cases w:es.toList[i]? with
   |none=>rw[w]at g;simp at g
   |some y=>
    rw[w]at g;have:=x y (bn w);simp only[Option.map_eq_map,cZ,br]at g;subst g;split<;>exact this
  .rw[Array.toList_modify];have:(es.toList.modify j λe=> { e with key:=Value.I k,val:=v }).map (·.born)=es.toList.map (·.born):=by
    apply eV
    intro i;simp only[aK,List.getElem?_modify];cases es.toList[i]? with
    |none=>rfl
    |some y=>simp only[Option.map_eq_map,cZ];split<;>rfl
   rw[this];exact G
theorem lX{t:TypeId}{z:Value}(T:pO P t z){h:ai}{m:Nat}{f:Int->Option Value}(g:mv h m f){k:Int}{v:Value}{K:Unit->ai->Prop}(hk: ∀h',mv h' m (λx=>if x=k then some v else f x)->h'.size=h.size->(∀c,c≠m->h'[c]? =h[c]?)->K () h'):aW P (Instr.mapUpdate t (.map (some m)) (.I k) v) h K:=by
 obtain⟨l,e,d⟩:=g;refine Aq T e λh' H a b=>hk h' ⟨_,H,λx=> ?_⟩ a b
 rw[I6,d]
theorem erase_filter{es:List MapEntry}{l:List (Int×Value)}{k:Int}(f:es.map (λe=>(e.key,e.val))=l.map (λe=>(Value.I e.1,e.2)))(c:(l.map (·.1)).Nodup):
  ∀{j:Nat}{e:MapEntry},es[j]? =some e->e.key=.I k->(es.eraseIdx j).map (λe=>(e.key,e.val))=(vh l k).map (λe=>(Value.I e.1,e.2)):=by
 induction es generalizing l with
 |nil=>intro j e b;simp at b
 |cons x es I=>
  intro j e b hk;cases l with
  |nil=>simp at f
  |cons y l=>
   simp only[bX,List.cons.injEq,gh]at f;obtain⟨⟨i,o⟩,d⟩:=f;simp only[bX,eP]at c;obtain⟨n,c⟩:=c;cases j with
   |zero=>
    simp only[dw,br]at b;subst b;have H:y.1=k:=by have:=i.symm.trans hk;simpa using this
    have:vh (y::l) k=l:=by
     unfold vh;rw[ch,ae (by simp[H])];rw[cj];intro a p;have:a.1≠k:=λe=>n (by rw[H,<-e];exact bx p)
     simp[this]
    rw[this];simpa using d
   |succ j=>
    have m:es[j]? =some e:=by simpa using b
    have H:y.1≠k:=by
     intro H;apply n
     have h:=bU (·[j]?) d;simp only[aK,m,cZ]at h;cases g:l[j]? with
     |none=>rw[g]at h;simp at h
     |some z=>
      rw[g]at h;simp only[cZ,br,gh]at h;have q:z.1=k:=by have:=h.1.symm.trans hk;simpa using this
      rw[H,<-q];exact bx (bn g)
    have:vh (y::l) k=y::vh l k:=by
     unfold vh;rw[ch,af (by simp[H])]
    rw[this];simp only[List.eraseIdx_cons_succ,bX,i,o];rw[I d c m hk]
theorem FN{t L ty:TypeId}{z:Value}(T:pO P t z){h:ai}{m:Nat}{l:List (Int×Value)}(b:pJ h m l){k:Int}{K:fp}(hk: ∀h',pJ h' m (vh l k)->h'.size=h.size->(∀c,c≠m->h'[c]? =h[c]?)->K (.tuple #[]) h'):aW P (Builtin.delete_ #[t,L] ty #[.map (some m),.I k]) h K:=by
 obtain⟨kt,e,d,J,p,_⟩:=T.ty;obtain⟨es,C,n,H,q,s,r⟩:=b;have I:=aD n;unfold Builtin.delete_;refine bT (bA J) ?_;show aW P (do
   let __x<-getObj m
   match __x with
    |Obj.map es C=>do
     Instr.checkKey es.isEmpty 10000 kt (Value.int IntKind.i64 k)
     let __do_lift<-Instr.findKey kt (Value.int IntKind.i64 k) es.toList
     match __do_lift with
      |some (i,_)=>do
       setObj m (Obj.map (es.eraseIdxIfInBounds i) C)
       pure (Value.tuple #[])
      |none=>do
       setObj m (Obj.map es C)
       pure (Value.tuple #[])
    |_=>do
     stuck "delete: map expected"
     pure (Value.tuple #[])) h K
 refine bT (iO n) ?_;simp only;refine bT (pM p) ?_;have fin: ∀(E:Array MapEntry),E.toList.map (λe=>(e.key,e.val))=(vh l k).map (λe=>(Value.I e.1,e.2))->(∀e∈E.toList,e.born<C)->(E.toList.map (·.born)).Nodup->
   aW P (do setObj m (.map E C);pure (Value.tuple #[])) h K:=λE g w x=>by
  rw[dB];refine⟨⟨_,n,λc e f B=>by cases B⟩,?_⟩;refine hk _ ⟨E,C,by simp[I],g,I9 l k q,w,x⟩ bP (λc A=> ?_);rw[cB,ae (fo A)]
 cases o:iD l k with
 |none=>
  refine bT (kR p H o) ?_;refine fin es ?_ s r;have:vh l k=l:=by
   unfold vh;rw[cj];intro a y;have:a.1≠k:=λe=>by
    have b:k∈l.map (·.1):=e▸bx y;rw[<-DM,o]at b;cases b
   simp[this]
  rw[this];exact H
 |some u=>
  obtain⟨j,g,M,D,G,_⟩:=kT (h:=h) p H o;refine bT g ?_;have v:List.Sublist (es.eraseIdxIfInBounds j).toList es.toList:=by
   rw[Array.toList_eraseIdxIfInBounds];exact List.eraseIdx_sublist _ _
  refine fin _ ?_ ?_ ?_
  .rw[Array.toList_eraseIdxIfInBounds];exact erase_filter H q D G
  .intro e2 F;exact s e2 (v.subset F)
  .exact(v.map _).nodup r
theorem wF{t i ty:TypeId}{z:Value}(T:pO P t z){h:ai}{m:Nat}{f:Int->Option Value}(g:mv h m f){k:Int}{K:fp}(hk: ∀h',mv h' m (λx=>if x=k then none else f x)->h'.size=h.size->(∀c,c≠m->h'[c]? =h[c]?)->K (.tuple #[]) h'):aW P (Builtin.delete_ #[t,i] ty #[.map (some m),.I k]) h K:=by
 obtain⟨l,e,d⟩:=g;refine FN T e λh' H a b=>hk h' ⟨_,H,λx=> ?_⟩ a b
 rw[I7,d]
end
end Go.Den
namespace Go.Den
theorem cH{h:ai}{b i:Nat}{c:Array Value}{t:TypeId}{f:Nat×Nat}{v:Value}(H:h[b]? =some (.cells c t f))(a:c[i]? =some v):bg h (AA b i)=some v:=by
 rw[kj H,a]
theorem bw{h:ai}{b i:Nat}{c:Array Value}{t:TypeId}{v:Value}{K:ai->Prop}(H:h[b]? =some (.cells c t (0,0)))(a:i<c.size)(hk: ∀h',h'[b]? =some (.cells (c.setIfInBounds i v) t (0,0))->h'.size=h.size->(∀x,x≠b->h'[x]? =h[x]?)->K h'):aS h (AA b i) v K:=by
 refine⟨?_,mD H,?_⟩
 .rw[kj H];simp[a]
 .rintro _ rfl;exact hk _ (vg H) A5 (λx d=>si d)
theorem Fr.of_eq{S:Nat->Prop}{h h':ai}(b:h'.size=h.size)(a: ∀c,¬S c->h'[c]? =h[c]?):Fr S h h':=⟨ag,λc _ H=>a c H⟩
theorem bD{n:Int}(h: -9223372036854775808<=n)(H:n<=9223372036854775807):IntKind.wrap .i64 n=n:=IntWalk.i64_in n ⟨h,H⟩
theorem wrap_u64{n:Int}(h:0<=n)(H:n<=18446744073709551615):IntKind.wrap .u64 n=n:=IntWalk.u64_in n ⟨h,H⟩
theorem wrap_u8{n:Int}(h:0<=n)(H:n<=255):IntKind.wrap .u8 n=n:=IntWalk.u8_in n ⟨h,H⟩
theorem Fr.kp{h h':ai}{l:List (cy)}(f:Fr (λ_=>False) h h'):Kp h h' l:=λ_ _ x _ H=>f.2 x.block H id
theorem Fr.SM{S:Nat->Prop}{h h':ai}{l:List (cy)}(f:Fr S h h')(H: ∀p∈l,∀x,p=some x->¬S x.block):Kp h h' l:=λp a x e b=>f.2 x.block b (H p a x e)
theorem Fr.no{h H a:ai}{S:Nat->Prop}(b:Fr (λ_=>False) h H)(c:Fr S H a):Fr S h a:=b.trans c (λ_ _=>False.elim) cb
theorem Fr.on{h H a:ai}{S:Nat->Prop}(b:Fr S h H)(c:Fr (λ_=>False) H a):Fr S h a:=b.trans c cb (λ_ _=>False.elim)
theorem Fr.tt{h H a:ai}{S:Nat->Prop}(b:Fr S h H)(c:Fr S H a):Fr S h a:=b.trans c cb cb
theorem Fr.step{S:Nat->Prop}{h a b:ai}(e:Fr (λ_=>False) h a)(g:Fr S a b)(f: ∀c,c<h.size->¬S c):Fr (λ_=>False) h b:=
 e.trans g (λ_ _ H=>H) (λc d H=>f c d H)
end Go.Den
namespace Go.Den
section
variable {h:ai}
abbrev fW(h:ai)(a:Addr)(K:Int→Prop):Prop:= ∃t,bg h a=some (.int .u64 t)∧K t
abbrev jk(h:ai)(a:Addr)(K:Int→Prop):Prop:= ∃t,bg h a=some (.int .i64 t)∧K t
abbrev HL(h:ai)(a:Addr)(K:Int→Prop):Prop:= ∃t,bg h a=some (.int .u8 t)∧K t
abbrev tj(h:ai)(a:Addr)(K:Bool→Prop):Prop:= ∃t,bg h a=some (.bool t)∧K t
abbrev yu(h:ai)(a:Addr)(K:Option Addr→Prop):Prop:= ∃t,bg h a=some (.pointer t)∧K t
abbrev mE(h:ai)(a:Addr)(K:ByteArray→Prop):Prop:= ∃t,bg h a=some (.string t)∧K t
abbrev oP(h:ai)(a:Addr)(K:Option Addr→Nat→Nat→Prop):Prop:= ∃p l c,bg h a=some (.slice p l c)∧K p l c
abbrev Hu(h:ai)(b i:Nat)(K:Int→Prop):Prop:= ∃t,bg h ⟨b,i,none⟩=some (.int .u64 t)∧K t
abbrev Hi(h:ai)(b i:Nat)(K:Int→Prop):Prop:= ∃t,bg h ⟨b,i,none⟩=some (.int .i64 t)∧K t
abbrev Hy(h:ai)(b i:Nat)(K:Int→Prop):Prop:= ∃t,bg h ⟨b,i,none⟩=some (.int .u8 t)∧K t
abbrev Hb(h:ai)(b i:Nat)(K:Bool→Prop):Prop:= ∃t,bg h ⟨b,i,none⟩=some (.bool t)∧K t
abbrev Hp(h:ai)(b i:Nat)(K:Option Addr→Prop):Prop:= ∃t,bg h ⟨b,i,none⟩=some (.pointer t)∧K t
abbrev Hs(h:ai)(b i:Nat)(K:ByteArray→Prop):Prop:= ∃t,bg h ⟨b,i,none⟩=some (.string t)∧K t
abbrev Hl(h:ai)(b i:Nat)(K:Option Addr→Nat→Nat→Prop):Prop:= ∃p l c,bg h ⟨b,i,none⟩=some (.slice p l c)∧K p l c
abbrev Vb(v:Value)(K:Bool→Prop):Prop:= ∃t,v=.bool t∧K t
abbrev Vi(v:Value)(K:Int→Prop):Prop:= ∃t,v=.int .i64 t∧K t
abbrev Vu(v:Value)(K:Int→Prop):Prop:= ∃t,v=.int .u64 t∧K t
abbrev Vp(v:Value)(K:Option Addr→Prop):Prop:= ∃t,v=.pointer t∧K t
abbrev Vl(v:Value)(K:Option Addr→Nat→Nat→Prop):Prop:= ∃p l c,v=.slice p l c∧K p l c
abbrev Bd(i:Int)(n:Nat):Prop:=(0:Int)≤i∧i<((n:Nat):Int)
abbrev Cc(h:ai)(b i:Nat)(v:Value):Prop:=bg h ⟨b,i,none⟩=some v
abbrev No:Nat→Prop:=λ_=>False
abbrev lf:sV:=.leaf
abbrev ll:sV:=.seq .leaf .leaf
abbrev lq(a:sV):sV:=.seq .leaf a
abbrev sq(a b:sV):sV:=.seq a b
abbrev cq(a b:sV):sV:=.cond a b
abbrev bq(a:sV):sV:=.block a
abbrev pK(n:Nat):sV:=.jz (fC n 0 .done)
abbrev pN(n:Nat):sV:=.iC (fC n 0 .done)
theorem aO{P:Program}{f:FuncId}{F:Func}{args:List Value}{R:Value→ai→Prop}{A:Prop}(a:sV)(b:P.funcs[f]? =some F)(d:A)(H:F.body.isSome=true:=by rfl)(c:Nat.ble args.length F.ntmps=true:=by rfl)(e:A=den P F.ntmps a none (sf F) (Qc P F.results R) (lV args) h:=by kernel_rfl):lS P f args.toArray h R:=yh a b H c (Eq.mp e d)
theorem ar{b i:Nat}{c:Array Value}{t:TypeId}{f:Nat×Nat}(H:h[b]? =some (.cells c t f)):bg h ⟨b,i,none⟩=c[i]? :=kj H
abbrev gL(h:ai)(R:Value→ai→Prop)(v:Value):Prop:= ∀h',Fr (λ_=>False) h h'→R v h'
abbrev mr(x:Int):BitVec (IntKind.bits .u64):=BitVec.ofInt (IntKind.bits .u64) x
abbrev px(x:Int):BitVec (IntKind.bits .u8):=BitVec.ofInt (IntKind.bits .u8) x

end
def Row(h:ai)(p:cy)(cs:List Value):Prop:=cs= []\/∃a,p=some a/\dI a cs 0 h
theorem Row.nil{h:ai}{p:cy}:Row h p []:=.inl rfl
theorem jA{h:ai}{a:Addr}: ∀{cs:List Value}{i:Nat},dI a cs i h↔ ∀j v,cs[j]? =some v->bg h (a.add (i+j))=some v
 | [],i=>by simp[dI]
 |c::cs,i=>by
  simp only[dI];rw[jA (cs:=cs)];constructor
  .rintro⟨d,e⟩ j v H;cases j with
   |zero=>simp only[dw,br]at H;subst H;exact d
   |succ j=>have:=e j v (cA H);rwa[show i+1+j=i+(j+1) by omega]at this
  .intro b;refine⟨b 0 c rfl,λj v H=> ?_⟩;have:=b (j+1) v (cA H);rwa[show i+(j+1)=i+1+j by omega]at this
theorem gT{h:ai}{b off:Nat}{c:Array Value}{t:TypeId}{f:Nat×Nat}{cs:List Value}(H:h[b]? =some (.cells c t f))(a: ∀j v,cs[j]? =some v->c[off+j]? =some v):dI (AA b off) cs 0 h:=by
 rw[jA];intro j v d;rw[bL,gz,kj H];exact a j v d
theorem kC{S:Nat->Prop}{h h':ai}(H:Fr S h h'){a:Addr}(c: ¬S a.block): ∀{cs:List Value}{i:Nat},dI a cs i h->dI a cs i h'
 | [],_,_=>trivial
 |_::_,i,b=>⟨H.cell b.1 (by unfold Addr.add;split<;>exact c),kC H c b.2⟩
theorem Row.frame{S:Nat->Prop}{h h':ai}(H:Fr S h h'){p:cy}{cs:List Value}(d:Row h p cs)(c: ∀a,p=some a->¬S a.block):Row h' p cs:=by
 rcases d with rfl|⟨a,rfl,b⟩
 .exact .inl rfl
 .exact .inr ⟨a,rfl,kC H (c a rfl) b⟩
theorem Row.cell{h:ai}{a:Addr}{cs:List Value}(c:Row h (some a) cs){j:Nat}{v:Value}(H:cs[j]? =some v):bg h (a.add j)=some v:=by
 rcases c with rfl|⟨A,e,b⟩
 .simp at H
 .cases e;have:=jA.1 b j v H;rwa[bL]at this
theorem Row.some{h:ai}{p:cy}{cs:List Value}(b:Row h p cs)(H:cs≠ []): ∃a,p=some a:=by
 rcases b with rfl|⟨a,e,_⟩
 .exact absurd rfl H
 .exact⟨a,e⟩
section
variable {P : Program}
theorem ku{h:ai}{q:cy}{n cq sz:Nat}{ds:List Value}(b:Row h q ds)(c:ds.length=n*sz):rd P (Builtin.firstCells sz n (.slice q n cq)) h=some ds.toArray:=by
 cases q with
 |none=>
  have:ds= []:=by
   rcases b with rfl|⟨a,e,_⟩
   .rfl
   .cases e
  subst this;rfl
 |some a=>
  show rd P (loadCells a (n*sz)) h=_;have H:dI a ds 0 h:=by
   rcases b with rfl|⟨A,e,H⟩
   .trivial
   .cases e;exact H
  unfold loadCells;rw[<-c,iu ds 0 #[] h H];simp
theorem A7{need:Nat}: ∀(r c:Nat),c<2*need->256<=c->Builtin.growBy need r c<=2*need
 |0,c,h,_=>by unfold Builtin.growBy;omega
 |r+1,c,h,a=>by
  unfold Builtin.growBy;split
  .omega
  .rename_i b;by_cases H:c+(c+768)/4<2*need
   .exact A7 r _ H ag
   .have:c+(c+768)/4<=2*need:=ag
    cases r with
    |zero=>unfold Builtin.growBy;exact this
    |succ r=>unfold Builtin.growBy;rw[fK];exact this
theorem nextslicecap_le{need cap:Nat}(h:cap<need):Builtin.nextslicecap need cap<=2*need:=by
 unfold Builtin.nextslicecap;split
 .omega
 .split
  .omega
  .exact A7 4 cap ag ag
inductive fJ (h:ai) (p:cy) (len cap sz:Nat) (cs:List Value):Prop
 |nil (hp:p=none) (hl:len=0) (hc:cap=0) (UN:cs= [])
 |row (b off:Nat) (c:Array Value) (t:TypeId) (hp:p=some ⟨b,off,none⟩) (hb:h[b]? =some (.cells c t (0,0))) (hl:len<=cap) (hc:off+cap*sz<=c.size) (hn:cs.length=len*sz) (UN: ∀j v,cs[j]? =some v->c[off+j]? =some v)
def aR(p:cy)(c:Nat):Prop:= ∃a,p=some a/\a.block=c
theorem fJ.length{h:ai}{p:cy}{len cap sz:Nat}{cs:List Value}(o:fJ h p len cap sz cs):cs.length=len*sz:=by
 cases o with
 |nil _ a _ H=>subst a H;simp
 |row b off c t _ _ _ _ d _=>exact d
theorem fJ.iw{h:ai}{p:cy}{len cap sz:Nat}{cs:List Value}(o:fJ h p len cap sz cs):Row h p cs:=by
 cases o with
 |nil _ _ _ H=>exact .inl H
 |row b off c t d a _ _ _ H=>exact .inr ⟨_,d,gT a H⟩
theorem fJ.frame{S:Nat->Prop}{h h':ai}{p:cy}{len cap sz:Nat}{cs:List Value}(o:fJ h p len cap sz cs)(g:Fr S h h')(j: ∀c,aR p c->¬S c):fJ h' p len cap sz cs:=by
 cases o with
 |nil H e a d=>exact .nil H e a d
 |row b off c t H f e a i d=>exact .row b off c t H (g.get f (j b ⟨_,H,rfl⟩)) e a i d
theorem fJ.dY{h:ai}{p:cy}{len cap sz:Nat}{cs:List Value}(o:fJ h p len cap sz cs){c:Nat}(f:aR p c):c<h.size:=by
 obtain⟨a,e,rfl⟩:=f;cases o with
 |nil H _ _ _=>rw[H]at e;cases e
 |row b off c t H d _ _ _ _=>rw[H]at e;cases e;exact aD d
theorem fJ.cells{h:ai}{p:cy}{len cap sz:Nat}{cs:List Value}(o:fJ h p len cap sz cs){b:Nat}(H:aR p b): ∃c t,h[b]? =some (.cells c t (0,0)):=by
 obtain⟨a,e,rfl⟩:=H;cases o with
 |nil d _ _ _=>rw[d]at e;cases e
 |row b off c t d H _ _ _ _=>rw[d]at e;cases e;exact⟨c,t,H⟩
theorem fJ.le{h:ai}{p:cy}{len cap sz:Nat}{cs:List Value}(o:fJ h p len cap sz cs):len<=cap:=by
 cases o with
 |nil _ H a _=>omega
 |row b off c t _ _ H _ _ _=>exact H
theorem fJ.some{h:ai}{p:cy}{len cap sz:Nat}{cs:List Value}(o:fJ h p len cap sz cs)(a:0<cs.length): ∃b off,p=some (AA b off):=by
 cases o with
 |nil _ _ _ H=>subst H;simp at a
 |row b off c t d _ _ _ _ _=>exact⟨b,off,d⟩
theorem fJ.cell{h:ai}{a:Addr}{len cap sz:Nat}{cs:List Value}(o:fJ h (.some a) len cap sz cs){j:Nat}{v:Value}(H:cs[j]? =.some v):bg h (a.add j)=.some v:=o.iw.cell H
theorem fJ.store{h:ai}{a:Addr}{len cap sz:Nat}{cs:List Value}{j:Nat}{v:Value}{K:ai->Prop}(o:fJ h (.some a) len cap sz cs)(q:j<cs.length)(hk: ∀h',fJ h' (.some a) len cap sz (cs.set j v)->h'.size=h.size->(∀x,¬aR (.some a) x->h'[x]? =h[x]?)->K h'):aS h (a.add j) v K:=by
 cases o with
 |nil d _ _ _=>cases d
 |row b off c t d m f n r p=>
  cases d;rw[gz];have u:len*sz<=cap*sz:=cQ _ f;refine bw m ag λh' g k l=>hk h' (.row b off _ t rfl g f (cA n) (by simpa using r) ?_) k (λx s=>l x (λe=>s ⟨_,rfl,e.symm⟩))
  intro i w H;rw[dt]at H;rw[cB];by_cases e:j=i
  .subst e;rw[af rfl,af q]at H;rw[af rfl,fK];exact H
  .rw[ae e]at H;rw[dc];exact p i w H
theorem fJ.sub{h:ai}{p:cy}{len cap sz:Nat}{cs:List Value}(o:fJ h p len cap sz cs){l u:Nat}(m:l<=u)(n:u<=len):fJ h (cO p cap l sz) (u - l) (cap - l) sz ((cs.take (u*sz)).drop (l*sz)):=by
 cases o with
 |nil g d k a=>
  subst g d k a;refine .nil ?_ ag ag bP;unfold cO;split<;>rfl
 |row b off c t g i d k w a=>
  subst g;have M:u*sz<=len*sz:=cQ _ n;have x:l*sz<=u*sz:=cQ _ m;have y:len*sz<=cap*sz:=cQ _ d;have q: ∀j v,((cs.take (u*sz)).drop (l*sz))[j]? =.some v->c[off+l*sz+j]? =.some v:=λj v H=>by
   rw[eO,cP]at H;split at H
   .have:=a _ v H;rwa[<-Nat.add_assoc]at this
   .cases H
  have f:((cs.take (u*sz)).drop (l*sz)).length=(u - l)*sz:=by
   rw[bF,bB,Nat.sub_mul];omega
  have s:(cap - l)*sz=cap*sz - l*sz:=Nat.sub_mul _ _ _;unfold cO;split
  .rename_i e;have e1:u - l=0:=ag
   refine .row b off c t rfl i ag ag f (λj v H=> ?_);have r:((cs.take (u*sz)).drop (l*sz)).length=0:=by rw[f,e1];simp
   rw[List.eq_nil_of_length_eq_zero r]at H;cases H
  .show fJ h (.some (((AA b off):Addr).add (l*sz))) _ _ _ _;rw[gz];exact .row b (off+l*sz) c t rfl i ag ag f q
theorem lL{p:cy}{cap l sz c:Nat}(h:aR (cO p cap l sz) c):aR p c:=by
 obtain⟨a,e,rfl⟩:=h;unfold cO at e;split at e
 .exact⟨a,e,rfl⟩
 .cases p with
  |none=>cases e
  |some b=>cases e;exact⟨b,rfl,by unfold Addr.add;split<;>rfl⟩
theorem sj{c:Array Value}{off:Nat}: ∀(ds:List Value)(i:Nat)(h:ai)(b:Nat)(t:TypeId)(K:Unit->ai->Prop),(∀v∈ds,fR v=true)->h[b]? =some (.cells c t (0,0))->off+i+ds.length<=c.size->
  (∀h' c',h'[b]? =some (.cells c' t (0,0))->c'.size=c.size->(∀j,j<off+i\/off+i+ds.length<=j->c'[j]? =c[j]?)->(∀j v,ds[j]? =some v->c'[off+i+j]? =some v)->h'.size=h.size->(∀x,x≠b->h'[x]? =h[x]?)->K () h')->
  aW P (storeCells (AA b off) ds i) h K
 | [],i,h,b,t,K,_,a,_,hk=>by
  refine hk h c a rfl (λ_ _=>rfl) (λj v H=>by simp at H) rfl (λ_ _=>rfl)
 |v::ds,i,h,b,t,K,f,a,l,hk=>by
  simp only[storeCells];rw[dB];simp only[bf]at l;have d:off+i<c.size:=ag
  refine⟨f v dh,?_,?_,?_⟩
  .rw[gz,kj a];simp[d]
  .rw[gz];exact mD a
  .rw[gz];show aW P (storeCells (AA b off) ds (i+1)) (mX h (AA b (off+i)) v) K;refine sj (c:=c.setIfInBounds (off+i) v) ds (i+1) _ b t K (λu q=>f u (bZ _ q)) (vg a) (by simp;omega) ?_;intro h' c' k o e m p n;refine hk h' c' k (by rw[o];simp) (λj H=> ?_) (λj u H=> ?_) (by rw[p,A5]) (λx g=>by rw[n x g,si g])
   .simp only[bf]at H;rw[e j ag,cB,dc]
   .cases j with
    |zero=>
     simp only[dw,br]at H;subst H;rw[e (off+i+0) ag];simp[d]
    |succ j=>
     have:=m j u (cA H);rwa[show off+(i+1)+j=off+i+(j+1) by omega]at this
theorem Ck{D X ty elem eT:TypeId}{i:TypeInfo}{z:Value}{h:ai}{p q:cy}{len cap n cq:Nat}{cs ds:List Value}{K:fp}(hs:P.underlying D=some (.slice elem))(A:P.underlying X=some (.slice eT))(f:P.info? elem=some i)(hz:i.zero=some z)(y:z.cells.size=i.size)(own:fJ h p len cap i.size cs)(I:Row h q ds)(hd:ds.length=n*i.size)(W: ∀v∈ds,fR v=true)(hb:(len+n)*i.bytes<=70368744177664)(b':len+n<=9223372036854775807)(hk: ∀B C h',fJ h' B (len+n) C i.size (cs++ds)->fJ h' p len cap i.size cs->Fr (aR p) h h'->(∀c,aR B c->aR p c\/h.size<=c)->K (.slice B (len+n) C) h'):
  aW P (Builtin.append_ #[D,X] ty #[.slice p len cap,.slice q n cq]) h K:=by
 unfold Builtin.append_;refine bT (s:=underlying D) (bA hs) ?_;refine bT (s:=sizeOf elem) (gR f) ?_;refine bT (s:=underlying X) (bA A) ?_;refine bT (s:=(pure false:Sem Bool)) (a:=false) rfl ?_;refine bT (s:=Builtin.lenOf (.slice q n cq)) (a:=n) rfl ?_;show aW P (if len+n<=cap then _ else _) h K;by_cases g:len+n<=cap
 .rw[af g];refine bT (s:=Builtin.firstCells i.size n (.slice q n cq)) (a:=ds.toArray) (ku I hd) ?_;cases own with
  |nil w r d k=>
   subst w r d k;have U:n=0:=ag
   subst U;have M:ds= []:=by simpa using hd
   subst M;exact hk none 0 h (.nil rfl rfl rfl rfl) (.nil rfl rfl rfl rfl) (Fr.refl _ _) (λc ⟨a,e,_⟩=>by cases e)
  |row b off c t w L r d u k=>
   subst w;show aW P (storeCells (((AA b off):Addr).add (len*i.size)) ds>>=λ_=>pure (.slice (Sa b off) (len+n) cap)) h K;rw[gz];have R:(len+n)*i.size<=cap*i.size:=cQ _ g;rw[eM]at R;rw[dB];refine sj (c:=c) (off:=off+len*i.size) ds 0 h b t _ W L ag ?_;intro h' c' E e' G T y Y;show K (.slice (Sa b off) (len+n) cap) h';refine hk _ cap h' (.row b off c' t rfl E g ag (by rw[aA,u,hd,eM]) ?_) (.row b off c' t rfl E r ag u ?_) (Fr.of_eq y λx A=>Y x (λe=>A ⟨_,rfl,e.symm⟩)) (λc d=> .inl d)
   .intro j v H;by_cases l:j<cs.length
    .rw[cS l]at H;rw[G _ ag];exact k j v H
    .rw[cG ag]at H;have:=T _ v H;rw[u]at this;rwa[show off+len*i.size+0+(j - len*i.size)=off+j by omega]at this
   .intro j v H;have l:j<cs.length:=(aB.1 H).1;rw[G _ ag];exact k j v H
 .rw[ae g];have O:=nextslicecap_le (need:=len+n) (cap:=cap) ag;refine bT (s:=typeInfo elem) (gQ f) ?_;have Q: ¬(((len+n:Nat):Int)>IntKind.max .i64/\(False\/i.bytes=0)):=λd=>by
   have:IntKind.max .i64=9223372036854775807:=rfl;rw[this]at d;omega
  show aW P (if(((len+n:Nat):Int)>IntKind.max .i64/\(false=true\/i.bytes=0))then _ else _) h K;rw[ae (cA Q)];refine bT (s:=typeInfo elem) (gQ f) ?_;have V: ¬(Builtin.nextslicecap (len+n) cap*i.bytes>2 ^ 48):=by
   have o:Builtin.nextslicecap (len+n) cap*i.bytes<=2*(len+n)*i.bytes:=cQ _ O;rw[Nat.mul_assoc]at o;omega
  show aW P (if Builtin.nextslicecap (len+n) cap*i.bytes>2 ^ 48 then _ else _) h K;rw[ae V];show aW P (choose (.appendCap (len+n) cap elem)>>=_) h K;rw[dB];unfold choose;simp only[aW,Question.forced,au,aM,Question.cut];intro tq;refine bT (s:=typeInfo elem) (gQ f) ?_;rw[dB];have Z: ∀(m:Nat)(K':Unit->ai->Prop),K' () h->aW P (askRoom m) h K':=λm K' F=>by
   unfold askRoom;split
   .exact F
   .exact F
  refine Z _ _ ?_;refine bT (s:=Builtin.firstCells i.size len (.slice p len cap)) (a:=cs.toArray) (ku own.iw own.length) ?_;refine bT (s:=Builtin.firstCells i.size n (.slice q n cq)) (a:=ds.toArray) (ku I hd) ?_;refine bT (s:=zeroValue elem) (iE f hz) ?_;generalize d':len+n+tq%(2 ^ 63 - (len+n))=C;have N:len+n<=C:=ag
  show K (.slice (Sa h.size 0) (len+n) C) (h.push (.cells (cs.toArray++ds.toArray++Builtin.zeroCells z.cells (C - (len+n))) elem));have a':(cs.toArray++ds.toArray++Builtin.zeroCells z.cells (C - (len+n))).size=C*i.size:=by
   have o:(Builtin.zeroCells z.cells (C - (len+n))).size=(C - (len+n))*i.size:=by simp[Builtin.zeroCells,y]
   have J:=own.length;rw[Array.size_append,Array.size_append,o];simp only[List.size_toArray];rw[J,hd,<-eM,<-eM];congr 1;omega
  refine hk _ C _ (.row h.size 0 _ elem rfl bV N (by rw[a'];omega) (by rw[aA,own.length,hd,eM]) ?_) (own.frame (Fr.push (S:=λ_=>False) _ _) cb) (Fr.push _ _) ?_
  .intro j v H;rw[bL];have l:j<(cs++ds).length:=(aB.1 H).1;rw[dz (cA l)];simpa using H
  .rintro c ⟨a,e,rfl⟩;cases e;exact .inr (bk _)
structure oy (P:Program) (sT elem:TypeId) (sz bytes:Nat) (z:Value):Prop where
 u:P.underlying sT=some (.slice elem)
 info:(P.info? elem).map (λi=>(i.size,i.bytes,i.zero))=some (sz,bytes,some z)
 zs:z.cells.size=sz
theorem oy.i{s elem:TypeId}{sz bytes:Nat}{z:Value}(T:oy P s elem sz bytes z): ∃i,P.info? elem=some i/\i.size=sz/\i.bytes=bytes/\i.zero=some z:=by
 have:=T.info;cases h:P.info? elem with
 |none=>rw[h]at this;cases this
 |some i=>
  rw[h]at this;simp only[cZ,br,gh]at this;exact⟨i,rfl,this⟩
theorem dT{s x ty elem eT:TypeId}{sz bytes:Nat}{z:Value}{h:ai}{p q:cy}{len cap n cq:Nat}{cs ds:List Value}{K:fp}(T:oy P s elem sz bytes z)(g:P.underlying x=some (.slice eT))(own:fJ h p len cap sz cs)(f:Row h q ds)(hd:ds.length=n*sz)(e: ∀v∈ds,fR v=true)(H:(len+n)*bytes<=70368744177664)(b:len+n<=9223372036854775807)(hk: ∀a C h',fJ h' a (len+n) C sz (cs++ds)->fJ h' p len cap sz cs->Fr (aR p) h h'->(∀c,aR a c->aR p c\/h.size<=c)->K (.slice a (len+n) C) h'):
  aW P (Builtin.append_ #[s,x] ty #[.slice p len cap,.slice q n cq]) h K:=by
 obtain⟨i,d,rfl,rfl,j⟩:=T.i;exact Ck T.u g d j T.zs own f hd e H b hk
end
section
open Go.RowKit
def pf(P:Program)(h:ai):Nat->TypeId->List Value->Prop
 |0,_,_=>False
 |n+1,t,cs=>
  match P.underlying t with
  |some .bool=> ∃b,cs= [.bool b]
  |some (.int k)=> ∃a,cs= [.int k a]/\(Lit.int k a).wf=true
  |some .string=> ∃s,cs= [.string s]/\s.size<=maxLen
  |some (.pointer e)=>cs= [.pointer none]\/∃a c,cs= [.pointer (some a)]/\c.length=P.cellsOf e/\dI a c 0 h/\pf P h n e c
  |some (.slice e)=>cs= [.slice none 0 0]\/∃a len cap,cs= [.slice (some a) len cap]/\len<=cap/\cap<=maxLen/\∀i,i<len->∃c,c.length=P.cellsOf e/\dI (a.add (i*P.cellsOf e)) c 0 h/\pf P h n e c
  |some (.struct fs)=>cs.length=P.cellsOf t/\∀f∈fs.toList,pf P h n f.type ((cs.drop f.offset).take (P.cellsOf f.type))
  |some (.array m e)=>cs.length=P.cellsOf t/\∀i,i<m->pf P h n e ((cs.drop (i*P.cellsOf e)).take (P.cellsOf e))
  |_=>True
theorem yw{w:World}{b:Nat}{a:Addr}{n:Nat}{cs:List Value}(h:w.cells? b a n=some cs):cs.length=n/\dI a cs 0 w.heap:=by
 obtain⟨_,d,c⟩:=World.cells?_some h;refine⟨d,jA.2 λj v H=> ?_⟩;have e:j<cs.length:=(aB.1 H).1;have:=c j ag;rw[ks,H]at this;rw[bL];exact this
theorem kF{H:Type}{enc:TypeId×Value->H}{P:Program}{w:World}{B:Nat}{S:Nat->Bool}{held:Bool}:
  ∀(fuel:Nat)(t:TypeId)(cs:List Value)(x:DataW H×List MemPlace),DataW.trod enc P w B S held fuel t cs=some x->pf P w.heap fuel t cs
 |0,_,_,_,h=>by simp[DataW.trod]at h
 |fuel+1,t,cs,x,h=>by
  unfold pf;cases hd:P.underlying t with
  |none=>trivial
  |some d=>
   cases d<;>simp only<;>first|trivial|skip
   case bool=>obtain⟨b,c,_⟩:=DataW.trod_bool hd h;exact⟨b,c⟩
   case int k=>obtain⟨n,c,_,u⟩:=DataW.trod_int hd h;exact⟨n,c,u⟩
   case string=>obtain⟨s,c,_,u⟩:=DataW.trod_string hd h;exact⟨s,c,u⟩
   case pointer e=>
    rcases DataW.trod_pointer hd h with⟨c,_⟩|⟨a,C,y,n,r,c,_,bg,G⟩
    .exact .inl c
    .obtain⟨j,p⟩:=yw bg;obtain rfl:n=fuel:=ag
     exact .inr ⟨a,C,c,j,p,kF n e C y G⟩
   case slice e=>
    rcases DataW.trod_slice hd h with⟨c,_⟩|⟨a,len,cap,I,rest,n,r,c,_,_,j,q,J,D,_⟩
    .exact .inl c
    .obtain rfl:n=fuel:=ag
     refine .inr ⟨a,len,cap,c,j,q,λi l=> ?_⟩;have g:=D i l;rw[aj ag]at g;cases bg:w.cells? B (a.add (i*P.cellsOf e)) (P.cellsOf e)with
     |none=>rw[bg]at g;cases g
     |some C=>
      rw[bg]at g;obtain⟨E,p⟩:=yw bg;exact⟨C,E,p,kF n e C _ g⟩
   case struct fs=>
    obtain⟨xs,n,r,_,j,A,o⟩:=DataW.trod_struct hd h;obtain rfl:n=fuel:=ag
    refine⟨j,λf q=> ?_⟩;obtain⟨i,l⟩:=bE q;have z:fs[i]? =some f:=by simpa using l
    have g:=o i f z;have F:i<xs.length:=by rw[A];exact(Array.getElem?_eq_some_iff.1 z).1
    rw[aj F]at g;exact kF n _ _ _ g
   case array m e=>
    obtain⟨xs,n,r,_,j,A,o⟩:=DataW.trod_array hd h;obtain rfl:n=fuel:=ag
    refine⟨j,λi l=> ?_⟩;have g:=o i l;rw[aj ag]at g;exact kF n _ _ _ g
def pP(P:Program)(h:ai)(t:TypeId)(v:Value):Prop:= ∃n,pf P h n t v.cells.toList
theorem pP.of{H:Type}{enc:TypeId×Value->H}{P:Program}{w:World}{b:Nat}{s:Nat->Bool}{held:Bool}{t:TypeId}{v:Value}{d:DataW H}{p:List MemPlace}(h:DataW.Trod enc P w b s held t v d p):pP P w.heap t v:=by
 obtain⟨n,a⟩:=h;exact⟨n,kF n _ _ _ a⟩
theorem Lk{w w':World}(a:Fr (λ_=>False) w.heap w'.heap)(H:fw w w'):Below w.heap.size w w':=
 ⟨H.1,H.2.2,H.2.1,a.1,λk hk=>a.2 k hk id⟩
def Ll(P:Program)(f:FuncId)(args:Array Value)(h:ai):Prop:=lS P f args h (λv h'=>v=.bool true/\Fr (λ_=>False) h h')
theorem Ll.calls{P:Program}{f:FuncId}{args:Array Value}{w:World}(b:Ll P f args w.heap):Calls P f args w λe w'=>e=.returned (.bool true)/\Below w.heap.size w w':=
 (b w rfl).mono λ_ _ ⟨_,H,⟨d,a⟩,c⟩=>⟨by rw[H,d],Lk a c⟩
theorem wf_u64 {a : Int} (h : (Lit.int .u64 a).wf = true) : 0 ≤ a ∧ a ≤ 18446744073709551615 := by
  simpa [Lit.wf, IntKind.min, IntKind.max, IntKind.bits, IntKind.signed] using h
theorem wf_u8{a:Int}(h:(Lit.int .u8 a).wf=true):0<=a/\a<=255:=by
 simpa[Lit.wf,IntKind.min,IntKind.max,IntKind.bits,IntKind.signed]using h
section
variable {P : Program} {h : ai} {t : TypeId} {v : Value}
theorem pP.int{k:IntKind}(d:P.underlying t=some (.int k))(e:pP P h t v)(c: ∀a,v.cells.toList= [.int k a]->v=.int k a): ∃a,v=.int k a/\(Lit.int k a).wf=true:=by
 obtain⟨n,H⟩:=e;cases n with
 |zero=>exact H.elim
 |succ n=>
  unfold pf at H;rw[d]at H;obtain⟨a,b,f⟩:=H;exact⟨a,c a b,f⟩
theorem Cn{h:ai}{a:Addr}{cs ds:List Value}:dI a (cs++ds) 0 h↔dI a cs 0 h/\dI (a.add cs.length) ds 0 h:=by
 simp only[jA,bL];constructor
 .intro b;refine⟨λj v H=>b j v ?_,λj v H=> ?_⟩
  .rw[cS (aB.1 H).1];exact H
  .rw[add_add];refine b _ v ?_;rw[cG ag];simpa using H
 .rintro⟨c,d⟩ j v H;by_cases e:j<cs.length
  .rw[cS e]at H;exact c j v H
  .rw[cG ag]at H;have:=d _ v H;rw[add_add]at this;rwa[show cs.length+(j - cs.length)=j by omega]at this
theorem eU{α:Type}(enc:α->List Value)(sz:Nat)(H: ∀x,(enc x).length=sz): ∀xs:List α,(xs.flatMap enc).length=xs.length*sz
 | []=>bP
 |x::xs=>by
  rw[fL,aA,H,eU enc sz H xs,bf,eM];omega
theorem qK{α:Type}(enc:α->List Value)(sz:Nat)(a: ∀x,(enc x).length=sz): ∀(xs:List α)(i:Nat)(x:α),xs[i]? =some x->∀j v,(enc x)[j]? =some v->(xs.flatMap enc)[i*sz+j]? =some v
 | [],i,x,h,_,_,_=>by simp at h
 |y::xs,0,x,h,j,v,H=>by
  simp at h;subst h;have b:=(aB.1 H).1;rw[fL,Nat.zero_mul,bL,cS b];exact H
 |y::xs,i+1,x,h,j,v,H=>by
  have:=qK enc sz a xs i x (cA h) j v H;rw[fL,cG (by rw[a,eM];omega),a];rwa[show(i+1)*sz+j - sz=i*sz+j by rw[eM];omega]
theorem pP.slice{α:Type}{e:TypeId}{p:cy}{len cap:Nat}(enc:α->List Value)(sz:Nat)(Q:α->Prop)(j:P.cellsOf e=sz)(s: ∀x,(enc x).length=sz)(q: ∀n c,c.length=sz->pf P h n e c->∃x,c=enc x/\Q x)(A:P.underlying t=some (.slice e))(B:pP P h t (.slice p len cap)):
  ∃xs:List α,xs.length=len/\len<=cap/\cap<=maxLen/\Row h p (xs.flatMap enc)/\∀x∈xs,Q x:=by
 obtain⟨n,b⟩:=B;cases n with
 |zero=>exact b.elim
 |succ n=>
  unfold pf at b;rw[A]at b;rcases b with H|⟨a,L,C,H,u,w,r⟩
  .simp[Value.cells]at H;obtain⟨rfl,rfl,rfl⟩:=H;exact⟨[],rfl,bk _,bG _,.inl rfl,λ_ f=>by cases f⟩
  .simp[Value.cells]at H;obtain⟨rfl,rfl,rfl⟩:=H;have key: ∀k,k<=len->∃xs:List α,xs.length=k/\dI a (xs.flatMap enc) 0 h/\∀x∈xs,Q x:=by
    intro k;induction k with
    |zero=>intro _;exact⟨[],rfl,trivial,λ_ f=>by cases f⟩
    |succ k I=>
     intro hk;obtain⟨xs,d,g,i⟩:=I ag;obtain⟨c,l,m,o⟩:=r k ag;obtain⟨x,rfl,z⟩:=q n c (by rw[l,j]) o;refine⟨xs++ [x],by simp[d],?_,?_⟩
     .rw[da,Cn];refine⟨g,?_⟩;rw[eU enc sz s,d,<-j];simpa using m
     .intro y hy;rcases bM.1 hy with hy|hy
      .exact i y hy
      .simp at hy;subst hy;exact z
   obtain⟨xs,d,g,i⟩:=key len (bk _);exact⟨xs,d,u,w,.inr ⟨a,rfl,g⟩,i⟩
theorem pf.int{k:IntKind}{n:Nat}{cs:List Value}(b:P.underlying t=some (.int k))(H:pf P h n t cs): ∃a,cs= [.int k a]/\(Lit.int k a).wf=true:=by
 cases n with
 |zero=>exact H.elim
 |succ n=>unfold pf at H;rw[b]at H;exact H
theorem pf.bool{n:Nat}{cs:List Value}(a:P.underlying t=some .bool)(H:pf P h n t cs): ∃b,cs= [.bool b]:=by
 cases n with
 |zero=>exact H.elim
 |succ n=>unfold pf at H;rw[a]at H;exact H
end
def pQ(P:Program)(r:TypeId->Option (List TypeId)):List Field->Nat->Option (List TypeId)
 | [],_=>some []
 |f::fs,off=>(match Nat.beq f.offset off,r f.type with
  |true,some ts=>(match Nat.beq ts.length (P.cellsOf f.type),pQ P r fs (off+ts.length)with
   |true,some u=>some (ts++u)
   |_,_=>none)
  |_,_=>none)
def tn(P:Program):Nat->TypeId->Option (List TypeId)
 |0,_=>none
 |n+1,t=>(match P.underlying t with
  |some (.struct fs)=>pQ P (tn P n) fs.toList 0
  |some (.array _ _)=>none
  |_=>some [t])
def Leaves(P:Program)(h:ai)(ts:List TypeId)(cs:List Value):Prop:= ∀(i:Nat)(T:TypeId),ts[i]? =some T->∃v m,cs[i]? =some v/\pf P h m T [v]
theorem Leaves.append{P:Program}{h:ai}{ts u:List TypeId}{cs:List Value}(d:Leaves P h ts (cs.take ts.length))(e:Leaves P h u (cs.drop ts.length)):Leaves P h (ts++u) cs:=by
 intro i T a;by_cases c:i<ts.length
 .rw[cS c]at a;obtain⟨v,m,H,b⟩:=d i T a;rw[cP,af c]at H;exact⟨v,m,H,b⟩
 .rw[cG ag]at a;obtain⟨v,m,H,b⟩:=e _ T a;rw[eO]at H;exact⟨v,m,by rwa[show ts.length+(i - ts.length)=i by omega]at H,b⟩
theorem wG{P:Program}{h:ai}{r:TypeId->Option (List TypeId)}{n:Nat}(e: ∀t ts cs,r t=some ts->cs.length=ts.length->pf P h n t cs->Leaves P h ts cs):
  ∀(fs:List Field)(off:Nat)(u:List TypeId)(cs:List Value),pQ P r fs off=some u->off+u.length<=cs.length->(∀f∈fs,pf P h n f.type ((cs.drop f.offset).take (P.cellsOf f.type)))->
   Leaves P h u (cs.drop off)
 | [],off,u,cs,H,_,_=>by simp only[pQ,br]at H;subst H;intro i T g;simp at g
 |f::fs,off,u,cs,H,j,d=>by
  simp only[pQ]at H;split at H
  .rename_i ts b l;split at H
   .rename_i U a m;simp only[br]at H;subst H;have b:=bO b;have a:=bO a;rw[aA]at j;have c:=d f dh;rw[b,<-a]at c;refine Leaves.append (e _ _ _ l (by simp;omega) c) ?_;rw[List.drop_drop];exact wG e fs _ U cs m ag (λF k=>d F (bZ _ k))
   .cases H
  .cases H
theorem yx{P:Program}{h:ai}: ∀(d n:Nat)(t:TypeId)(ts:List TypeId)(cs:List Value),tn P d t=some ts->cs.length=ts.length->pf P h n t cs->Leaves P h ts cs
 |0,_,_,_,_,H,_,_=>by simp[tn]at H
 |d+1,n,t,ts,cs,H,j,a=>by
  simp only[tn]at H;cases n with
  |zero=>exact a.elim
  |succ n=>
   split at H
   .rename_i fs g;unfold pf at a;rw[g]at a;have:=wG (λt ts cs c e f=>yx d n t ts cs c e f) fs.toList 0 ts cs H ag a.2;simpa using this
   .cases H
   .simp only[br]at H;subst H;intro i T b
    match cs,j with
    | [v],_=>
     cases i with
     |zero=>simp at b;subst b;exact⟨v,n+1,rfl,a⟩
     |succ i=>simp at b
theorem Leaves.get{P:Program}{h:ai}{ts:List TypeId}{cs:List Value}(b:Leaves P h ts cs)(i:Nat){T:TypeId}{v:Value}(a:ts[i]? =some T)(H:cs[i]? =some v): ∃m,pf P h m T [v]:=by
 obtain⟨u,m,d,c⟩:=b i T a;rw[d]at H;cases H;exact⟨m,c⟩
theorem Leaves.int{P:Program}{h:ai}{ts:List TypeId}{cs:List Value}(c:Leaves P h ts cs)(i:Nat){T:TypeId}{v:Value}{k:IntKind}(b:ts[i]? =some T)(f:cs[i]? =some v)(e:P.underlying T=some (.int k)): ∃a,v=.int k a/\(Lit.int k a).wf=true:=by
 obtain⟨m,d⟩:=c.get i b f;obtain⟨a,H,g⟩:=pf.int e d;exact⟨a,cA H,g⟩
theorem Leaves.bool{P:Program}{h:ai}{ts:List TypeId}{cs:List Value}(d:Leaves P h ts cs)(i:Nat){T:TypeId}{v:Value}(c:ts[i]? =some T)(g:cs[i]? =some v)(f:P.underlying T=some .bool): ∃b,v=.bool b:=by
 obtain⟨m,e⟩:=d.get i c g;obtain⟨a,H⟩:=pf.bool f e;exact⟨a,cA H⟩
theorem aG.of{α:Type}{F:α}{B:α->Prop}(h: ∀J,J=F->B J):aG F B:=h F rfl
theorem pP.ints{P:Program}{h:ai}{t e:TypeId}{k:IntKind}{p:cy}{len cap:Nat}(c:P.cellsOf e=1)(hk:P.underlying e=some (.int k))(f:P.underlying t=some (.slice e))(g:pP P h t (.slice p len cap)):
  ∃xs:List Int,xs.length=len/\Row h p (xs.map (.int k ·))/\∀x∈xs,(Lit.int k x).wf=true:=by
 obtain⟨xs,H,_,_,a,b⟩:=pP.slice (e:=e) (λx:Int=> [Value.int k x]) 1 (λx=>(Lit.int k x).wf=true) c (λ_=>rfl) (λn C _ d=>pf.int hk d) f g;refine⟨xs,H,?_,b⟩;have:xs.flatMap (λx:Int=> [Value.int k x])=xs.map (.int k ·):=by
  clear H a b;induction xs with
  |nil=>rfl
  |cons x xs i=>rw[fL,i];rfl
 rwa[this]at a
theorem FO{h:ai}{p:cy}{k:IntKind}{xs:List Int}(b:Row h p (xs.map (.int k ·))){i:Nat}(c:i<xs.length): ∃a,p=some a/\bg h (a.add (i*1))=some (.int k (xs.getD i 0)):=by
 have H:(xs.map (Value.int k ·))[i]? =some (.int k (xs.getD i 0)):=by simp[c]
 obtain⟨a,rfl⟩:=b.some (λe=>by rw[e]at H;simp at H);exact⟨a,rfl,by rw[ct];exact b.cell H⟩
theorem Lm{xs:List Int}{i:Nat}(H:i<xs.length):xs.getD i 0∈xs:=by
 rw[aY,aj H];exact dA H
end
end Go.Den
