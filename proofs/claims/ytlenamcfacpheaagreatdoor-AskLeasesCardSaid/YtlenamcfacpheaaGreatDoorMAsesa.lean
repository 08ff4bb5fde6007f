/-
  TT is proved here: parts of Js proof, one behind Js other (texts of this work, merged by a program; ZV Js theorem ZW not use is left out). No condition.
-/
import Derived.OrdersHeld
import Derived.Scope
import Derived.KernelRfl
import Derived.IntWalk
import Derived.ProofKit
import Derived.ChangeOld
import Derived.Below
import Derived.Carry
import Derived.OpenShut
set_option maxRecDepth 100000
set_option maxHeartbeats 4000000
namespace Go
abbrev bV:=Option Addr
abbrev iI:=Value→Array Obj→Prop
abbrev ka:ByteArray:=⟨#[]⟩
abbrev AA (b i:Nat):Addr:=⟨b,i,none⟩
abbrev Value.I (x:Int):Value:=.int .i64 x
abbrev Value.U (x:Int):Value:=.int .u64 x
abbrev Value.P (b i:Nat):Value:=.pointer (some ⟨b,i,none⟩)
abbrev Value.Z:Value:=.slice none 0 0
theorem dM {c:Prop} {i:Decidable c} {α:Sort _} {t e:α} (h: ¬c:=by first|decide|omega|(simp only[decide_eq_true_eq];omega)):ite c t e=e:=if_neg h
theorem jy {c:Prop} {i:Decidable c} {α:Sort _} {t e:α} (h:c:=by first|decide|omega|exact decide_eq_true (by omega)):ite c t e=t:=if_pos h
theorem gD:bC% @Array.getD_eq_getD_getElem?:=@Array.getD_eq_getD_getElem?
theorem eY:bC% @Array.getElem?_append_left:=@Array.getElem?_append_left
theorem fE:bC% @Array.getElem?_modify:=@Array.getElem?_modify
theorem iA:bC% @Array.getElem?_push:=@Array.getElem?_push
theorem cM:bC% @Array.getElem?_setIfInBounds:=@Array.getElem?_setIfInBounds
theorem eg:bC% @Array.getElem?_toList:=@Array.getElem?_toList
theorem fU:bC% @Array.length_toList:=@Array.length_toList
theorem fP:bC% @Array.size_push:=@Array.size_push
theorem aW:bC% @Bool.and_eq_true:=@Bool.and_eq_true
theorem gL:bC% @Bool.false_and:=@Bool.false_and
theorem aA:bC% @Bool.false_eq_true:=@Bool.false_eq_true
theorem gM:bC% @Bool.not_false:=@Bool.not_false
theorem dX:bC% @Bool.not_true:=@Bool.not_true
theorem fv:bC% @Bool.true_and:=@Bool.true_and
theorem fZ:bC% @Iff.rfl:=@Iff.rfl
theorem mH:bC% @Int.eq_ofNat_of_zero_le:=@Int.eq_ofNat_of_zero_le
theorem gh:bC% @Int.le_refl:=@Int.le_refl
theorem aL:bC% @Int.toNat_natCast:=@Int.toNat_natCast
theorem iL:bC% @List.Pairwise.filter:=@List.Pairwise.filter
theorem gO:bC% @List.Pairwise.sublist:=@List.Pairwise.sublist
theorem iD:bC% @List.Sublist.map:=@List.Sublist.map
theorem dV:bC% @List.append_assoc:=@List.append_assoc
theorem fw:bC% @List.cons_append:=@List.cons_append
theorem db:bC% @List.drop_eq_getElem_cons:=@List.drop_eq_getElem_cons
theorem fM:bC% @List.drop_of_length_le:=@List.drop_of_length_le
theorem jU:bC% @List.drop_zero:=@List.drop_zero
theorem im:bC% @List.ext_getElem?:=@List.ext_getElem?
theorem iE:bC% @List.filter_append:=@List.filter_append
theorem fG:bC% @List.filter_congr:=@List.filter_congr
theorem cD:bC% @List.filter_cons:=@List.filter_cons
theorem cI:bC% @List.filter_eq_self:=@List.filter_eq_self
theorem eM:bC% @List.filter_map:=@List.filter_map
theorem cV:bC% @List.filter_sublist:=@List.filter_sublist
theorem dL:bC% @List.findIdx?_eq_none_iff:=@List.findIdx?_eq_none_iff
theorem cP:bC% @List.findIdx?_eq_some_iff_getElem:=@List.findIdx?_eq_some_iff_getElem
theorem dJ:bC% @List.flatMap_append:=@List.flatMap_append
theorem iT:bC% @List.flatMap_cons:=@List.flatMap_cons
theorem ba:bC% @List.getD_eq_getElem?_getD:=@List.getD_eq_getElem?_getD
theorem dy:bC% @List.getElem?_append_left:=@List.getElem?_append_left
theorem dq:bC% @List.getElem?_append_right:=@List.getElem?_append_right
theorem eO:bC% @List.getElem?_cons_succ:=@List.getElem?_cons_succ
theorem eU:bC% @List.getElem?_cons_zero:=@List.getElem?_cons_zero
theorem iM:bC% @List.getElem?_drop:=@List.getElem?_drop
theorem au:bC% @List.getElem?_eq_getElem:=@List.getElem?_eq_getElem
theorem eH:bC% @List.getElem?_eq_none:=@List.getElem?_eq_none
theorem aG:bC% @List.getElem?_eq_some_iff:=@List.getElem?_eq_some_iff
theorem fV:bC% @List.getElem?_inj:=@List.getElem?_inj
theorem aO:bC% @List.getElem?_map:=@List.getElem?_map
theorem bH:bC% @List.getElem?_of_mem:=@List.getElem?_of_mem
theorem eJ:bC% @List.getElem?_set:=@List.getElem?_set
theorem dt:bC% @List.getElem?_take:=@List.getElem?_take
theorem fx:bC% @List.getElem_mem:=@List.getElem_mem
theorem aF:bC% @List.length_append:=@List.length_append
theorem bj:bC% @List.length_cons:=@List.length_cons
theorem cg:bC% @List.length_drop:=@List.length_drop
theorem cJ:bC% @List.length_filter_le:=@List.length_filter_le
theorem aN:bC% @List.length_map:=@List.length_map
theorem bD:bC% @List.length_nil:=@List.length_nil
theorem eX:bC% @List.length_set:=@List.length_set
theorem fk:bC% @List.length_singleton:=@List.length_singleton
theorem bR:bC% @List.length_take:=@List.length_take
theorem bm:bC% @List.map_append:=@List.map_append
theorem fW:bC% @List.map_congr_left:=@List.map_congr_left
theorem cB:bC% @List.map_cons:=@List.map_cons
theorem fH:bC% @List.map_map:=@List.map_map
theorem bU:bC% @List.mem_append:=@List.mem_append
theorem fK:bC% @List.mem_append_left:=@List.mem_append_left
theorem ga:bC% @List.mem_append_right:=@List.mem_append_right
theorem bQ:bC% @List.mem_cons:=@List.mem_cons
theorem cN:bC% @List.mem_cons_of_mem:=@List.mem_cons_of_mem
theorem dY:bC% @List.mem_cons_self:=@List.mem_cons_self
theorem aY:bC% @List.mem_filter:=@List.mem_filter
theorem bn:bC% @List.mem_map:=@List.mem_map
theorem bB:bC% @List.mem_map_of_mem:=@List.mem_map_of_mem
theorem bt:bC% @List.mem_of_getElem?:=@List.mem_of_getElem?
theorem bW:bC% @List.mem_singleton:=@List.mem_singleton
theorem ft:bC% @List.nil_append:=@List.nil_append
theorem gi:bC% @List.nodup_append:=@List.nodup_append
theorem gv:bC% @List.nodup_cons:=@List.nodup_cons
theorem fj:bC% @List.pairwise_cons:=@List.pairwise_cons
theorem gj:bC% @List.pairwise_map:=@List.pairwise_map
theorem fC:bC% @List.perm_append_singleton:=@List.perm_append_singleton
theorem iN:bC% @List.range_eq_range':=@List.range_eq_range'
theorem bZ:bC% @List.take_add_one:=@List.take_add_one
theorem iF:bC% @List.take_length:=@List.take_length
theorem bT:bC% @List.take_of_length_le:=@List.take_of_length_le
theorem jb:bC% @List.take_succ_cons:=@List.take_succ_cons
theorem fN:bC% @List.take_zero:=@List.take_zero
theorem gk:bC% @Nat.add_mul:=@Nat.add_mul
theorem cj:bC% @Nat.eq_of_beq_eq_true:=@Nat.eq_of_beq_eq_true
theorem bh:bC% @Nat.le_refl:=@Nat.le_refl
theorem dw:bC% @Nat.le_trans:=@Nat.le_trans
theorem cT:bC% @Nat.lt_of_lt_of_le:=@Nat.lt_of_lt_of_le
theorem jl:bC% @Nat.mod_eq_of_lt:=@Nat.mod_eq_of_lt
theorem je:bC% @Nat.mul_comm:=@Nat.mul_comm
theorem df:bC% @Nat.mul_le_mul_right:=@Nat.mul_le_mul_right
theorem cO:bC% @Nat.mul_one:=@Nat.mul_one
theorem iO:bC% @Nat.pow_le_pow_right:=@Nat.pow_le_pow_right
theorem cf:bC% @Nat.zero_add:=@Nat.zero_add
theorem cp:bC% @Nat.zero_le:=@Nat.zero_le
theorem ie:bC% @Ne.symm:=@Ne.symm
theorem gP:bC% @Option.isSome_iff_exists:=@Option.isSome_iff_exists
theorem dz:bC% @Option.map_some:=@Option.map_some
theorem bz:bC% @Option.some.inj:=@Option.some.inj
theorem bF:bC% @Option.some.injEq:=@Option.some.injEq
theorem jK:bC% @Prod.mk.injEq:=@Prod.mk.injEq
theorem gV:bC% @UInt8.toNat_ofNat':=@UInt8.toNat_ofNat'
theorem dA:bC% @beq_iff_eq:=@beq_iff_eq
theorem fL:bC% @bne_iff_ne:=@bne_iff_ne
theorem bp:bC% @congrArg:=@congrArg
theorem ay:bC% @decide_eq_true:=@decide_eq_true
theorem bf:bC% @decide_eq_true_eq:=@decide_eq_true_eq
theorem aU:bC% @if_false:=@if_false
theorem ai:bC% @if_neg:=@if_neg
theorem ag:bC% @if_pos:=@if_pos
theorem bA:bC% @if_true:=@if_true
theorem iq:bC% @ne_eq:=@ne_eq
end Go
namespace Go.Den
abbrev aj:=Array Obj
abbrev Env:=Nat->Option Value
def ak (h:aj) (a:Addr):Option Value:=
 match h[a.block]? with
 |some (.cells c _ _)=>if a.spot.isSome then none else c[a.off]?
 |_=>none
def Ae (h:aj) (r:Nat):Option (TypeId×Nat):=
 match h[r]? with
 |some (.cells c elem _)=>some (elem,c.size)
 |_=>none
def Af (h:aj) (a:Addr):Bool:=
 match h[a.block]? with
 |some (.cells _ _ (lo,hi))=>lo<=a.off && a.off<hi
 |_=>false
def Ag (h:aj) (a:Addr) (n:Nat):aj:=
 if n=0 then h else
 h.modify a.block fun
   | .cells c elem (lo,hi)=> .cells c elem (if lo==hi then(a.off,a.off+n) else(min lo a.off,max hi (a.off+n)))
   |o=>o
def yX (h:aj) (a:Addr) (v:Value):aj:=
 h.modify a.block fun
   | .cells c elem frozen=> .cells (if a.spot.isSome then c else c.setIfInBounds a.off v) elem frozen
   |o=>o
theorem uE (w:World) (a:Addr):w.cell? a=ak w.heap a:=rfl
theorem abu (w:World) (r:Nat):w.shape? r=Ae w.heap r:=rfl
theorem Gn (w:World) (a:Addr):w.frozen? a=Af w.heap a:=rfl
theorem Eh (w:World) (a:Addr) (v:Value):(w.setCell a v).heap=yX w.heap a v:=rfl
theorem ZX (w:World) (a:Addr) (n:Nat):(w.freeze a n).heap=Ag w.heap a n:=by
 unfold World.freeze Ag;split<;>rfl
def iC (w w':World):Prop:=w'.os=w.os/\w'.output=w.output/\w'.tape=w.tape
theorem iC.refl (w:World):iC w w:=⟨rfl,rfl,rfl⟩
theorem iC.trans {a b c:World} (h:iC a b) (h':iC b c):iC a c:=⟨h'.1.trans h.1,h'.2.1.trans h.2.1,h'.2.2.trans h.2.2⟩
def jg:Value->Bool
 | .agg _| .tuple _=>false
 |_=>true
def aX (P:Program) {α:Type} :Sem α->aj->(α->aj->Prop)->Prop
 | .pure a,h,K=>K a h
 | .load _ a k,h,K=> ∃v,ak h a=some v/\aX P (k v) h K
 | .store _ a v k,h,K=>jg v=true/\(ak h a).isSome=true/\Af h a=false/\aX P k (yX h a v) K
 | .new o k,h,K=>aX P (k h.size) (h.push o) K
 | .shape r k,h,K=>aX P (k (Ae h r)) h K
 | .freeze a n k,h,K=>aX P k (Ag h a n) K
 | .frozen a k,h,K=>aX P (k (Af h a)) h K
 | .getObj r k,h,K=> ∃o,h[r]? =some o/\(∀c e f,o≠ .cells c e f)/\aX P (k o) h K
 | .setObj r o k,h,K=>(∃o',h[r]? =some o'/\(∀c e f,o'≠ .cells c e f))/\aX P k (h.setIfInBounds r o) K
 | .choose q k,h,K=>if q.forced=true then aX P (k 0) h K else∀t,aX P (k (q.cut t)) h K
 | .sys _ _,_,_=>False
 | .program k,h,K=>aX P (k P) h K
 | .mark _ k,h,K=>aX P k h K
 | .halt _,_,_=>False
theorem su {P:Program} {α:Type} (s:Sem α): ∀(h:aj) {K K':α->aj->Prop},(∀a h,K a h->K' a h)->aX P s h K->aX P s h K':=by
 induction s with
 |pure a=>intro h K K' hk hh;exact hk _ _ hh
 |load m a k ih=>intro h K K' hk hh;obtain⟨v,h1,h2⟩:=hh;exact⟨v,h1,ih v h hk h2⟩
 |store m a v k ih=>intro h K K' hk hh;obtain⟨h1,h2,h3,h4⟩:=hh;exact⟨h1,h2,h3,ih _ hk h4⟩
 |new o k ih=>intro h K K' hk hh;exact ih _ _ hk hh
 |shape r k ih=>intro h K K' hk hh;exact ih _ _ hk hh
 |freeze a n k ih=>intro h K K' hk hh;exact ih _ hk hh
 |frozen a k ih=>intro h K K' hk hh;exact ih _ _ hk hh
 |getObj r k ih=>intro h K K' hk hh;obtain⟨o,h1,h2,h3⟩:=hh;exact⟨o,h1,h2,ih _ _ hk h3⟩
 |setObj r o k ih=>intro h K K' hk hh;exact⟨hh.1,ih _ hk hh.2⟩
 |choose q k ih=>
  intro h K K' hk hh;unfold aX at hh⊢;split
  ·rename_i hq;rw[ag hq] at hh;exact ih _ _ hk hh
  ·rename_i hq;rw[ai hq] at hh;exact λt=>ih _ _ hk (hh t)
 |sys c k ih=>intro h K K' hk hh;exact hh
 |program k ih=>intro h K K' hk hh;exact ih _ _ hk hh
 |mark m k ih=>intro h K K' hk hh;exact ih _ hk hh
 |halt x=>intro h K K' hk hh;exact hh
theorem QS {P:Program} {α β:Type} (s:Sem α) (f:α->Sem β): ∀(h:aj) (K:β->aj->Prop),aX P (s.bind f) h K↔aX P s h (λa h'=>aX P (f a) h' K):=by
 induction s with
 |pure a=>intro h K;exact fZ
 |load m a k ih=>intro h K;simp only[Sem.bind,aX,ih]
 |store m a v k ih=>intro h K;simp only[Sem.bind,aX,ih]
 |new o k ih=>intro h K;simp only[Sem.bind,aX,ih]
 |shape r k ih=>intro h K;simp only[Sem.bind,aX,ih]
 |freeze a n k ih=>intro h K;simp only[Sem.bind,aX,ih]
 |frozen a k ih=>intro h K;simp only[Sem.bind,aX,ih]
 |getObj r k ih=>intro h K;simp only[Sem.bind,aX,ih]
 |setObj r o k ih=>intro h K;simp only[Sem.bind,aX,ih]
 |choose q k ih=>intro h K;simp only[Sem.bind,aX,ih]
 |sys c k ih=>intro h K;simp only[Sem.bind,aX]
 |program k ih=>intro h K;simp only[Sem.bind,aX,ih]
 |mark m k ih=>intro h K;simp only[Sem.bind,aX,ih]
 |halt x=>intro h K;simp only[Sem.bind,aX]
theorem Ah {P:Program} {α:Type} (s:Sem α): ∀(h:aj) (K:α->aj->Prop),aX P s h K->
  ∀w:World,w.heap=h->∃a w',s.run P w=.ok a w'/\K a w'.heap/\iC w w':=by
 induction s with
 |pure a=>intro h K hh w hw;subst hw;exact⟨a,w,rfl,hh,iC.refl w⟩
 |load m a k ih=>
  intro h K hh w hw;subst hw;obtain⟨v,h1,h2⟩:=hh;obtain⟨x,w',r1,r2⟩:=ih v _ _ h2 w rfl;exact⟨x,w',by simp[Sem.run,uE,h1,r1],r2⟩
 |store m a v k ih=>
  intro h K hh w hw;subst hw;obtain⟨h1,h2,h3,h4⟩:=hh;obtain⟨u,hu⟩:=gP.1 h2;obtain⟨x,w',r1,r2,r3⟩:=ih _ _ h4 (w.setCell a v) (Eh w a v);refine⟨x,w',?_,r2,r3⟩;rw[<-uE] at hu;rw[<-Gn] at h3;cases v<;>simp[jg] at h1<;>simp[Sem.run,hu,h3,r1]
 |new o k ih=>
  intro h K hh w hw;subst hw;obtain⟨x,w',r1,r2,r3⟩:=ih _ _ _ hh { w with heap:=w.heap.push o } rfl;exact⟨x,w',r1,r2,r3⟩
 |shape r k ih=>
  intro h K hh w hw;subst hw;obtain⟨x,w',r1,r2⟩:=ih _ _ _ hh w rfl;exact⟨x,w',by rw[<-abu] at r1;simp[Sem.run,r1],r2⟩
 |freeze a n k ih=>
  intro h K hh w hw;subst hw;obtain⟨x,w',r1,r2,r3⟩:=ih _ _ hh (w.freeze a n) (ZX w a n);refine⟨x,w',by simp[Sem.run,r1],r2,?_⟩;refine iC.trans ?_ r3;unfold World.freeze;split<;>exact⟨rfl,rfl,rfl⟩
 |frozen a k ih=>
  intro h K hh w hw;subst hw;obtain⟨x,w',r1,r2⟩:=ih _ _ _ hh w rfl;exact⟨x,w',by rw[<-Gn] at r1;simp[Sem.run,r1],r2⟩
 |getObj r k ih=>
  intro h K hh w hw;subst hw;obtain⟨o,h1,h2,h3⟩:=hh;obtain⟨x,w',r1,r2⟩:=ih _ _ _ h3 w rfl;refine⟨x,w',?_,r2⟩;cases o<;>first|exact absurd rfl (h2 _ _ _)|simp[Sem.run,h1,r1]
 |setObj r o k ih=>
  intro h K hh w hw;subst hw;obtain⟨⟨o',h1,h2⟩,h3⟩:=hh;obtain⟨x,w',r1,r2,r3⟩:=ih _ _ h3 { w with heap:=w.heap.setIfInBounds r o } rfl;refine⟨x,w',?_,r2,r3⟩;cases o'<;>first|exact absurd rfl (h2 _ _ _)|simp[Sem.run,h1,r1]
 |choose q k ih=>
  intro h K hh w hw;subst hw;unfold aX at hh;split at hh
  ·rename_i hq;obtain⟨x,w',r1,r2⟩:=ih _ _ _ hh w rfl;exact⟨x,w',by simp[Sem.run,hq,r1],r2⟩
  ·rename_i hq;obtain⟨x,w',r1,r2,r3⟩:=ih _ _ _ (hh (w.tape w.drawn q)) { w with drawn:=w.drawn+1 } rfl;exact⟨x,w',by simp only[Sem.run,ai hq];exact r1,r2,r3⟩
 |sys c k ih=>intro h K hh;exact hh.elim
 |program k ih=>
  intro h K hh w hw;subst hw;obtain⟨x,w',r1,r2⟩:=ih _ _ _ hh w rfl;exact⟨x,w',by simp[Sem.run,r1],r2⟩
 |mark m k ih=>
  intro h K hh w hw;subst hw;obtain⟨x,w',r1,r2⟩:=ih _ _ hh w rfl;exact⟨x,w',by simp[Sem.run,r1],r2⟩
 |halt x=>intro h K hh;exact hh.elim
def rd (P:Program) {α:Type} :Sem α->aj->Option α
 | .pure a,_=>some a
 | .load _ a k,h=>(match ak h a with|some v=>rd P (k v) h|none=>none)
 | .shape r k,h=>rd P (k (Ae h r)) h
 | .frozen a k,h=>rd P (k (Af h a)) h
 | .getObj r k,h=>(match h[r]? with|some (.cells _ _ _)=>none|some o=>rd P (k o) h|none=>none)
 | .program k,h=>rd P (k P) h
 | .mark _ k,h=>rd P k h
 |_,_=>none
theorem abv {P:Program} {α:Type} (s:Sem α): ∀(h:aj) (a:α),rd P s h=some a->∀K:α->aj->Prop,K a h->aX P s h K:=by
 induction s with
 |pure b=>intro h a e K hk;simp only[rd,bF] at e;subst e;exact hk
 |load m b k ih=>
  intro h a e K hk;simp only[rd] at e;split at e
  ·rename_i v hv;exact⟨v,hv,ih v h a e K hk⟩
  ·cases e
 |shape r k ih=>intro h a e K hk;exact ih _ h a e K hk
 |frozen b k ih=>intro h a e K hk;exact ih _ h a e K hk
 |getObj r k ih=>
  intro h a e K hk;simp only[rd] at e;split at e
  ·cases e
  ·rename_i o kB ho;exact⟨o,ho,λc e f hc=>kB c e f (hc▸rfl),ih _ h a e K hk⟩
  ·cases e
 |program k ih=>intro h a e K hk;exact ih _ h a e K hk
 |mark m k ih=>intro h a e K hk;exact ih h a e K hk
 |_=>intro h a e;simp[rd] at e
theorem BR {P:Program} {α:Type} (s:Sem α): ∀(w:World) (a:α),rd P s w.heap=some a->s.run P w=.ok a w:=by
 induction s with
 |pure b=>intro w a e;simp only[rd,bF] at e;subst e;rfl
 |load m b k ih=>
  intro w a e;simp only[rd] at e;split at e
  ·rename_i v hv;rw[<-uE] at hv;simp only[Sem.run,hv];exact ih v w a e
  ·cases e
 |shape r k ih=>intro w a e;exact ih _ w a e
 |frozen b k ih=>intro w a e;exact ih _ w a e
 |getObj r k ih=>
  intro w a e;simp only[rd] at e;split at e
  ·cases e
  ·rename_i o kB ho;cases o<;>first|exact absurd rfl (kB _ _ _)|(simp only[Sem.run,ho];exact ih _ w a e)
  ·cases e
 |program k ih=>intro w a e;exact ih _ w a e
 |mark m k ih=>intro w a e;exact ih w a e
 |_=>intro w a e;simp[rd] at e
theorem bu {P:Program} {α β:Type} (s:Sem α) (f:α->Sem β): ∀(h:aj) (a:α),rd P s h=some a->rd P (s>>=f) h=rd P (f a) h:=by
 show∀(h:aj) (a:α),rd P s h=some a->rd P (s.bind f) h=rd P (f a) h;induction s with
 |pure b=>intro h a e;simp only[rd,bF] at e;subst e;rfl
 |load m b k ih=>
  intro h a e;simp only[rd] at e;split at e
  ·rename_i v hv;simp only[Sem.bind,rd,hv];exact ih v h a e
  ·cases e
 |shape r k ih=>intro h a e;exact ih _ h a e
 |frozen b k ih=>intro h a e;exact ih _ h a e
 |getObj r k ih=>
  intro h a e;simp only[rd] at e;split at e
  ·cases e
  ·rename_i o kB ho;cases o<;>first|exact absurd rfl (kB _ _ _)|(simp only[Sem.bind,rd,ho];exact ih _ h a e)
  ·cases e
 |program k ih=>intro h a e;exact ih _ h a e
 |mark m k ih=>intro h a e;exact ih h a e
 |_=>intro h a e;simp[rd] at e
def wE (P:Program) (f:FuncId) (args:Array Value) (h:aj) (R:iI):Prop:=
 ∀w:World,w.heap=h->Calls P f args w (λe w'=> ∃v,e=.returned v/\R v w'.heap/\iC w w')
theorem wE.mono {P:Program} {f:FuncId} {args:Array Value} {h:aj} {R R':iI} (hh:wE P f args h R) (hr: ∀v h',R v h'->R' v h'):wE P f args h R':=
 λw hw=>(hh w hw).mono λ_ _ ⟨v,he,hR,hs⟩=>⟨v,he,hr _ _ hR,hs⟩
def alV (P:Program) (K:iI):Next->aj->Prop
 | .value v,h=>K v h
 | .skip,h=>K undef h
 | .enter f args,h=>wE P f args h K
 |_,_=>False
def BT (P:Program) (o:Oper) (ρ:Operand->Value) (h:aj) (K:iI):Prop:=
 aX P (execOp ρ o) h (alV P K)
theorem BT.wp {P:Program} {o:Oper} {a:Act} {w:World} {K:iI} {next:Act->World->Prop} {Q:Exit->Act->World->Prop}
  (hh:BT P o a.eval w.heap K) (hn: ∀v w',K v w'.heap->iC w w'->next (a.put o.dst v) w'):o.wp P a w next Q:=by
 obtain⟨x,w',r1,r2,r3⟩:=Ah _ _ _ hh w rfl;unfold Oper.wp;rw[r1];cases x with
 |value v=>exact hn _ _ r2 r3
 |skip=>exact hn _ _ r2 r3
 |enter f args=>
  refine(r2 w' rfl).mono ?_;rintro e w'' ⟨v,rfl,hR,hs⟩;exact hn _ _ hR (r3.trans hs)
 |_=>exact r2.elim
inductive jV where
 |int (k:IntKind)
 |bool
 |str
 |ptr
 |slice
 |map
 |raw
inductive Sh where
 |one (l:jV)
 |agg (ls:List jV)
def jV.ex:jV->(Value->Prop)->Prop
 | .int k,F=> ∃n:Int,F (.int k n)
 | .bool,F=> ∃b:Bool,F (.bool b)
 | .str,F=> ∃s:ByteArray,F (.string s)
 | .ptr,F=> ∃p:bV,F (.pointer p)
 | .slice,F=> ∃(p:bV) (l c:Nat),F (.slice p l c)
 | .map,F=> ∃m:Option Nat,F (.map m)
 | .raw,F=> ∃v:Value,F v
def exs:List jV->(List Value->Prop)->Prop
 | [],F=>F []
 |l::ls,F=>l.ex λv=>exs ls λvs=>F (v::vs)
def Sh.ex:Sh->(Value->Prop)->Prop
 | .one l,F=>l.ex F
 | .agg ls,F=>exs ls λvs=>F (.agg vs.toArray)
def abw:List Sh->(List Value->Prop)->Prop
 | [],F=>F []
 |s::ss,F=>s.ex λv=>abw ss λvs=>F (v::vs)
theorem jV.vQ {l:jV} {F:Value->Prop} (h:l.ex F): ∃v,F v:=by
 cases l<;>simp only[jV.ex] at h
 all_goals first
  |(obtain⟨a,b,c,h⟩:=h;exact⟨_,h⟩)
  |(obtain⟨a,h⟩:=h;exact⟨_,h⟩)
theorem QT: ∀ {ls:List jV} {F:List Value->Prop},exs ls F->∃vs,vs.length=ls.length/\F vs
 | [],_,h=>⟨[],rfl,h⟩
 |_::_,_,h=>by
  obtain⟨v,h⟩:=jV.vQ h;obtain⟨vs,hl,h⟩:=QT h;exact⟨v::vs,by simp[hl],h⟩
theorem Sh.vQ {s:Sh} {F:Value->Prop} (h:s.ex F): ∃v,F v:=by
 cases s with
 |one l=>exact jV.vQ h
 |agg ls=>obtain⟨vs,_,h⟩:=QT h;exact⟨_,h⟩
theorem Jt: ∀ {ls:List Sh} {F:List Value->Prop},abw ls F->∃vs,F vs
 | [],_,h=>⟨[],h⟩
 |_::_,_,h=>by
  obtain⟨v,h⟩:=Sh.vQ h;obtain⟨vs,h⟩:=Jt h;exact⟨v::vs,h⟩
def Gp (P:Program) (t:TypeId):Option jV:=
 match P.underlying t with
 |some .bool=>some .bool
 |some (.int k)=>some (.int k)
 |some .string=>some .str
 |some (.pointer _)=>some .ptr
 |some (.slice _)=>some .slice
 |some (.map _ _)=>some .map
 |some (.struct _)=>none
 |some (.array _ _)=>none
 |some (.tuple _)=>none
 |some _=>some .raw
 |none=>none
def EP (P:Program):Nat->TypeId->Option (List jV)
 |0,_=>none
 |n+1,t=>
  match P.underlying t with
  |some (.struct fs)=>fs.toList.foldr (λf acc=>match EP P n f.type,acc with|some a,some b=>some (a++b)|_,_=>none) (some [])
  |some (.array m e)=>(EP P n e).map λl=>(List.replicate m l).flatten
  |_=>(Gp P t).map ([·])
def Ju (P:Program) (t:TypeId):Bool:=
 match P.underlying t with
 |some (.struct _)=>true
 |some (.array _ _)=>true
 |_=>false
def alW (P:Program) (t:TypeId):Option Sh:=
 match Ju P t with
 |true=>(EP P 20 t).map .agg
 |false=>(Gp P t).map .one
def ahQ (P:Program):List TypeId->Option (List Sh)
 | []=>some []
 |t::ts=>match alW P t,ahQ P ts with
  |some s,some ss=>some (s::ss)
  |_,_=>none
def DP (P:Program) (t:TypeId) (F:Value->Prop):Prop:=
 match P.underlying t with
 |some (.tuple ts)=>(match ahQ P ts.toList with|some l=>abw l λvs=>F (.tuple vs.toArray)|none=>False)
 |_=>(match alW P t with|some s=>s.ex F|none=>False)
theorem Jv {P:Program} {t:TypeId} {F:Value->Prop} (h:DP P t F): ∃v,F v:=by
 unfold DP at h;split at h
 ·split at h
  ·obtain⟨_,h⟩:=Jt h;exact⟨_,h⟩
  ·exact h.elim
 ·split at h
  ·exact Sh.vQ h
  ·exact h.elim
theorem Jw {P:Program} {t:TypeId} {v:Value} {K:Value->Prop} (h:DP P t λv'=>v=v'/\K v'):K v:=by
 obtain⟨v',rfl,h⟩:=Jv h;exact h
def aP {α:Type} (p:Option α) (F:α->Prop):Prop:=
 match p with
 |some a=>F a
 |none=>False
theorem cH {α:Type} {p:Option α} {F:α->Prop} :aP p F↔ ∃a,p=some a/\F a:=by
 cases p<;>simp[aP]
@[simp] theorem aB {α:Type} {a:α} {F:α->Prop} :aP (some a) F↔F a:=fZ
def Env.set (σ:Env) (d:Nat) (v:Value):Env:=λt=>bif Nat.beq t d then some v else σ t
def Env.ev (σ:Env):Operand->Option Value
 | .tmp t=>σ t
 | .const v=>some v
 | .global g=>some (.pointer (some ⟨g,0,none⟩))
 | .func f=>some (.func (.func f) #[] #[])
def Env.Ho (σ:Env):Operand->Value:=λx=>(σ.ev x).getD undef
def ajt (σ:Env) (o:Oper):Bool:=o.op.operands.toList.all λx=>(σ.ev x).isSome
def Fits (σ:Env) (ρ:Operand->Value):Prop:= ∀x v,σ.ev x=some v->ρ x=v
def sO (P:Program) {α:Type} :Sem α->Option α
 | .pure a=>some a
 | .program k=>sO P (k P)
 | .mark _ k=>sO P k
 |_=>none
theorem QU {P:Program} {α:Type} (s:Sem α): ∀(a:α),sO P s=some a->∀(h:aj) (K:α->aj->Prop),K a h->aX P s h K:=by
 induction s with
 |pure b=>intro a e h K hk;simp only[sO,bF] at e;subst e;exact hk
 |program k ih=>intro a e h K hk;exact ih P a e h K hk
 |mark m k ih=>intro a e h K hk;exact ih a e h K hk
 |_=>intro a e;simp[sO] at e
theorem Ei {P:Program} {α:Type} (s:Sem α): ∀(a:α),sO P s=some a->∀(h:aj),rd P s h=some a:=by
 induction s with
 |pure b=>intro a e h;exact e
 |program k ih=>intro a e h;exact ih P a e h
 |mark m k ih=>intro a e h;exact ih a e h
 |_=>intro a e;simp[sO] at e
def Gq (P:Program) {α:Type} :Sem α->Option (Obj×(Nat->Sem α))
 | .new o k=>some (o,k)
 | .program k=>Gq P (k P)
 | .mark _ k=>Gq P k
 |_=>none
theorem TU {P:Program} {α:Type} (s:Sem α): ∀(o:Obj) (f:Nat->Sem α),Gq P s=some (o,f)->∀(h:aj) (K:α->aj->Prop),aX P (f h.size) (h.push o) K->aX P s h K:=by
 induction s with
 |new b k ih=>intro o f e h K hk;simp only[Gq,bF,jK] at e;obtain⟨rfl,rfl⟩:=e;exact hk
 |program k ih=>intro o f e h K hk;exact ih P o f e h K hk
 |mark m k ih=>intro o f e h K hk;exact ih o f e h K hk
 |_=>intro o f e;simp[Gq] at e
theorem QV {σ:Env} {ρ:Operand->Value} (hf:Fits σ ρ) (o:Oper) (hd:ajt σ o=true) (hs: ∀cs b,o.op≠ .select cs b):execOp σ.Ho o=execOp ρ o:=by
 refine execOp_congr o hs λx hx=> ?_
 have h1:=List.all_eq_true.1 hd x (by simpa using hx);obtain⟨v,hv⟩:=gP.1 h1;rw[hf x v hv];simp[Env.Ho,hv]
def aV (h:aj) (o:Obj) (K:Nat->aj->Prop):Prop:= ∀b h',b=h.size->h'=h.push o->K b h'
def aH (h:aj) (a:Addr) (v:Value) (K:aj->Prop):Prop:=
 (ak h a).isSome=true/\Af h a=false/\∀h',h'=yX h a v->K h'
def gY (a:Addr):List Value->Nat->aj->(aj->Prop)->Prop
 | [],_,h,K=>K h
 |v::vs,i,h,K=>(match jg v with|true=>aH h (a.add i) v λh'=>gY a vs (i+1) h' K|false=>False)
def abx (h:aj) (a:Addr):List jV->Nat->(List Value->Prop)->Prop
 | [],_,F=>F []
 |l::ls,i,F=>l.ex λv=>ak h (a.add i)=some v/\abx h a ls (i+1) λvs=>F (v::vs)
def fF (a:Addr):List Value->Nat->aj->Prop
 | [],_,_=>True
 |v::vs,i,h=>ak h (a.add i)=some v/\fF a vs (i+1) h
def Dh (P:Program) (t:TypeId) (h:aj) (a:Addr) (K:Value->Option (aj->Prop)->Prop):Prop:=
 match Ju P t with
 |true=>(match EP P 20 t,P.info? t with
  |some ls,some i=>(match Nat.beq i.size ls.length with
   |true=>abx h a ls 0 λvs=>K (.agg vs.toArray) (some (fF a vs 0))
   |false=>False)
  |_,_=>False)
 |false=>(match Gp P t with
  |some l=>l.ex λv=>ak h a=some v/\K v (some λh'=>ak h' a=some v)
  |none=>False)
def BU (P:Program) (t:TypeId) (u v:Value):Option Bool:=
 match v with
 | .pointer none=>(match u,P.underlying t with| .pointer p,some (.pointer _)=>some p.isNone|_,_=>none)
 | .map none=>(match u,P.underlying t with| .map m,some (.map _ _)=>some m.isNone|_,_=>none)
 | .slice none _ _=>(match u,P.underlying t with| .slice p _ _,some (.slice _)=>some p.isNone|_,_=>none)
 |_=>none
def BW (P:Program) (o:Oper) (σ:Env) (K:Value->Option (aj->Prop)->Prop):Prop:=
 match ajt σ o with
 |true=>(match sO P (execOp σ.Ho o) with|some (.value v)=>K v none|_=>False)
 |false=>False
def Hq (P:Program) (t:TypeId) (u v:Value) (b:Bool):Prop:= ∀h,rd P (Op.equal t u v) h=some b
def TV (o:Oper):Bool:=
 match o.op with
 | .binOp _ _ _ (.const _) _=>true
 |_=>false
def Gr (P:Program) (o:Oper) (t:TypeId) (u v:Value):Bool:=
 match v with
 | .nilIface=>TV o
 | .agg _=>(match u with| .agg _=> !P.eqGuardType P.depth t|_=>false)
 | .pointer _=>(match u with| .pointer _=> !TV o|_=>false)
 |_=>false
def TW (P:Program) (o:Oper) (op:BinOp) (t:TypeId) (u v:Value) (σ:Env) (K:Value->Option (aj->Prop)->Prop):Prop:=
 match op with
 | .eql=>(match Gr P o t u v with
  |true=> ∃b:Bool,Hq P t u v b/\K (.bool b) none
  |false=>(match BU P t u v with|some b=>K (.bool b) none|none=>BW P o σ K))
 | .neq=>(match Gr P o t u v with
  |true=> ∃b:Bool,Hq P t u v b/\K (.bool (!b)) none
  |false=>(match BU P t u v with|some b=>K (.bool (!b)) none|none=>BW P o σ K))
 | .quo=>(match u,v with
  | .int k a,.int k' b=>(match decide (k=k') with|true=>if b=0 then False else K (.int k (k.wrap (a.tdiv b))) none|false=>False)
  |_,_=>False)
 | .rem=>(match u,v with
  | .int k a,.int k' b=>(match decide (k=k') with|true=>if b=0 then False else K (.int k (a.tmod b)) none|false=>False)
  |_,_=>False)
 | .shl=>(match u,v with
  | .int k a,.int _ b=>if b<0 then False else K (.int k (k.wrap (a*2 ^ min b.toNat k.bits))) none
  |_,_=>False)
 | .shr=>(match u,v with
  | .int k a,.int _ b=>if b<0 then False else K (.int k (a.fdiv (2 ^ min b.toNat k.bits))) none
  |_,_=>False)
 | .add=>(match u,v with
  | .string a,.string b=>((a.size+b.size:Nat):Int)<=IntKind.i64.max/\K (.string (a++b)) none
  |_,_=>BW P o σ K)
 |_=>BW P o σ K
def QW (P:Program) (s:TypeId) (f:Nat):Option Nat:=
 match P.underlying s with
 |some (.struct fs)=>(match fs[f]? with
  |some fl=>(match P.info? fl.type with|some i=>(match Nat.beq i.size 0 with|true=>none|false=>some fl.offset)|none=>none)
  |none=>none)
 |_=>none
def TZ (n:Int):List Value->Nat->(Value->Prop)->Prop
 | [],_,_=>True
 |v::vs,i,F=>(n=(i:Int)->F v)/\TZ n vs (i+1) F
def Ej (σ:Env):Option Operand->Option (Option Int)
 |none=>some none
 |some x=>match σ.ev x with
  |some (.int _ n)=>some (some n)
  |_=>none
def OB (len cap:Nat):Option Int->Option Int->(Nat->Nat->Prop)->Prop
 |none,none,F=>F 0 len
 |none,some b,F=>(0<=b/\b<=(cap:Int))/\F 0 b.toNat
 |some a,none,F=>(0<=a/\a<=(len:Int))/\F a.toNat len
 |some a,some b,F=>(0<=b/\b<=(cap:Int))/\(0<=a/\a<=b)/\F a.toNat b.toNat
def da (p:bV) (m l size:Nat):bV:=if m=l then p else p.map (·.add (l*size))
def sP (m:Value) (h h':aj):Prop:=
 match m with
 | .map (some r)=>h'[r]? =h[r]?
 |_=>True
def mD (P:Program) (t:TypeId) (m k:Value) (ok:Bool) (h:aj) (v:Value):Prop:=
 ∀h',sP m h h'->rd P (Instr.lookup t m k ok) h'=some v
def afe (P:Program) (QX:Array TypeId) (ty:TypeId) (m:Value) (h:aj) (v:Value):Prop:=
 ∀h',sP m h h'->rd P (Builtin.len_ QX ty #[m]) h'=some v
def DQ (P:Program) (s d:TypeId) (v:Value) (h:aj) (b:ByteArray):Prop:=rd P (convert s d v) h=some (.string b)
def aju:Value->Bool
 | .map _=>true
 |_=>false
def xW (P:Program) (o:Oper) (σ:Env) (h:aj) (K:Value->Option (aj->Prop)->Prop):Prop:=
 match o.op with
 | .pick c a b=>(match σ.ev c,σ.ev a,σ.ev b with
  |some (.bool q),some va,some vb=>if q=true then K va none else K vb none
  |_,_,_=>False)
 | .load t x=>(match σ.ev x with
  |some (.pointer p)=>aP p λa=>Dh P t h a K
  |_=>False)
 | .nilCheck x=>(match σ.ev x with
  |some (.pointer p)=>aP p λa=>K (.pointer (some a)) none
  |_=>BW P o σ K)
 | .binOp op t x y _=>(match σ.ev x,σ.ev y with
  |some u,some v=>TW P o op t u v σ K
  |_,_=>False)
 | .fieldAddr s x f=>(match σ.ev x,QW P s f with
  |some (.pointer p),some off=>aP p λa=>K (.pointer (some (a.add off))) none
  |_,_=>False)
 | .indexAddr t x i=>(match P.underlying t,σ.ev x,σ.ev i with
  |some (.slice e),some (.slice base len _),some (.int _ n)=>(match P.info? e with
   |some i=>(0<=n/\n<(len:Int))/\aP base λa=>K (.pointer (some (a.add (n.toNat*i.size)))) none
   |none=>False)
  |some (.array len e),some (.pointer base),some (.int _ n)=>(match P.info? e with
   |some i=>(0<=n/\n<(len:Int))/\aP base λa=>K (.pointer (some (a.add (n.toNat*i.size)))) none
   |none=>False)
  |_,_,_=>False)
 | .index t x i=>(match P.underlying t,σ.ev x,σ.ev i with
  |some .string,some (.string s),some (.int _ n)=>(0<=n/\n<(s.size:Int))/\K (.int .u8 (s.data.toList.getD n.toNat 0).toNat) none
  |some (.array len e),some (.agg cs),some (.int _ n)=>(match Gp P e,P.info? e,Nat.beq len cs.toList.length with
   |some _,some i,true=>(match Nat.beq i.size 1 with
    |true=>(0<=n/\n<(len:Int))/\TZ n cs.toList 0 λv=>K v none
    |false=>False)
   |_,_,_=>False)
  |_,_,_=>False)
 | .slice t x lo hi mx=>(match mx,P.underlying t,σ.ev x,Ej σ lo,Ej σ hi with
  |none,some (.slice e),some (.slice p len cap),some l,some hh=>(match P.info? e with
   |some i=>OB len cap l hh λa b=>K (.slice (da p cap a i.size) (b - a) (cap - a)) none
   |none=>False)
  |none,some .string,some (.string s),some l,some hh=>OB s.size s.size l hh λa b=>K (.string (s.extract a b)) none
  |none,some (.array n e),some (.pointer p),some l,some hh=>(match P.info? e with
   |some i=>aP p λad=>OB n n l hh λa b=>K (.slice (da (some ad) n a i.size) (b - a) (n - a)) none
   |none=>False)
  |some mo,some (.slice e),some (.slice p _ cap),some none,some (some b)=>(match σ.ev mo,P.info? e with
   |some (.int _ m),some i=>(0<=m/\m<=(cap:Int))/\(0<=b/\b<=m)/\K (.slice (da p m.toNat 0 i.size) b.toNat m.toNat) none
   |_,_=>False)
  |_,_,_,_,_=>False)
 | .lookup t x i ok=>(match σ.ev x,σ.ev i with
  |some m,some k=>DP P o.type λv=>mD P t m k ok h v/\K v (some (sP m h))
  |_,_=>False)
 | .call { callee:=.builtin .len,args:=args,argTypes:=QX } =>(match args.toList with
  | [x]=>(match σ.ev x with
   |some m=>(match aju m with
    |true=> ∃n:Int,afe P QX o.type m h (.int .i64 n)/\K (.int .i64 n) (some (sP m h))
    |false=>BW P o σ K)
   |none=>False)
  |_=>False)
 | .convert s d x=>(match P.underlying d with
  |some .string=>(match σ.ev x with
   |some v=> ∃b:ByteArray,DQ P s d v h b/\K (.string b) (some λh'=>DQ P s d v h' b)
   |none=>False)
  |_=>BW P o σ K)
 | .select _ _=>False
 |_=>BW P o σ K
def vx (P:Program) (o:Oper):Bool:=
 match o.op with
 | .move _| .assign _| .pick .. | .load .. | .nilCheck _| .binOp .. | .unOp .. | .makeInterface .. | .makeFunc .. | .slice .. | .fieldAddr .. | .field .. | .indexAddr .. | .index .. | .lookup .. | .extract .. | .build .. =>true
 | .convert _ d _=>(match P.underlying d with|some (.int _)=>true|some .string=>true|_=>false)
 | .call { callee:=.builtin b,.. } =>(match b with| .len| .cap| .min| .max=>true|_=>false)
 |_=>false
def Ai (P:Program) (g:FuncId):Bool:=
 match P.funcs[g]? with
 |some fn=>fn.body.isSome && !(fn.name== "runtime.NumGoroutine")
 |none=>false
def evs (σ:Env):List Operand->Option (List Value)
 | []=>some []
 |x::xs=>match σ.ev x,evs σ xs with
  |some v,some vs=>some (v::vs)
  |_,_=>none
def Jx (b:Builtin) (QX:Array TypeId) (ty:TypeId) (vs:Array Value):Option (Sem Value):=
 match b with
 | .append=>some (Builtin.append_ QX ty vs)
 | .copy=>some (Builtin.copy_ QX ty vs)
 | .delete=>some (Builtin.delete_ QX ty vs)
 | .clear=>some (Builtin.clear_ QX ty vs)
 |_=>none
def ZY (P:Program) (o:Oper) (σ:Env) (h:aj) (K:iI):Prop:=
 match ajt σ o with
 |true=>(match Gq P (execOp σ.Ho o) with
  |some (ob,k)=>aV h ob λb h'=>(match sO P (k b) with|some (.value v)=>K v h'|_=>False)
  |none=>False)
 |false=>False
def Aj (P:Program) (o:Oper) (σ:Env) (h:aj) (K:iI):Prop:=
 match o.op with
 | .alloc _=>ZY P o σ h K
 | .box _ _=>ZY P o σ h K
 | .buildSlice _ _ _=>ZY P o σ h K
 | .makeMap _ _=>ZY P o σ h K
 | .store t x y=>(match σ.ev x,σ.ev y with
  |some (.pointer p),some v=>aP p λa=>(match P.info? t with
   |some i=>(match Nat.beq i.size v.cells.toList.length with|true=>gY a v.cells.toList 0 h (K undef)|false=>False)
   |none=>False)
  |_,_=>False)
 | .mapUpdate t m k x=>(match σ.ev m,σ.ev k,σ.ev x with
  |some m,some k,some x=>aX P (Instr.mapUpdate t m k x) h λ_ h'=>K undef h'
  |_,_,_=>False)
 | .insert t m k x=>(match σ.ev m,σ.ev k,σ.ev x with
  |some m,some k,some x=>aX P (Instr.mapUpdate t m k x) h λ_ h'=>K undef h'
  |_,_,_=>False)
 | .makeSlice t l c=>(match σ.ev l,σ.ev c with
  |some l,some c=>aX P (Instr.makeSlice t l c) h λv h'=>DP P o.type λv'=>v=v'/\K v' h'
  |_,_=>False)
 | .convert s d x=>(match σ.ev x with
  |some x=>aX P (convert s d x) h λv h'=>DP P o.type λv'=>v=v'/\K v' h'
  |none=>False)
 | .call { callee:=.builtin b,args:=args,argTypes:=QX } =>(match evs σ args.toList with
  |some vs=>(match Jx b QX o.type vs.toArray with
   |some s=>aX P s h λv h'=>DP P o.type λv'=>v=v'/\K v' h'
   |none=>False)
  |none=>False)
 | .call { callee:=.value f,args:=args,argTypes:=_ } =>(match σ.ev f,evs σ args.toList with
  |some (.func (.func g) first captured),some vs=>(match Ai P g with
   |true=>wE P g (first.toList++vs++captured.toList).toArray h λv h'=>DP P o.type λv'=>v=v'/\K v' h'
   |false=>False)
  |_,_=>False)
 | .range t x=>(match σ.ev x with
  |some x=>aX P (Instr.range t x) h λv h'=> ∃r:Nat,v=.pointer (some ⟨r,0,none⟩)/\K (.pointer (some ⟨r,0,none⟩)) h'
  |none=>False)
 | .next it b=>(match σ.ev it with
  |some it=>aX P (Instr.next it b o.type) h λv h'=>(v=.tuple #[.bool false]/\K (.tuple #[.bool false]) h')\/∃k x:Value,v=.tuple #[.bool true,k,x]/\K (.tuple #[.bool true,k,x]) h'
  |none=>False)
 | .entry it=>(match σ.ev it with
  |some it=>aX P (Instr.entry it) h λv h'=> ∃k x:Value,v=.tuple #[k,x]/\K (.tuple #[k,x]) h'
  |none=>False)
 |_=>False
section
variable {P : Program} {h : aj}
theorem Jy {α:Type} (a:α) (K:α->aj->Prop):aX P (pure a:Sem α) h K↔K a h:=fZ
theorem fa {α β:Type} (s:Sem α) (f:α->Sem β) (K:β->aj->Prop):aX P (s>>=f) h K↔aX P s h (λa h'=>aX P (f a) h' K):=QS s f h K
theorem aby {t:TypeId} {d:TypeDesc} (hd:P.underlying t=some d) (K:TypeDesc->aj->Prop):aX P (underlying t) h K↔K d h:=by
 unfold underlying;rw[fa];show aX P (match P.underlying t with|some d=>pure d|none=>stuck "no such type") h K↔_;rw[hd];exact fZ
theorem OC {t:TypeId} {i:TypeInfo} (hi:P.info? t=some i) (K:TypeInfo->aj->Prop):aX P (typeInfo t) h K↔K i h:=by
 unfold typeInfo;rw[fa];show aX P (match P.info? t with|some d=>pure d|none=>stuck "no such type") h K↔_;rw[hi];exact fZ
theorem T0 {t:TypeId} {i:TypeInfo} (hi:P.info? t=some i) (K:Nat->aj->Prop):aX P (sizeOf t) h K↔K i.size h:=by
 unfold sizeOf;rw[fa,OC hi];exact fZ
theorem pJ {α:Type} (a:α):rd P (pure a:Sem α) h=some a:=rfl
theorem bE {t:TypeId} {d:TypeDesc} (hd:P.underlying t=some d):rd P (underlying t) h=some d:=by
 show rd P (match P.underlying t with|some d=>pure d|none=>stuck "no such type") h=_;rw[hd];rfl
theorem lL {t:TypeId} {i:TypeInfo} (hi:P.info? t=some i):rd P (typeInfo t) h=some i:=by
 show rd P (match P.info? t with|some d=>pure d|none=>stuck "no such type") h=_;rw[hi];rfl
theorem lQ {t:TypeId} {i:TypeInfo} (hi:P.info? t=some i):rd P (sizeOf t) h=some i.size:=by
 unfold sizeOf;rw[bu _ _ _ _ (lL hi)];rfl
theorem QY {t:TypeId} (hb:Ju P t=true): ∃d,P.underlying t=some d/\((∃fs,d=.struct fs)\/∃n e,d=.array n e):=by
 unfold Ju at hb;split at hb
 ·rename_i fs e;exact⟨_,e,.inl ⟨_,rfl⟩⟩
 ·rename_i n el e;exact⟨_,e,.inr ⟨_,_,rfl⟩⟩
 ·cases hb
theorem DR {t:TypeId} (hb:Ju P t=true):rd P (isAgg t) h=some true:=by
 obtain⟨d,hd,hh⟩:=QY hb;unfold isAgg;rw[bu _ _ _ _ (bE hd)];rcases hh with⟨fs,rfl⟩|⟨n,e,rfl⟩<;>rfl
theorem wF {t:TypeId} {l:jV} (hl:Gp P t=some l):rd P (isAgg t) h=some false:=by
 unfold Gp at hl;unfold isAgg;cases hd:P.underlying t with
 |none=>rw[hd] at hl;cases hl
 |some d=>rw[bu _ _ _ _ (bE hd)];rw[hd] at hl;cases d<;>first|rfl|cases hl
end
section
variable {P : Program}
theorem OD {a:Addr} {h:aj} {v:Value} (hc:ak h a=some v):rd P (load a) h=some v:=by
 unfold load;simp only[rd,hc]
theorem nQ {a:Addr} : ∀(vs:List Value) (i:Nat) (acc:Array Value) (h:aj),fF a vs i h->rd P (loadCellsFrom a i vs.length acc) h=some (acc++vs.toArray)
 | [],i,acc,h,_=>by simp[loadCellsFrom,pJ]
 |v::vs,i,acc,h,hh=>by
  obtain⟨h1,h2⟩:=hh;simp only[bj,loadCellsFrom];rw[bu _ _ _ _ (OD h1),nQ vs (i+1) _ h h2];simp
theorem Ek {h:aj} {a:Addr} : ∀(ls:List jV) (i:Nat) (F:List Value->Prop),abx h a ls i F->∃vs,vs.length=ls.length/\fF a vs i h/\F vs
 | [],_,_,hh=>⟨[],rfl,trivial,hh⟩
 |_::ls,i,_,hh=>by
  obtain⟨v,h1,h2⟩:=jV.vQ hh;obtain⟨vs,hl,h3,h4⟩:=Ek ls (i+1) _ h2;exact⟨v::vs,by simp[hl],⟨h1,h3⟩,h4⟩
def Gs:Option (aj->Prop)->aj->Prop
 |some S,h=>S h
 |none,_=>True
def Yv (P:Program) (s:Sem Value) (S:Option (aj->Prop)) (v:Value):Prop:=
 ∀h',Gs S h'->rd P s h'=some v
theorem Jz {t:TypeId} {h:aj} {a:Addr} {K:Value->Option (aj->Prop)->Prop} (hh:Dh P t h a K):
  ∃v S,K v S/\Gs S h/\Yv P (loadVar t a) S v:=by
 unfold Dh at hh;split at hh
 ·rename_i hb;split at hh
  ·rename_i ls i hls hi;split at hh
   ·rename_i hn;obtain⟨vs,hl,h1,h2⟩:=Ek _ _ _ hh;refine⟨_,_,h2,h1,λh' hs=> ?_⟩;unfold loadVar;rw[bu _ _ _ _ (DR hb)];simp only[bA];rw[bu _ _ _ _ (lQ hi)];have e:i.size=vs.length:=by rw[hl];exact cj hn
    unfold loadCells;rw[e,bu _ _ _ _ (nQ vs 0 #[] h' hs)];simp[pJ]
   ·exact hh.elim
  ·exact hh.elim
 ·split at hh
  ·rename_i l hl;obtain⟨v,h1,h2⟩:=jV.vQ hh;refine⟨v,_,h2,h1,λh' hs=> ?_⟩;unfold loadVar;rw[bu _ _ _ _ (wF hl)];exact OD hs
  ·exact hh.elim
theorem BX {o:Oper} {σ:Env} {ρ:Operand->Value} {K:Value->Option (aj->Prop)->Prop} (hf:Fits σ ρ) (hs: ∀cs b,o.op≠ .select cs b) (hh:BW P o σ K):
  ∃v,K v none/\∀h',rd P (execOp ρ o) h'=some (.value v):=by
 unfold BW at hh;split at hh
 ·rename_i hd;split at hh
  ·rename_i v hv;exact⟨v,hh,λh'=>Ei _ _ (by rw[<-QV hf o hd hs];exact hv) _⟩
  ·exact hh.elim
 ·exact hh.elim
theorem MB {t:TypeId} {u v:Value} {b:Bool} (hh:BU P t u v=some b): ∀h',rd P (Op.equal t u v) h'=some b:=by
 intro h';unfold Op.equal Op.maxDepth;unfold BU at hh;split at hh
 ·split at hh
  ·rename_i p e he;simp only[bF] at hh;subst hh;unfold Op.equalIn;rw[bu _ _ _ _ (bE he)];cases p<;>rfl
  ·cases hh
 ·split at hh
  ·rename_i m k e he;simp only[bF] at hh;subst hh;unfold Op.equalIn;rw[bu _ _ _ _ (bE he)];cases m<;>rfl
  ·cases hh
 ·split at hh
  ·rename_i p _ _ e he;simp only[bF] at hh;subst hh;unfold Op.equalIn;rw[bu _ _ _ _ (bE he)];cases p<;>rfl
  ·cases hh
 ·cases hh
theorem ER {op:BinOp} {t:TypeId} {x y:Operand} {u v:Value} {b:Bool} (hh:BU P t u v=some b): ∀h',rd P (eqGuard op t x y u v) h'=some ():=by
 intro h';unfold BU at hh;unfold eqGuard;split at hh
 ·split at hh
  ·split<;>exact rfl
  ·cases hh
 ·split at hh
  ·split<;>exact rfl
  ·cases hh
 ·split at hh
  ·split<;>exact rfl
  ·cases hh
 ·cases hh
theorem Hr {t:TypeId} {u v:Value} {b:Bool} (hh:BU P t u v=some b):
  (∃p,u=.pointer p/\v=.pointer none)\/(∃m,u=.map m/\v=.map none)\/(∃p l c l' c',u=.slice p l c/\v=.slice none l' c'):=by
 unfold BU at hh;split at hh
 ·split at hh
  ·exact .inl ⟨_,rfl,rfl⟩
  ·cases hh
 ·split at hh
  ·exact .inr (.inl ⟨_,rfl,rfl⟩)
  ·cases hh
 ·split at hh
  ·exact .inr (.inr ⟨_,_,_,_,_,rfl,rfl⟩)
  ·cases hh
 ·cases hh
theorem qV {op:BinOp} {t:TypeId} {x y:Operand} {u v:Value} (h1:op≠ .eql) (h2:op≠ .neq):eqGuard op t x y u v=pure ():=by
 cases op<;>first|rfl|exact absurd rfl h1|exact absurd rfl h2
theorem uM {o:Oper} {op:BinOp} {t t':TypeId} {x y:Operand} {ρ:Operand->Value} {u v r:Value} {h:aj} (ho:o.op=.binOp op t x y t') (hx:ρ x=u) (hy:ρ y=v)
  (h1:rd P (eqGuard op t x y u v) h=some ()) (h2:rd P (binOp op t u v) h=some r):rd P (execOp ρ o) h=some (.value r):=by
 unfold execOp;rw[ho];simp only[hx,hy];have h3:rd P (do eqGuard op t x y u v;binOp op t u v) h=some r:=by rw[bu _ _ _ _ h1];exact h2
 rw[bu _ _ _ _ h3];rfl
theorem MC {o:Oper} {op:BinOp} {t t':TypeId} {x y:Operand} {ρ:Operand->Value} {u v:Value} (ho:o.op=.binOp op t x y t') (QK:op=.eql\/op=.neq) (hx:ρ x=u) (hy:ρ y=v) (hq:Gr P o t u v=true) {b:Bool} (hb:Hq P t u v b):
  ∀h',rd P (execOp ρ o) h'=some (.value (.bool (if op=.eql then b else !b))):=by
 intro h';have ajv:rd P (eqGuard op t x y u v) h'=some ():=by
  unfold Gr at hq;split at hq
  ·have hc: ∃c,y=.const c:=by
    unfold TV at hq;rw[ho] at hq;cases y<;>first|exact⟨_,rfl⟩|cases hq
   obtain⟨c,rfl⟩:=hc;unfold eqGuard;rcases QK with rfl|rfl<;>cases u<;>first|rfl|(cases x<;>rfl)
  ·split at hq
   ·unfold eqGuard;rcases QK with rfl|rfl
    ·show rd P (program>>=λp=>program>>=λq=>if(!p.eqGuardType q.depth t)=true then pure () else _) h'=some ();rw[bu _ _ _ _ (show rd P program h'=some P from rfl),bu _ _ _ _ (show rd P program h'=some P from rfl),ag hq];rfl
    ·show rd P (program>>=λp=>program>>=λq=>if(!p.eqGuardType q.depth t)=true then pure () else _) h'=some ();rw[bu _ _ _ _ (show rd P program h'=some P from rfl),bu _ _ _ _ (show rd P program h'=some P from rfl),ag hq];rfl
   ·cases hq
  ·split at hq
   ·unfold eqGuard;split<;>exact rfl
   ·cases hq
  ·cases hq
 refine uM ho hx hy ajv ?_;have key: ∀u v:Value,(Gr P o t u v=true)->Hq P t u v b->rd P (binOp op t u v) h'=some (.bool (if op=.eql then b else !b)):=by
  intro u v hq hb;unfold Gr at hq;split at hq
  ·rcases QK with rfl|rfl
   ·have:binOp .eql t u .nilIface=(Op.equal t u .nilIface>>=λq=>pure (Value.bool q)):=by cases u<;>rfl
    rw[this,bu _ _ _ _ (hb h')];rfl
   ·have:binOp .neq t u .nilIface=(Op.equal t u .nilIface>>=λq=>pure (Value.bool (!q))):=by cases u<;>rfl
    rw[this,bu _ _ _ _ (hb h')];rfl
  ·split at hq
   ·rcases QK with rfl|rfl
    ·show rd P (Op.equal t _ _>>=λq=>pure (Value.bool q)) h'=_;rw[bu _ _ _ _ (hb h')];rfl
    ·show rd P (Op.equal t _ _>>=λq=>pure (Value.bool (!q))) h'=_;rw[bu _ _ _ _ (hb h')];rfl
   ·cases hq
  ·split at hq
   ·rcases QK with rfl|rfl
    ·show rd P (Op.equal t _ _>>=λq=>pure (Value.bool q)) h'=_;rw[bu _ _ _ _ (hb h')];rfl
    ·show rd P (Op.equal t _ _>>=λq=>pure (Value.bool (!q))) h'=_;rw[bu _ _ _ _ (hb h')];rfl
   ·cases hq
  ·cases hq
 exact key u v hq hb
theorem ZZ {o:Oper} {op:BinOp} {t t':TypeId} {x y:Operand} {σ:Env} {ρ:Operand->Value} {u v:Value} {K:Value->Option (aj->Prop)->Prop}
  (ho:o.op=.binOp op t x y t') (hf:Fits σ ρ) (hx:ρ x=u) (hy:ρ y=v) (hh:TW P o op t u v σ K):
  ∃v,K v none/\∀h',rd P (execOp ρ o) h'=some (.value v):=by
 have hs: ∀cs b,o.op≠ .select cs b:=by rw[ho];intro cs b e;cases e
 unfold TW at hh;split at hh
 ·split at hh
  ·rename_i hq;obtain⟨b,hb,hK⟩:=hh;exact⟨_,hK,MC ho (.inl rfl) hx hy hq hb⟩
  ·split at hh
   ·rename_i b hb;refine⟨_,hh,λh'=>uM ho hx hy (ER hb h') ?_⟩;have wG:binOp .eql t u v=(do pure (.bool (<-Op.equal t u v))):=by
     rcases Hr hb with⟨p,rfl,rfl⟩|⟨m,rfl,rfl⟩|⟨p,l,c,l',c',rfl,rfl⟩<;>rfl
    rw[wG,bu _ _ _ _ (MB hb h')];rfl
   ·exact BX hf hs hh
 ·split at hh
  ·rename_i hq;obtain⟨b,hb,hK⟩:=hh;exact⟨_,hK,MC ho (.inr rfl) hx hy hq hb⟩
  ·split at hh
   ·rename_i b hb;refine⟨_,hh,λh'=>uM ho hx hy (ER hb h') ?_⟩;have wG:binOp .neq t u v=(do pure (.bool (!(<-Op.equal t u v)))):=by
     rcases Hr hb with⟨p,rfl,rfl⟩|⟨m,rfl,rfl⟩|⟨p,l,c,l',c',rfl,rfl⟩<;>rfl
    rw[wG,bu _ _ _ _ (MB hb h')];rfl
   ·exact BX hf hs hh
 ·split at hh
  ·rename_i k a k' b;split at hh
   ·rename_i hk;obtain rfl:k=k':=of_decide_eq_true hk;split at hh
    ·exact hh.elim
    ·rename_i hb;refine⟨_,hh,λh'=>uM ho hx hy (by rw[qV (by simp) (by simp)];rfl) ?_⟩;simp only[binOp,iq,not_true,aU,Op.intDiv,hb];rfl
   ·exact hh.elim
  ·exact hh.elim
 ·split at hh
  ·rename_i k a k' b;split at hh
   ·rename_i hk;obtain rfl:k=k':=of_decide_eq_true hk;split at hh
    ·exact hh.elim
    ·rename_i hb;refine⟨_,hh,λh'=>uM ho hx hy (by rw[qV (by simp) (by simp)];rfl) ?_⟩;simp only[binOp,iq,not_true,aU,Op.intDiv,hb];rfl
   ·exact hh.elim
  ·exact hh.elim
 ·split at hh
  ·split at hh
   ·exact hh.elim
   ·rename_i hb;refine⟨_,hh,λh'=>uM ho hx hy (by rw[qV (by simp) (by simp)];rfl) ?_⟩;simp only[binOp,Op.shift,hb,aU];rfl
  ·exact hh.elim
 ·split at hh
  ·split at hh
   ·exact hh.elim
   ·rename_i hb;refine⟨_,hh,λh'=>uM ho hx hy (by rw[qV (by simp) (by simp)];rfl) ?_⟩;simp only[binOp,Op.shift,hb,aU];rfl
  ·exact hh.elim
 ·split at hh
  ·obtain⟨hb,hh⟩:=hh;refine⟨_,hh,λh'=>uM ho hx hy (by rw[qV (by simp) (by simp)];rfl) ?_⟩;simp only[binOp,Op.stringOp];rw[dM];rfl
  ·exact BX hf hs hh
 ·exact BX hf hs hh
theorem pg {x:Value} {k:IntKind} {n:Int} {y:Nat} {code:BoundsCode} {h:aj} (hx:x=.int k n) (h1:0<=n) (h2:n<=(y:Int)):rd P (Instr.sliceBound x y code) h=some n.toNat:=by
 subst hx;show rd P (if 0<=n/\n<=(y:Int) then _ else _) h=_;rw[ag ⟨h1,h2⟩];rfl
theorem xX {σ:Env} {ρ:Operand->Value} (hf:Fits σ ρ) {x:Option Operand} {n:Option Int} (hh:Ej σ x=some n):
  (x=none/\n=none)\/∃k m,n=some m/\x.map ρ=some (.int k m):=by
 cases x with
 |none=>simp only[Ej,bF] at hh;exact .inl ⟨rfl,hh.symm⟩
 |some x=>
  simp only[Ej] at hh;split at hh
  ·rename_i k m hm;simp only[bF] at hh;exact .inr ⟨k,m,hh.symm,by simp[hf _ _ hm]⟩
  ·cases hh
theorem wH {σ:Env} {ρ:Operand->Value} (hf:Fits σ ρ) {lo hi:Option Operand} {l r:Option Int} (hl:Ej σ lo=some l) (hr:Ej σ hi=some r)
  {isS:Bool} {len cap:Nat} {F:Nat->Nat->Prop} (hh:OB len cap l r F): ∃a b,F a b/\∀(h:aj),
   rd P (Instr.sliceBounds isS len cap (lo.map ρ) (hi.map ρ) none) h=some (a,b,cap):=by
 rcases xX hf hl with⟨rfl,rfl⟩|⟨k1,m1,rfl,e1⟩<;>rcases xX hf hr with⟨rfl,rfl⟩|⟨k2,m2,rfl,e2⟩
 ·exact⟨0,len,hh,λh=>rfl⟩
 ·obtain⟨⟨h1,h2⟩,hF⟩:=hh;refine⟨0,m2.toNat,hF,λh=> ?_⟩;unfold Instr.sliceBounds;rw[e2,bu _ _ _ _ (pJ _),bu _ _ _ _ (pg rfl h1 h2)];rfl
 ·obtain⟨⟨h1,h2⟩,hF⟩:=hh;refine⟨m1.toNat,len,hF,λh=> ?_⟩;unfold Instr.sliceBounds;rw[e1,bu _ _ _ _ (pJ _)];simp only[Option.map_none];rw[bu _ _ _ _ (pJ _),bu _ _ _ _ (pg rfl h1 h2)];rfl
 ·obtain⟨⟨h1,h2⟩,⟨h3,h4⟩,hF⟩:=hh;refine⟨m1.toNat,m2.toNat,hF,λh=> ?_⟩;unfold Instr.sliceBounds;rw[e1,e2,bu _ _ _ _ (pJ _),bu _ _ _ _ (pg rfl h1 h2),bu _ _ _ _ (pg rfl h3 (by omega))];rfl
theorem MD {n:Int} : ∀(vs:List Value) (i:Nat) (F:Value->Prop),TZ n vs i F->∀j,n=((i+j:Nat):Int)->∀v,vs[j]? =some v->F v
 | [],_,_,_,j,_,v,hv=>by simp at hv
 |u::vs,i,F,hh,j,hn,v,hv=>by
  obtain⟨h1,h2⟩:=hh;cases j with
  |zero=>simp only[eU,bF] at hv;subst hv;exact h1 hn
  |succ j=>exact MD vs (i+1) F h2 j (by omega) v (by simpa using hv)
theorem sQ {s:Sem Value} {v:Value} {h:aj} (hh:rd P s h=some v):rd P (do pure (Next.value (<-s))) h=some (.value v):=by
 rw[bu _ _ _ _ hh];rfl
theorem Ak {o:Oper} {σ:Env} {ρ:Operand->Value} {h:aj} {K:Value->Option (aj->Prop)->Prop} (hf:Fits σ ρ) (hh:xW P o σ h K):
  ∃v S,K v S/\Gs S h/\∀h',Gs S h'->rd P (execOp ρ o) h'=some (.value v):=by
 have I4:(∀cs b,o.op≠ .select cs b)->BW P o σ K->∃v S,K v S/\Gs S h/\∀h',Gs S h'->rd P (execOp ρ o) h'=some (.value v):=λhs hp=>by
  obtain⟨v,h1,h2⟩:=BX hf hs hp;exact⟨v,none,h1,trivial,λh' _=>h2 h'⟩
 unfold xW at hh;split at hh
 ·rename_i c a b ho;split at hh
  ·rename_i q va vb hc ha hb;have e:execOp ρ o=pure (.value (if q then va else vb)):=by
    unfold execOp;rw[ho];simp only[hf _ _ hc,hf _ _ ha,hf _ _ hb];rfl
   split at hh
   ·rename_i hq;exact⟨va,none,hh,trivial,λh' _=>by rw[e,ag hq];rfl⟩
   ·rename_i hq;exact⟨vb,none,hh,trivial,λh' _=>by rw[e,ai hq];rfl⟩
  ·exact hh.elim
 ·rename_i t x ho;split at hh
  ·rename_i p hp;obtain⟨a,rfl,hh⟩:=cH.1 hh;obtain⟨v,S,h1,h2,h3⟩:=Jz hh;refine⟨v,S,h1,h2,λh' hs=> ?_⟩;unfold execOp;rw[ho];simp only[hf _ _ hp];exact sQ (h3 h' hs)
  ·exact hh.elim
 ·rename_i x ho;split at hh
  ·rename_i p hp;obtain⟨a,rfl,hh⟩:=cH.1 hh;refine⟨_,none,hh,trivial,λh' _=> ?_⟩;unfold execOp;rw[ho];simp only[hf _ _ hp];rfl
  ·exact I4 (by rw[ho];intro cs b e;cases e) hh
 ·rename_i op t x y t' ho;split at hh
  ·rename_i u v hu hv;obtain⟨v,h1,h2⟩:=ZZ ho hf (hf _ _ hu) (hf _ _ hv) hh;exact⟨v,none,h1,trivial,λh' _=>h2 h'⟩
  ·exact hh.elim
 ·rename_i s x f ho;split at hh
  ·rename_i p off hp JA;obtain⟨a,rfl,hh⟩:=cH.1 hh;refine⟨_,none,hh,trivial,λh' _=> ?_⟩;unfold QW at JA;split at JA
   ·rename_i fs hfs;split at JA
    ·rename_i fl hfl;split at JA
     ·rename_i i hi;split at JA
      ·cases JA
      ·rename_i hz;simp only[bF] at JA;subst JA;unfold execOp;rw[ho];simp only[hf _ _ hp];refine sQ ?_;unfold Instr.fieldAt;rw[bu _ _ _ _ (bE hfs)];simp only[hfl];show rd P (do let y<-fieldPlace a fl;pure (Value.pointer (some y))) h'=_;have kB: ¬i.size=0:=λe=>by rw[e] at hz;cases hz
       have h1:rd P (fieldPlace a fl) h'=some (a.add fl.offset):=by
        unfold fieldPlace;rw[bu _ _ _ _ (lQ hi),ai kB];rfl
       rw[bu _ _ _ _ h1];rfl
     ·cases JA
    ·cases JA
   ·cases JA
  ·exact hh.elim
 ·rename_i t x ix ho;split at hh
  ·rename_i e base len cap k n ht hx hi;split at hh
   ·rename_i i hie;obtain⟨⟨h1,h2⟩,hh⟩:=hh;obtain⟨a,rfl,hh⟩:=cH.1 hh;refine⟨_,none,hh,trivial,λh' _=> ?_⟩;unfold execOp;rw[ho];simp only[hf _ _ hx,hf _ _ hi];refine sQ ?_;unfold Instr.indexAt;show rd P (do let x<-underlying t;_) h'=_;rw[bu _ _ _ _ (bE ht)];simp only;rw[bu _ _ _ _ (pJ _)];simp only;rw[bu _ _ _ _ (bE ht)];simp only;rw[ag ⟨h1,h2⟩,bu _ _ _ _ (lQ hie)];rfl
   ·exact hh.elim
  ·rename_i len e base k n ht hx hi;split at hh
   ·rename_i i hie;obtain⟨⟨h1,h2⟩,hh⟩:=hh;obtain⟨a,rfl,hh⟩:=cH.1 hh;refine⟨_,none,hh,trivial,λh' _=> ?_⟩;unfold execOp;rw[ho];simp only[hf _ _ hx,hf _ _ hi];refine sQ ?_;unfold Instr.indexAt;show rd P (do let x<-underlying t;_) h'=_;rw[bu _ _ _ _ (bE ht)];simp only[Instr.sureAddr];rw[bu _ _ _ _ (pJ _),bu _ _ _ _ (pJ _)];simp only;rw[bu _ _ _ _ (bE ht)];simp only;rw[ag ⟨h1,h2⟩,bu _ _ _ _ (lQ hie)];rfl
   ·exact hh.elim
  ·exact hh.elim
 ·rename_i t x ix ho;split at hh
  ·rename_i s k n ht hx hi;obtain⟨⟨h1,h2⟩,hh⟩:=hh;refine⟨_,none,hh,trivial,λh' _=> ?_⟩;unfold execOp;rw[ho];simp only[hf _ _ hx,hf _ _ hi];refine sQ ?_;unfold Instr.index;show rd P (do let x<-underlying t;_) h'=_;rw[bu _ _ _ _ (bE ht)];have jc:n.toNat<s.size:=by omega
   have hg:s[n.toNat]? =some (s.data.toList.getD n.toNat 0):=by
    rw[getElem?_pos s n.toNat jc];congr 1
    rw[ba,au (by simpa using jc)];rfl
   simp only[ag h1,hg];rfl
  ·rename_i len e cs k n ht hx hi;split at hh
   ·rename_i i hb hie hlen;split at hh
    ·rename_i JB;obtain⟨⟨h1,h2⟩,hh⟩:=hh;have hlen:=cj hlen;have JB:=cj JB;have jc:n.toNat<cs.toList.length:=by omega
     have hF:=MD _ _ _ hh n.toNat (by omega) _ (au jc);refine⟨_,none,hF,trivial,λh' _=> ?_⟩;unfold execOp;rw[ho];simp only[hf _ _ hx,hf _ _ hi];refine sQ ?_;unfold Instr.index;show rd P (do let x<-underlying t;_) h'=_;rw[bu _ _ _ _ (bE ht)];simp only;rw[ag ⟨h1,h2⟩,bu _ _ _ _ (lQ hie)];unfold part;rw[bu _ _ _ _ (wF hb)];simp only[aA,aU];rw[JB,cO];have hg:cs[n.toNat]? =some (cs.toList[n.toNat]'jc):=by simp
     rw[hg];rfl
    ·exact hh.elim
   ·exact hh.elim
  ·exact hh.elim
 ·rename_i t x lo hi mx ho;split at hh
  ·rename_i e p len cap l hh' ht hx hl hhi;split at hh
   ·rename_i i hie;obtain⟨a,b,hF,hb⟩:=wH (P:=P) (isS:=true) hf hl hhi hh;refine⟨_,none,hF,trivial,λh' _=> ?_⟩;unfold execOp;rw[ho];simp only[hf _ _ hx,Option.map_none];refine sQ ?_;unfold Instr.sliceAt;rw[bu _ _ _ _ (bE ht)];unfold Instr.slice;simp only;rw[bu _ _ _ _ (bE ht)];simp only;rw[bu _ _ _ _ (hb _)];simp only;rw[bu _ _ _ _ (lQ hie)];rfl
   ·exact hh.elim
  ·rename_i s l hh' ht hx hl hhi;obtain⟨a,b,hF,hb⟩:=wH (P:=P) (isS:=false) hf hl hhi hh;refine⟨_,none,hF,trivial,λh' _=> ?_⟩;unfold execOp;rw[ho];simp only[hf _ _ hx,Option.map_none];refine sQ ?_;unfold Instr.sliceAt;rw[bu _ _ _ _ (bE ht)];unfold Instr.slice;simp only;rw[bu _ _ _ _ (bE ht)];simp only[Option.isSome_none,aA,aU];rw[bu _ _ _ _ (hb _)];rfl
  ·rename_i n e p l hh' ht hx hl hhi;split at hh
   ·rename_i i hie;obtain⟨ad,rfl,hh⟩:=cH.1 hh;obtain⟨a,b,hF,hb⟩:=wH (P:=P) (isS:=false) hf hl hhi hh;refine⟨_,none,hF,trivial,λh' _=> ?_⟩;unfold execOp;rw[ho];simp only[hf _ _ hx,Option.map_none];refine sQ ?_;unfold Instr.sliceAt;rw[bu _ _ _ _ (bE ht)];simp only[Instr.sureAddr];rw[bu _ _ _ _ (pJ _),bu _ _ _ _ (hb _)];simp only;rw[bu _ _ _ _ (lQ hie)];show some _=some _;unfold da;congr 2
    split<;>rfl
   ·exact hh.elim
  ·rename_i mo e p len cap b ht hx hl hhi;split at hh
   ·rename_i k m i hm hie;obtain⟨⟨h1,h2⟩,⟨h3,h4⟩,hF⟩:=hh;rcases xX hf hl with⟨rfl,_⟩|⟨_,_,e1,_⟩
    case inr=>cases e1
    rcases xX hf hhi with⟨_,e1⟩|⟨k2,m2,e1,e2⟩
    ·cases e1
    cases e1;refine⟨_,none,hF,trivial,λh' _=> ?_⟩;unfold execOp;rw[ho];simp only[hf _ _ hx,hf _ _ hm,e2,Option.map_none,dz];refine sQ ?_;unfold Instr.sliceAt;rw[bu _ _ _ _ (bE ht)];unfold Instr.slice;simp only;rw[bu _ _ _ _ (bE ht)];simp only;have hb:rd P (Instr.sliceBounds true len cap none (some (.int k2 b)) (some (.int k m))) h'=some (0,b.toNat,m.toNat):=by
     unfold Instr.sliceBounds;simp only;rw[bu _ _ _ _ (pg rfl h1 h2),bu _ _ _ _ (pg rfl h3 (by omega))];rfl
    rw[bu _ _ _ _ hb];simp only;rw[bu _ _ _ _ (lQ hie)];rfl
   ·exact hh.elim
  ·exact hh.elim
 ·rename_i t x i ok ho;split at hh
  ·rename_i m k hm hk;obtain⟨v,h1,h2⟩:=Jv hh;refine⟨v,_,h2,?_,λh' hs=> ?_⟩
   ·show sP m h h;unfold sP;split<;>trivial
   ·unfold execOp;rw[ho];simp only[hf _ _ hm,hf _ _ hk];exact sQ (h1 h' hs)
  ·exact hh.elim
 ·rename_i args QX ho;split at hh
  ·rename_i x ahR;split at hh
   ·rename_i m hm;split at hh
    ·obtain⟨n,h1,h2⟩:=hh;refine⟨_,_,h2,?_,λh' hs=> ?_⟩
     ·show sP m h h;unfold sP;split<;>trivial
     ·have ha:args= #[x]:=by rw[<-Array.toArray_toList (xs:=args),ahR]
      unfold execOp;rw[ho];simp only[resolve,ha];rw[bu _ _ _ _ (pJ _)];simp only[invoke,builtin,List.map_toArray,cB,List.map_nil,hf _ _ hm];exact sQ (h1 h' hs)
    ·exact I4 (by rw[ho];intro cs b e;cases e) hh
   ·exact hh.elim
  ·exact hh.elim
 ·rename_i s d x ho;split at hh
  ·split at hh
   ·rename_i v hv;obtain⟨b,h1,h2⟩:=hh;refine⟨_,_,h2,h1,λh' hs=> ?_⟩;unfold execOp;rw[ho];simp only[hf _ _ hv];exact sQ hs
   ·exact hh.elim
  ·exact I4 (by rw[ho];intro cs b e;cases e) hh
 ·exact hh.elim
 ·rename_i LS;exact I4 LS hh
def uO (p:bV) (h h':aj):Prop:= ∀x,p=some x->x.block<h.size->h'[x.block]? =h[x.block]?
def Kp (h h':aj) (l:List (bV)):Prop:= ∀p∈l,uO p h h'
def OE (σ:Env) (o:Oper):Option (bV):=
 match o.op with
 | .load _ x=>(match σ.ev x with
  |some (.pointer p)=>some p
  |_=>some none)
 |_=>none
theorem BY {h:aj} {a:Addr} {v:Value} (hc:ak h a=some v):a.block<h.size:=by
 unfold ak at hc;split at hc
 ·rename_i hb;exact(Array.getElem?_eq_some_iff.1 hb).1
 ·cases hc
theorem uO.cell {h h':aj} {a b:Addr} {v:Value} (hs:uO (some a) h h') (hb:b.block=a.block) (hc:ak h b=some v):ak h' b=some v:=by
 have:=hs a rfl (by rw[<-hb];exact BY hc);rw[<-hb] at this;unfold ak at hc⊢;rw[this];exact hc
theorem uO.trans {p:bV} {h h1 h2:aj} (a:uO p h h1) (b:uO p h1 h2):uO p h h2:=λx e hx=>by
 have h1':=a x e hx;rw[b x e ?_,h1'];have:=Array.getElem?_eq_getElem hx;rw[this] at h1';exact(Array.getElem?_eq_some_iff.1 h1').1
theorem uO.held {h h':aj} {a:Addr} (hs:uO (some a) h h'): ∀(vs:List Value) (i:Nat),fF a vs i h->fF a vs i h'
 | [],_,_=>trivial
 |_::vs,i,hh=>⟨hs.cell (by unfold Addr.add;split<;>rfl) hh.1,uO.held hs vs (i+1) hh.2⟩
theorem LU {t:TypeId} {h:aj} {a:Addr} {K:Value->Option (aj->Prop)->Prop} (hh:Dh P t h a K):
  ∃v S,K v (some S)/\S h/\(∀h',uO (some a) h h'->S h')/\Yv P (loadVar t a) (some S) v:=by
 have hh':=hh;unfold Dh at hh;split at hh
 ·rename_i hb;split at hh
  ·rename_i ls i hls hi;split at hh
   ·rename_i hn;obtain⟨vs,hl,h1,h2⟩:=Ek _ _ _ hh;refine⟨_,_,h2,h1,λh' hs=>hs.held _ _ h1,λh' hs=> ?_⟩;unfold loadVar;rw[bu _ _ _ _ (DR hb)];simp only[bA];rw[bu _ _ _ _ (lQ hi)];have e:i.size=vs.length:=by rw[hl];exact cj hn
    unfold loadCells;rw[e,bu _ _ _ _ (nQ vs 0 #[] h' hs)];simp[pJ]
   ·exact hh.elim
  ·exact hh.elim
 ·split at hh
  ·rename_i l hl;obtain⟨v,h1,h2⟩:=jV.vQ hh;refine⟨v,_,h2,h1,λh' hs=>hs.cell rfl h1,λh' hs=> ?_⟩;unfold loadVar;rw[bu _ _ _ _ (wF hl)];exact OD hs
  ·exact hh.elim
theorem OF {o:Oper} {σ:Env} {ρ:Operand->Value} {h:aj} {K:Value->Option (aj->Prop)->Prop} {p:bV} (hf:Fits σ ρ) (hl:OE σ o=some p) (hh:xW P o σ h K):
  ∃v S,K v (some S)/\S h/\(∀h',uO p h h'->S h')/\∀h',S h'->rd P (execOp ρ o) h'=some (.value v):=by
 unfold OE at hl;unfold xW at hh;split at hl
 ·rename_i t x ho;simp only[ho] at hh;split at hh
  ·rename_i q hp;simp only[hp,bF] at hl;subst hl;obtain⟨a,rfl,hh⟩:=cH.1 hh;obtain⟨v,S,h1,h2,h4,h3⟩:=LU hh;refine⟨v,S,h1,h2,h4,λh' hs=> ?_⟩;unfold execOp;rw[ho];simp only[hf _ _ hp];exact sQ (h3 h' hs)
  ·exact hh.elim
 ·cases hl
theorem VV {σ:Env} {ρ:Operand->Value} (hf:Fits σ ρ): ∀(xs:List Operand) (vs:List Value),evs σ xs=some vs->xs.map ρ=vs
 | [],vs,hh=>by simp only[evs,bF] at hh;exact hh
 |x::xs,vs,hh=>by
  simp only[evs] at hh;split at hh
  ·rename_i v vs' h1 h2;simp only[bF] at hh;rw[cB,hf _ _ h1,VV hf xs vs' h2,hh]
  ·cases hh
theorem ES {σ:Env} {ρ:Operand->Value} (hf:Fits σ ρ) {args:Array Operand} {vs:List Value} (hh:evs σ args.toList=some vs):args.map ρ=vs.toArray:=by
 have:=VV hf _ _ hh;rw[<-this];apply Array.ext'
 simp
theorem I5 {o:Oper} {σ:Env} {ρ:Operand->Value} {h:aj} {K:iI} (hf:Fits σ ρ) (hs: ∀cs b,o.op≠ .select cs b) (hh:ZY P o σ h K):BT P o ρ h K:=by
 unfold ZY at hh;split at hh
 ·rename_i hd;split at hh
  ·rename_i ob k hr;have h1:=hh _ _ rfl rfl;dsimp only at h1;split at h1
   ·rename_i v hv;refine TU _ ob k (by rw[<-QV hf o hd hs];exact hr) _ _ ?_;exact QU _ _ hv _ _ h1
   ·exact h1.elim
  ·exact hh.elim
 ·exact hh.elim
theorem ME {a:Addr} : ∀(vs:List Value) (i:Nat) (h:aj) (K:aj->Prop),gY a vs i h K->aX P (storeCells a vs i) h (λ_ h'=>K h')
 | [],_,_,_,hh=>hh
 |v::vs,i,h,K,hh=>by
  simp only[gY] at hh;split at hh
  ·rename_i h1;obtain⟨h2,h3,h4⟩:=hh;simp only[storeCells];rw[fa];exact⟨h1,h2,h3,ME vs (i+1) _ K (h4 _ rfl)⟩
  ·exact hh.elim
theorem Gt {s:Sem Value} {h:aj} {t:TypeId} {K:iI} (hh:aX P s h λv h'=>DP P t λv'=>v=v'/\K v' h'):aX P s h K:=
 su _ _ (λ_ _ hr=>Jw hr) hh
theorem Gu {o:Oper} {σ:Env} {ρ:Operand->Value} {h:aj} {K:iI} (hf:Fits σ ρ) (hh:Aj P o σ h K):BT P o ρ h K:=by
 unfold Aj at hh;split at hh
 ·rename_i ho;exact I5 hf (by rw[ho];intro cs b e;cases e) hh
 ·rename_i ho;exact I5 hf (by rw[ho];intro cs b e;cases e) hh
 ·rename_i ho;exact I5 hf (by rw[ho];intro cs b e;cases e) hh
 ·rename_i ho;exact I5 hf (by rw[ho];intro cs b e;cases e) hh
 ·rename_i t x y ho;split at hh
  ·rename_i p v hx hy;obtain⟨a,rfl,hh⟩:=cH.1 hh;split at hh
   ·rename_i i hi;split at hh
    ·rename_i hn;unfold BT execOp;rw[ho];simp only[hf _ _ hx,hf _ _ hy];rw[fa];unfold Instr.storeAt;rw[fa];show aX P (storeVar t a v) h _;unfold storeVar;rw[fa,T0 hi];have e:v.cells.size=i.size:=by have:=cj hn;simpa using this.symm
     simp only[e,iq,not_true,aU];exact ME _ _ _ _ hh
    ·exact hh.elim
   ·exact hh.elim
  ·exact hh.elim
 ·rename_i t m k x ho;split at hh
  ·rename_i m k x hm hk hx;unfold BT execOp;rw[ho];simp only[hf _ _ hm,hf _ _ hk,hf _ _ hx];rw[fa];exact hh
  ·exact hh.elim
 ·rename_i t m k x ho;split at hh
  ·rename_i m k x hm hk hx;unfold BT execOp;rw[ho];simp only[hf _ _ hm,hf _ _ hk,hf _ _ hx];rw[fa];exact hh
  ·exact hh.elim
 ·rename_i t l c ho;split at hh
  ·rename_i l c hl hc;unfold BT execOp;rw[ho];simp only[hf _ _ hl,hf _ _ hc];rw[fa];exact Gt hh
  ·exact hh.elim
 ·rename_i s d x ho;split at hh
  ·rename_i x hx;unfold BT execOp;rw[ho];simp only[hf _ _ hx];rw[fa];exact Gt hh
  ·exact hh.elim
 ·rename_i b args QX ho;split at hh
  ·rename_i vs hvs;split at hh
   ·rename_i s hs;unfold BT execOp;rw[ho];simp only[resolve,ES hf hvs];rw[fa,Jy];simp only[invoke];cases b<;>simp only[Jx] at hs<;>first|cases hs|skip
    all_goals (simp only[builtin];rw[fa];exact Gt hh)
   ·exact hh.elim
  ·exact hh.elim
 ·rename_i f args QX ho;split at hh
  ·rename_i g first captured vs hg hvs;split at hh
   ·rename_i hb;unfold BT execOp;rw[ho];simp only[resolve,ES hf hvs,hf _ _ hg,Deferred.ofValue];rw[fa,Jy];simp only[invoke,callFunc];rw[fa];unfold Ai at hb;split at hb
    ·rename_i fn hfn;simp only[aW,Bool.not_eq_true'] at hb;show aX P (match P.funcs[g]? with|none=>_|some fn=>_) h _;rw[hfn];have hn:fn.body.isNone=false:=by cases hq:fn.body<;>simp[hq] at hb⊢
     simp only[hb.2,hn,aA,aU];have e:(first++vs.toArray++captured)=(first.toList++vs++captured.toList).toArray:=by
      apply Array.ext'
      simp
     rw[e];exact hh.mono λv h' hr=>Jw hr
    ·cases hb
   ·exact hh.elim
  ·exact hh.elim
 ·rename_i t x ho;split at hh
  ·rename_i x hx;unfold BT execOp;rw[ho];simp only[hf _ _ hx];rw[fa];exact su _ _ (λv h' ⟨r,e,hr⟩=>by subst e;exact hr) hh
  ·exact hh.elim
 ·rename_i it b ho;split at hh
  ·rename_i it hx;unfold BT execOp;rw[ho];simp only[hf _ _ hx];rw[fa];refine su _ _ (λv h' hr=> ?_) hh;rcases hr with⟨e,hr⟩|hr
   ·subst e;exact hr
   ·obtain⟨k,x,e,hr⟩:=hr;subst e;exact hr
  ·exact hh.elim
 ·rename_i it ho;split at hh
  ·rename_i it hx;unfold BT execOp;rw[ho];simp only[hf _ _ hx];rw[fa];refine su _ _ (λv h' hr=> ?_) hh;obtain⟨k,x,e,hr⟩:=hr;subst e;exact hr
  ·exact hh.elim
 ·exact hh.elim
end
def jV.T (X:Type):jV->Type
 | .int _=>Int->X
 | .bool=>Bool->X
 | .str=>ByteArray->X
 | .ptr=>bV->X
 | .slice=>bV->Nat->Nat->X
 | .map=>Option Nat->X
 | .raw=>Value->X
def Di (X:Type):List jV->Type
 | []=>X
 |l::ls=>l.T (Di X ls)
def Sh.T (X:Type):Sh->Type
 | .one l=>l.T X
 | .agg ls=>Di X ls
def El (X:Type):List (Nat×Sh)->Type
 | []=>X
 |s::L=>s.2.T (El X L)
def jV.lam {X:Type} :(l:jV)->(Value->X)->l.T X
 | .int k,F=>λn:Int=>F (.int k n)
 | .bool,F=>λb:Bool=>F (.bool b)
 | .str,F=>λs:ByteArray=>F (.string s)
 | .ptr,F=>λp:bV=>F (.pointer p)
 | .slice,F=>λ(p:bV) (l c:Nat)=>F (.slice p l c)
 | .map,F=>λm:Option Nat=>F (.map m)
 | .raw,F=>λv:Value=>F v
def ajw {X:Type} :(ls:List jV)->(List Value->X)->Di X ls
 | [],F=>F []
 |l::ls,F=>l.lam λv=>ajw ls λvs=>F (v::vs)
def Sh.lam {X:Type} :(s:Sh)->(Value->X)->s.T X
 | .one l,F=>l.lam F
 | .agg ls,F=>ajw ls λvs=>F (.agg vs.toArray)
def aff {X:Type} :(L:List (Nat×Sh))->(Env->X)->Env->El X L
 | [],F,σ=>F σ
 |(t,s)::L,F,σ=>s.lam λv=>aff L F (σ.set t v)
def jV.ap {X Y:Type} (d:Y):(l:jV)->l.T X->Value->(X->Y)->Y
 | .int k,f,.int k' n,K=>(match decide (k=k') with|true=>K (f n)|false=>d)
 | .bool,f,.bool b,K=>K (f b)
 | .str,f,.string s,K=>K (f s)
 | .ptr,f,.pointer p,K=>K (f p)
 | .slice,f,.slice p l c,K=>K (f p l c)
 | .map,f,.map m,K=>K (f m)
 | .raw,f,v,K=>K (f v)
 |_,_,_,_=>d
def aps {X Y:Type} (d:Y):(ls:List jV)->Di X ls->List Value->(X->Y)->Y
 | [],f, [],K=>K f
 |l::ls,f,v::vs,K=>l.ap d f v λg=>aps d ls g vs K
 |_,_,_,_=>d
def Sh.ap {X Y:Type} (d:Y):(s:Sh)->s.T X->Value->(X->Y)->Y
 | .one l,f,v,K=>l.ap d f v K
 | .agg ls,f,.agg vs,K=>aps d ls f vs.toList K
 |_,_,_,_=>d
def yH {X Y:Type} (d:Y):(L:List (Nat×Sh))->El X L->Env->(X->Y)->Y
 | [],f,_,K=>K f
 |(t,s)::L,f,σ,K=>(match σ t with|some v=>s.ap d f v λg=>yH d L g σ K|none=>d)
def jV.all:jV->(Value->Prop)->Prop
 | .int k,F=> ∀n:Int,F (.int k n)
 | .bool,F=> ∀b:Bool,F (.bool b)
 | .str,F=> ∀s:ByteArray,F (.string s)
 | .ptr,F=> ∀p:bV,F (.pointer p)
 | .slice,F=> ∀(p:bV) (l c:Nat),F (.slice p l c)
 | .map,F=> ∀m:Option Nat,F (.map m)
 | .raw,F=> ∀v:Value,F v
def ajx:List jV->(List Value->Prop)->Prop
 | [],F=>F []
 |l::ls,F=>l.all λv=>ajx ls λvs=>F (v::vs)
def Sh.all:Sh->(Value->Prop)->Prop
 | .one l,F=>l.all F
 | .agg ls,F=>ajx ls λvs=>F (.agg vs.toArray)
def abz:List (Nat×Sh)->(Env->Prop)->Env->Prop
 | [],F,σ=>F σ
 |(t,s)::L,F,σ=>s.all λv=>abz L F (σ.set t v)
theorem jV.abA {X Y:Type} {d:Y} {l:jV} {f:l.T X} {v:Value} {K:X->Y} :l.ap d f v K=d\/((∃g:X,l.ap d f v K=K g)/\∀(Z:Type) (F:Value->Z),∀(W:Type) (e:W) (J:Z->W),l.ap e (l.lam F) v J=J (F v)):=by
 cases l<;>cases v<;>first
  |exact .inl rfl
  |exact .inr ⟨⟨_,rfl⟩,λ_ _ _ _ _=>rfl⟩
  |skip
 rename_i k k' n;by_cases hk:k=k'
 ·subst hk;refine .inr ⟨⟨f n,?_⟩,λZ F W e J=> ?_⟩<;>simp[jV.ap,jV.lam]
 ·exact .inl (by simp[jV.ap,hk])
theorem jV.VW {X:Type} {l:jV} {f:l.T X} {v:Value} {K:X->Prop} (h:l.ap False f v K):
  (∃g:X,K g)/\(∀(Z W:Type) (F:Value->Z) (e:W) (J:Z->W),l.ap e (l.lam F) v J=J (F v)):=by
 rcases jV.abA (d:=False) (l:=l) (f:=f) (v:=v) (K:=K) with h1|⟨⟨g,h1⟩,h2⟩
 ·rw[h1] at h;exact h.elim
 ·exact⟨⟨g,by rw[h1] at h;exact h⟩,λZ W F e J=>h2 Z F W e J⟩
theorem jV.OG {l:jV} {F:Value->Prop} (h:l.all F) {X:Type} {f:l.T X} {v:Value} {K:X->Prop} (ha:l.ap False f v K):F v:=by
 cases l<;>cases v<;>first
  |exact ha.elim
  |exact h _
  |exact h _ _ _
  |skip
 rename_i k k' n;by_cases hk:k=k'
 ·subst hk;exact h n
 ·simp[jV.ap,hk] at ha
theorem jV.OH {X:Type} {l:jV} {F:Value->X} {v:Value} {K:X->Prop} (h:l.ap False (l.lam F) v K):K (F v):=by
 have:=(jV.VW h).2 X Prop F False K;rw[this] at h;exact h
theorem VX {X:Type} : ∀ {ls:List jV} {F:List Value->X} {vs:List Value} {K:X->Prop},aps False ls (ajw ls F) vs K->K (F vs)
 | [],_, [],_,h=>h
 | [],_,_::_,_,h=>h.elim
 |_::_,_, [],_,h=>h.elim
 |_::ls,F,v::vs,_,h=>VX (ls:=ls) (F:=λus=>F (v::us)) (vs:=vs) (jV.OH h)
theorem Sh.OH {X:Type} {s:Sh} {F:Value->X} {v:Value} {K:X->Prop} (h:s.ap False (s.lam F) v K):K (F v):=by
 cases s with
 |one l=>exact jV.OH h
 |agg ls=>
  cases v<;>first|exact h.elim|skip
  rename_i cs;have:=VX (F:=λvs=>F (.agg vs.toArray)) h;simpa using this
theorem VY {X:Type} : ∀ {ls:List jV} {F:List Value->Prop} {f:Di X ls} {vs:List Value} {K:X->Prop},ajx ls F->aps False ls f vs K->F vs
 | [],_,_, [],_,h,_=>h
 | [],_,_,_::_,_,_,h=>h.elim
 |_::_,_,_, [],_,_,h=>h.elim
 |l::ls,F,f,v::vs,K,h,ha=>by
  obtain⟨⟨g,hg⟩,_⟩:=jV.VW ha;have h1:=jV.OG h ha;exact VY (ls:=ls) (F:=λus=>F (v::us)) (vs:=vs) h1 hg
theorem Sh.OG {s:Sh} {F:Value->Prop} (h:s.all F) {X:Type} {f:s.T X} {v:Value} {K:X->Prop} (ha:s.ap False f v K):F v:=by
 cases s with
 |one l=>exact jV.OG h ha
 |agg ls=>
  cases v<;>first|exact ha.elim|skip
  have:=VY h ha;simpa using this
theorem QZ {X:Type} : ∀ {ls:List jV} {f:Di X ls} {vs:List Value} {K:X->Prop},aps False ls f vs K->∃g,K g
 | [],f, [],_,h=>⟨f,h⟩
 | [],_,_::_,_,h=>h.elim
 |_::_,_, [],_,h=>h.elim
 |_::_,_,_::_,_,h=>by
  obtain⟨⟨g,hg⟩,_⟩:=jV.VW h;exact QZ hg
theorem Sh.VZ {X:Type} {s:Sh} {f:s.T X} {v:Value} {K:X->Prop} (h:s.ap False f v K): ∃g,K g:=by
 cases s with
 |one l=>exact(jV.VW h).1
 |agg ls=>cases v<;>first|exact h.elim|exact QZ h
def Sub (mc Q0 cU:Env):Prop:= ∀t v,mc t=some v->cU t=some v\/Q0 t=some v
theorem Env.Eh (σ:Env) (d t:Nat) (v:Value):σ.set d v t=if t=d then some v else σ t:=by
 unfold Env.set;by_cases h:t=d
 ·subst h;simp
 ·have:Nat.beq t d=false:=by cases hb:Nat.beq t d;rfl;exact absurd (cj hb) h
  simp[this,h]
theorem Sub.set {mc Q0 cU:Env} {t:Nat} {v:Value} (ht:cU t=some v) (h:Sub mc (Q0.set t v) cU):Sub mc Q0 cU:=λu x hu=>by
 rcases h u x hu with h1|h1
 ·exact .inl h1
 ·rw[Env.Eh] at h1;split at h1
  ·rename_i e;subst e;exact .inl (ht.trans h1)
  ·exact .inr h1
theorem JC {G:Env->aj->Prop} {h:aj} {cU:Env} : ∀(L:List (Nat×Sh)) (Q0:Env),yH False L (aff (X:=aj->Prop) L G Q0) cU (λf=>f h)->∃mc,G mc h/\Sub mc Q0 cU
 | [],Q0,hh=>⟨Q0,hh,λ_ _ h=> .inr h⟩
 |(t,s)::L,Q0,hh=>by
  simp only[yH] at hh;split at hh
  ·rename_i v hv;have h1:=Sh.OH hh;obtain⟨mc,h2,h3⟩:=JC L _ h1;exact⟨mc,h2,h3.set hv⟩
  ·exact hh.elim
theorem I6 {X : Type} {F : Env -> Prop} {cU : Env} {K : X -> Prop} : ∀ (L : List (Nat × Sh)) (Q0 : Env) (f : El X L), abz L F Q0 -> yH False L f cU K ->
    ∃ mc, F mc /\ Sub mc Q0 cU /\ ((∀ t s, (t, s) ∈ L -> mc t = cU t) /\ ∀ t, (∀ s, (t, s) ∉ L) -> mc t = Q0 t)
  | [], Q0, _, h, _ => ⟨Q0, h, λ_ _ h => .inr h, (λ_ _ h => by cases h), λ_ _ => rfl⟩
  | (t, s) :: L, Q0, f, h, ha => by
    simp only [yH] at ha
    split at ha
    · rename_i v hv
      have h1 := Sh.OG h ha
      obtain ⟨g, hg⟩ := Sh.VZ ha
      obtain ⟨mc, h2, h3, h4, h5⟩ := I6 L _ g h1 hg
      refine ⟨mc, h2, h3.set hv, λu s' hm => ?_, λu hm => ?_⟩
      · by_cases nR : ∃ s'', (u, s'') ∈ L
        · obtain ⟨s'', nR⟩ := nR; exact h4 u s'' nR
        · have hu : u = t := by
            rcases bQ.1 hm with e | e
            · exact (Prod.mk.inj e).1
            · exact absurd ⟨s', e⟩ nR
          subst hu
          rw [h5 u (λs'' hs => nR ⟨s'', hs⟩), Env.Eh, ag rfl, hv]
      · rw [h5 u (λs' hs => hm s' (cN _ hs)), Env.Eh, ai]
        intro e; subst e; exact hm s dY
    · exact ha.elim
theorem yY {X Y:Type} {d:Y} {σ cU:Env} {K:X->Y} : ∀(L:List (Nat×Sh)) (f:El X L),(∀t s,(t,s)∈L->σ t=cU t)->yH d L f σ K=yH d L f cU K
 | [],_,_=>rfl
 |(t,s)::L,f,h=>by
  simp only[yH];rw[h t s dY];have:(λg=>yH d L g σ K)=(λg=>yH d L g cU K):=funext λg=>yY L g (λt s hm=>h t s (cN _ hm))
  rw[this]
theorem Am {X : Type} {σ : Env} {K : X -> Prop} : ∀ (L : List (Nat × Sh)) (f : El X L), yH False L f σ K -> ∀ t s, (t, s) ∈ L -> ∃ v, σ t = some v
  | [], _, _, _, _, h => by cases h
  | (t, s) :: L, f, h, u, s', hm => by
    simp only [yH] at h
    split at h
    · rename_i v hv
      rcases bQ.1 hm with e | e
      · exact ⟨v, by rw [(Prod.mk.inj e).1]; exact hv⟩
      · obtain ⟨g, hg⟩ := Sh.VZ h
        exact Am L g hg u s' e
    · exact h.elim
structure Rel (n:Nat) (σ:Env) (a:Act):Prop where
 defers:a.defers= []
 size:a.tmps.size=n
 at_: ∀t v,σ t=some v->a.tmps.getD t undef=v
theorem Rel.fits {n:Nat} {σ:Env} {a:Act} (h:Rel n σ a):Fits σ a.eval:=by
 intro x v hv;cases x with
 |tmp t=>exact h.at_ t v hv
 |const c=>simpa[Env.ev,Act.eval] using hv
 |global g=>simpa[Env.ev,Act.eval] using hv
 |func f=>simpa[Env.ev,Act.eval] using hv
def nN (n:Nat) (σ:Env) (dst:Option Nat) (v:Value) (K:Env->Prop):Prop:=
 match dst with
 |none=>K σ
 |some d=>(match Nat.blt d n with|true=>K (σ.set d v)|false=>False)
theorem abB {xs:Array Value} {d t:Nat} {v:Value} (hd:d<xs.size):(xs.setIfInBounds d v).getD t undef=if t=d then v else xs.getD t undef:=by
 by_cases h:t=d
 ·subst h;simp[hd]
 ·simp[h,ie h]
theorem oK {n:Nat} {σ:Env} {a:Act} {dst:Option Nat} {v:Value} {K:Env->Prop} (hr:Rel n σ a) (h:nN n σ dst v K): ∃cU,Rel n cU (a.put dst v)/\K cU:=by
 unfold nN at h;split at h
 ·exact⟨σ,hr,h⟩
 ·rename_i d;split at h
  ·rename_i hd;have hd:d<a.tmps.size:=by rw[hr.size];exact(Nat.blt_eq▸hd)
   refine⟨_,⟨hr.defers,by simp[Act.put,hr.size],λt u hu=> ?_⟩,h⟩;simp only[Act.put];rw[abB hd];rw[Env.Eh] at hu;split
   ·rename_i e;rw[ag e] at hu;exact bz hu
   ·rename_i e;rw[ai e] at hu;exact hr.at_ t u hu
  ·exact h.elim
def hY (W:List Nat) (a a':Act):Prop:= ∀t,t∉W->a'.tmps.getD t undef=a.tmps.getD t undef
theorem hY.refl (W:List Nat) (a:Act):hY W a a:=λ_ _=>rfl
theorem hY.trans {W:List Nat} {a b c:Act} (h:hY W a b) (h':hY W b c):hY W a c:=λt ht=>(h' t ht).trans (h t ht)
theorem hY.mono {W W':List Nat} {a b:Act} (h:hY W a b) (hw: ∀t,t∈W->t∈W'):hY W' a b:=λt ht=>h t (λhm=>ht (hw t hm))
theorem hY.put {W:List Nat} {a:Act} {dst:Option Nat} {v:Value} (h: ∀d,dst=some d->d∈W):hY W a (a.put dst v):=by
 intro t ht;cases dst with
 |none=>rfl
 |some d=>
  have kB:t≠d:=λe=>ht (e▸h d rfl)
  simp[Act.put,ie kB]
def pC (ops : Array Oper) (o : Oper) (σ : Env) (run skip : Env -> Prop) : Prop :=
  match o.guard with
  | none => run σ
  | some (j, uF) => (match (ops[j]?).bind (·.dst) with
    | some g => (match σ g with
      | some (.bool b) => if b = true then (match uF with | true => run (σ.set g (.bool true)) | false => skip (σ.set g (.bool true)))
          else (match uF with | true => skip (σ.set g (.bool false)) | false => run (σ.set g (.bool false)))
      | some (.tuple _) => skip σ
      | _ => False)
    | none => False)
theorem getD_some {xs:Array Value} {t:Nat} {v:Value} (h:xs.getD t undef=v) (hv:v≠undef):xs[t]? =some v:=by
 rw[gD] at h;cases hq:xs[t]? with
 |none=>rw[hq] at h;exact absurd h.symm hv
 |some u=>rw[hq] at h;exact bp some h
theorem qD {n:Nat} {ops:Array Oper} {o:Oper} {σ:Env} {a:Act} {run skip:Env->Prop} (hr:Rel n σ a) (h:pC ops o σ run skip):
  (Region.wanted o (yielded ops a.tmps)=true/\∃cU,Rel n cU a/\run cU)\/(Region.wanted o (yielded ops a.tmps)=false/\∃cU,Rel n cU a/\skip cU):=by
 unfold pC at h;split at h
 ·rename_i hg;exact .inl ⟨by simp[Region.wanted,hg],σ,hr,h⟩
 ·rename_i j uF hg;split at h
  ·rename_i g hgd;split at h
   ·rename_i b hb;have ET:=hr.at_ g _ hb;have alX:=getD_some ET (by unfold undef;intro e;cases e);have hy:yielded ops a.tmps j=some b:=by simp[yielded,hgd,alX]
    have yX:Rel n (σ.set g (.bool b)) a:=⟨hr.defers,hr.size,λt u hu=>by
     rw[Env.Eh] at hu;split at hu
     ·rename_i e;subst e;rw[ET];exact bz hu
     ·exact hr.at_ t u hu⟩
    split at h
    ·rename_i hbt;subst hbt;split at h
     ·exact .inl ⟨by simp[Region.wanted,hg,hy],_,yX,h⟩
     ·exact .inr ⟨by simp[Region.wanted,hg,hy],_,yX,h⟩
    ·rename_i hbf;have hbf:b=false:=by simpa using hbf
     subst hbf;split at h
     ·exact .inr ⟨by simp[Region.wanted,hg,hy],_,yX,h⟩
     ·exact .inl ⟨by simp[Region.wanted,hg,hy],_,yX,h⟩
   ·rename_i x hx;have ET:=hr.at_ g _ hx;have hy:yielded ops a.tmps j=none:=by
     simp only[yielded,hgd,Option.bind_some];rw[gD] at ET;cases hq:a.tmps[g]? with
     |none=>rfl
     |some u=>rw[hq] at ET;simp at ET;subst ET;rfl
    exact .inr ⟨by simp[Region.wanted,hg,hy],σ,hr,h⟩
   ·exact h.elim
  ·exact h.elim
def Ht (P:Program) (o:Oper) (σ:Env) (h:aj) (K:iI):Prop:=
 match vx P o with
 |true=>xW P o σ h λv _=>K v h
 |false=>Aj P o σ h K
theorem yZ {P:Program} {o:Oper} {σ:Env} {ρ:Operand->Value} {h:aj} {K:iI} (hf:Fits σ ρ) (hh:Ht P o σ h K):BT P o ρ h K:=by
 unfold Ht at hh;split at hh
 ·obtain⟨v,S,h1,h2,h3⟩:=Ak hf hh;exact abv _ _ _ (h3 h h2) _ h1
 ·exact Gu hf hh
def JD (P:Program) (n:Nat) (ops:Array Oper):List Oper->Env->aj->(Env->aj->Prop)->Prop
 | [],σ,h,K=>K σ h
 |o::rest,σ,h,K=>pC ops o σ
   (λσ=>Ht P o σ h λv h'=>nN n σ o.dst v λcU=>JD P n ops rest cU h' K)
   (λσ=>nN n σ o.dst undef λcU=>JD P n ops rest cU h K)
def cS (ops:Array Oper):List Nat:=ops.toList.filterMap (·.dst)
theorem fX {ops:Array Oper} {i:Nat} {o:Oper} (ho:ops[i]? =some o): ∀d,o.dst=some d->d∈cS ops:=λd hd=>by
 unfold cS;rw[List.mem_filterMap];exact⟨o,by simpa using Array.mem_of_getElem? ho,hd⟩
def Iv (n:Nat) (a0:Act) (w0:World) (W:List Nat) (K:Env->aj->Prop):Exit->Act->World->Prop:=
 λe a w=>e=.normal/\∃σ,Rel n σ a/\K σ w.heap/\iC w0 w/\hY W a0 a
theorem Gv {P:Program} {n:Nat} {ops:Array Oper} {K:Env->aj->Prop} {a0:Act} {w0:World} : ∀(rest:List Oper) (k:Nat) (σ:Env) (a:Act) (w:World),
  (∀j,rest[j]? =ops[k+j]?)->Rel n σ a->iC w0 w->hY (cS ops) a0 a->JD P n ops rest σ w.heap K->wpOps P ops (Iv n a0 w0 (cS ops) K) (List.range' k rest.length) a w
 | [],k,σ,a,w,_,hr,hs,hu,h=>⟨rfl,σ,hr,h,hs,hu⟩
 |o::rest,k,σ,a,w,hj,hr,hs,hu,h=>by
  have h0:ops[k]? =some o:=by have:=hj 0;simpa using this.symm
  have OI: ∀j,rest[j]? =ops[k+1+j]? :=λj=>by have:=hj (j+1);simpa[Nat.add_assoc,Nat.add_comm 1 j] using this
  simp only[bj,List.range'_succ,wpOps,h0];simp only[JD] at h;rcases qD hr h with⟨hw,cU,gB,h⟩|⟨hw,cU,gB,h⟩
  ·rw[ag hw];refine .inl ((yZ gB.fits h).wp ?_);intro v w' hk DD;obtain⟨tS,pL,h1⟩:=oK gB hk;exact Gv rest (k+1) tS _ w' OI pL (hs.trans DD) (hu.trans (hY.put (fX h0))) h1
  ·rw[ai (by rw[hw];simp)];obtain⟨tS,pL,h1⟩:=oK gB h;exact Gv rest (k+1) tS _ w OI pL hs (hu.trans (hY.put (fX h0))) h1
def abC:List (Nat×Sh)->Nat->Option Sh
 | [],_=>none
 |(t,s)::L,d=>(match Nat.beq t d with|true=>some s|false=>abC L d)
def Q3 (ty:List (Nat×Sh)) (dst:Option Nat) (v:Value) (F:Value->Prop):Prop:=
 match dst with
 |none=>F v
 |some d=>(match abC ty d with|some s=>s.ex λv'=>v=v'/\F v'|none=>F v)
theorem BZ {ty:List (Nat×Sh)} {dst:Option Nat} {v:Value} {F:Value->Prop} (h:Q3 ty dst v F):F v:=by
 unfold Q3 at h;split at h
 ·exact h
 ·split at h
  ·obtain⟨v',e,h⟩:=Sh.vQ h;subst e;exact h
  ·exact h
def EU (P:Program) (n:Nat) (ops:Array Oper) (ty:List (Nat×Sh)):List Oper->Env->aj->(Env->aj->Prop)->Prop
 | [],σ,h,K=>K σ h
 |o::rest,σ,h,K=>pC ops o σ
   (λσ=>Ht P o σ h λv h'=>Q3 ty o.dst v λv=>nN n σ o.dst v λcU=>EU P n ops ty rest cU h' K)
   (λσ=>nN n σ o.dst undef λcU=>EU P n ops ty rest cU h K)
theorem Em {P:Program} {n:Nat} {ops:Array Oper} {ty:List (Nat×Sh)} {K:Env->aj->Prop} {a0:Act} {w0:World} : ∀(rest:List Oper) (k:Nat) (σ:Env) (a:Act) (w:World),
  (∀j,rest[j]? =ops[k+j]?)->Rel n σ a->iC w0 w->hY (cS ops) a0 a->EU P n ops ty rest σ w.heap K->wpOps P ops (Iv n a0 w0 (cS ops) K) (List.range' k rest.length) a w
 | [],k,σ,a,w,_,hr,hs,hu,h=>⟨rfl,σ,hr,h,hs,hu⟩
 |o::rest,k,σ,a,w,hj,hr,hs,hu,h=>by
  have h0:ops[k]? =some o:=by have:=hj 0;simpa using this.symm
  have OI: ∀j,rest[j]? =ops[k+1+j]? :=λj=>by have:=hj (j+1);simpa[Nat.add_assoc,Nat.add_comm 1 j] using this
  simp only[bj,List.range'_succ,wpOps,h0];simp only[EU] at h;rcases qD hr h with⟨hw,cU,gB,h⟩|⟨hw,cU,gB,h⟩
  ·rw[ag hw];refine .inl ((yZ gB.fits h).wp ?_);intro v w' hk DD;obtain⟨tS,pL,h1⟩:=oK gB (BZ hk);exact Em rest (k+1) tS _ w' OI pL (hs.trans DD) (hu.trans (hY.put (fX h0))) h1
  ·rw[ai (by rw[hw];simp)];obtain⟨tS,pL,h1⟩:=oK gB h;exact Em rest (k+1) tS _ w OI pL hs (hu.trans (hY.put (fX h0))) h1
def waits (o:Oper) (i:Nat):Bool:=o.after.toList.any λe=>Region.binds .any e && Nat.beq e.on i
def iK (o:Oper) (G:List (Nat×(aj->Prop))):List (Nat×(aj->Prop)):=G.filter λg=> !waits o g.1
theorem ph {o:Oper} {G:List (Nat×(aj->Prop))} {g:Nat×(aj->Prop)} (h:g∈iK o G):g∈G:=(aY.1 h).1
def me (P:Program) (ops:Array Oper) (Q:Exit->Act->World->Prop):Nat->List (Nat×(aj->Prop))->Array Bool->Act->World->Prop
 |0,_,listed,a,w=>Region.ready .any ops listed= []/\Q .normal a w
 |fuel+1,G,listed,a,w=>
  (Region.ready .any ops listed= []->Q .normal a w)/\
  ∀j∈Region.ready .any ops listed,∀o,ops[j]? =some o->wpOp P ops Q j (λa' w'=>(∀g∈iK o G,g.2 w'.heap)/\me P ops Q fuel (iK o G) (listed.setIfInBounds j true) a' w') a w
section
variable {P : Program} {ops : Array Oper} {Q : Exit → Act → World → Prop}
theorem An: ∀(fuel:Nat) (G:List (Nat×(aj->Prop))) (listed:Array Bool) (a:Act) (w:World),me P ops Q fuel G listed a w->wpAny P .any ops Q fuel listed a w
 |0,_,_,_,_,h=>h
 |fuel+1,G,listed,a,w,h=>⟨h.1,λi hi=>by
   obtain⟨_,o,ho,_⟩:=mem_ready.1 hi;exact wpOp_mono (λa' w' h'=>An fuel _ _ a' w' h'.2) (h.2 i hi o ho)⟩
theorem uq: ∀(fuel:Nat) (G G':List (Nat×(aj->Prop))) (listed:Array Bool) (a:Act) (w:World),(∀g∈G',g∈G)->me P ops Q fuel G listed a w->me P ops Q fuel G' listed a w
 |0,_,_,_,_,_,_,h=>h
 |fuel+1,G,G',listed,a,w,hs,h=>⟨h.1,λi hi o ho=>by
   have hk: ∀g∈iK o G',g∈iK o G:=λg hg=>aY.2 ⟨hs g (ph hg),(aY.1 hg).2⟩
   exact wpOp_mono (λa' w' h'=>⟨λg hg=>h'.1 g (hk g hg),uq fuel _ _ _ a' w' hk h'.2⟩) (h.2 i hi o ho)⟩
theorem xY (i:Nat): ∀(fuel:Nat) (G:List (Nat×(aj->Prop))) (listed:Array Bool) (a:Act) (w:World),me P ops Q fuel G listed a w->me P ops Q fuel ((i,λ_=>True)::G) listed a w
 |0,_,_,_,_,h=>h
 |fuel+1,G,listed,a,w,h=>⟨h.1,λj hj o ho=>by
   refine wpOp_mono (λa' w' h'=>⟨λg hg=> ?_,?_⟩) (h.2 j hj o ho)
   ·obtain⟨h1,h2⟩:=aY.1 hg;rcases bQ.1 h1 with e|e
    ·rw[e];trivial
    ·exact h'.1 g (aY.2 ⟨e,h2⟩)
   ·have:=xY i fuel _ _ a' w' h'.2;refine uq fuel _ _ _ a' w' (λg hg=> ?_) this;obtain⟨h1,h2⟩:=aY.1 hg;rcases bQ.1 h1 with e|e
    ·rw[e];exact dY
    ·exact cN _ (aY.2 ⟨e,h2⟩)⟩
theorem Q4 {oj:Oper} {i:Nat} (h: ∀e∈oj.after,Region.binds .any e=true->e.on≠i):waits oj i=false:=by
 unfold waits;rw[List.any_eq_false];intro e he;simp only[aW,not_and];intro hb hq;exact h e (by simpa using he) hb (cj hq)
theorem Ao {i:Nat} {oi:Oper} {v:Value} {S:aj->Prop} (hi:ops[i]? =some oi) (LS: ∀(j:Nat) (o:Oper) cs b,ops[j]? =some o->o.op≠ .select cs b)
  (hQ: ∀c a w,Q (.panic c) (a.put oi.dst v) w->Q (.panic c) a w):
  ∀(fuel:Nat) (G:List (Nat×(aj->Prop))) (listed:Array Bool) (a:Act) (w:World),
   (∀j oj,ops[j]? =some oj->j≠i->listed.getD j true=false->(∀e∈oj.after,Region.binds .any e=true->e.on≠i)->oi.apart ops oj=true)->
   i∈Region.ready .any ops listed->YieldsIf P ops (λw=>S w.heap) oi v a->S w.heap->(∀g∈G,g.2 w.heap)->
   me P ops Q fuel ((i,S)::G) (listed.setIfInBounds i true) (a.put oi.dst v) w->me P ops Q (fuel+1) G listed a w:=by
 intro fuel;induction fuel with
 |zero=>
  intro G listed a w _ hr hy hS hG H;refine⟨λh=>(by rw[h] at hr;cases hr),λj hj o ho=> ?_⟩;by_cases BE:j=i
  ·subst BE;exact hy.wpOp hi hS ⟨λg hg=>hG g (ph hg),H⟩
  ·have:=ready_mono hj BE;rw[H.1] at this;cases this
 |succ fuel ih=>
  intro G listed a w ahS hr hy hS hG H;refine⟨λh=>(by rw[h] at hr;cases hr),λj hj o ho=> ?_⟩;by_cases BE:j=i
  ·subst BE;refine hy.wpOp hi hS ⟨λg hg=>hG g (ph hg),uq _ _ _ _ _ _ (λg hg=>cN _ (ph hg)) H⟩
  ·have h1:=H.2 j (ready_mono hj BE) o ho;obtain⟨alY,oj,hoj,kA⟩:=mem_ready.1 hj;obtain rfl:oj=o:=by rw[ho] at hoj;exact(bz hoj).symm
   have alZ: ∀e∈oj.after,Region.binds .any e=true->e.on≠i:=λe he hb heq=>by
    have h1:=kA e he hb;have h0:=(mem_ready.1 hr).1;rw[heq] at h1;rcases Nat.lt_or_ge i listed.size with h'|h'
    ·simp[h'] at h0 h1;rw[h0] at h1;cases h1
    ·simp[Array.getElem?_eq_none h'] at h1
   have al0:iK oj ((i,S)::G)=(i,S)::iK oj G:=by
    unfold iK;rw[cD,ag];simp[Q4 alZ]
   rw[al0] at h1;have h2:=wpOp_putIf hoj (ahS j oj hoj BE alY alZ) (λcs b=>LS i oi cs b hi) (λcs b=>LS j oj cs b hoj) hQ hy h1;have ajy: ∀k ok,ops[k]? =some ok->k≠i->(listed.setIfInBounds j true).getD k true=false->
     (∀e∈ok.after,Region.binds .any e=true->e.on≠i)->oi.apart ops ok=true:=λk ok hk Q5 hun Gw=>by
    refine ahS k ok hk Q5 ?_ Gw;by_cases hjk:j=k
    ·subst hjk;exact alY
    ·rw[getD_set_ne true hjk] at hun;exact hun
   refine wpOp_mono (λa' w' h3=> ?_) h2;obtain⟨hy',abD,abE⟩:=h3;refine⟨λg hg=>abD g (cN _ hg),?_⟩;refine ih (iK oj G) (listed.setIfInBounds j true) a' w' ajy (ready_mono hr (ie BE)) hy' (abD _ dY) (λg hg=>abD g (cN _ hg)) ?_;rw[Array.setIfInBounds_comm _ _ BE];exact abE
end
inductive BF where
 |done
 |op (i:Nat) (p:BF)
 |alts (q:BF)
 |fork (i:Nat) (p q:BF)
 |mE
def DE:BF->Nat->Bool
 | .done,n=>Nat.beq n 0
 | .op _ p,n+1=>DE p n
 | .alts q,n+1=>DE q (n+1)
 | .fork _ p q,n+1=>DE p n && DE q (n+1)
 | .mE,_=>true
 |_,_=>false
def nI (P:Program) (ops:Array Oper):BF->Option (List Nat)->Array Bool->Bool
 | .done,none,listed=>(Region.ready .any ops listed).isEmpty
 | .op i rest,none,listed=>
  (match ops[i]? with
   |some o=>(match vx P o with
    |true=>(Region.ready .any ops listed).contains i && Region.free .any ops listed i
    |false=>(match Region.ready .any ops listed with| [j]=>Nat.beq i j|_=>false))
   |none=>false) && nI P ops rest none (listed.setIfInBounds i true)
 | .alts q,none,listed=>(match Region.ready .any ops listed with| []=>false|j::js=>nI P ops q (some (j::js)) listed)
 | .fork i p q,some R,listed=>(match ops[i]? with
   |some o=> !vx P o
   |none=>false) && nI P ops p none (listed.setIfInBounds i true) && nI P ops q (some (R.filter λj=> !Nat.beq i j)) listed
 | .mE,some R,_=>R.isEmpty
 |_,_,_=>false
def B1 (h:aj) (K:Prop):List (Nat×(aj->Prop))->Prop
 | []=>K
 |g::G=>g.2 h/\B1 h K G
theorem EV {h:aj} {K:Prop} : ∀ {G:List (Nat×(aj->Prop))},B1 h K G->(∀g∈G,g.2 h)/\K
 | [],hh=>⟨(λ_ hm=>by cases hm),hh⟩
 |_::_,hh=>by
  obtain⟨h1,h2⟩:=EV hh.2;refine⟨λg' hm=> ?_,h2⟩;rcases bQ.1 hm with e|e
  ·rw[e];exact hh.1
  ·exact h1 _ e
def EW (i:Nat) (S:Option (aj->Prop)) (G:List (Nat×(aj->Prop))):List (Nat×(aj->Prop)):=
 match S with
 |some S=>(i,S)::G
 |none=>G
def nO (P:Program) (n:Nat) (ops:Array Oper):BF->List (Nat×(aj->Prop))->Env->aj->(Env->aj->Prop)->Prop
 | .done,_,σ,h,K=>K σ h
 | .op i rest,G,σ,h,K=>(match ops[i]? with
  |some o=>pC ops o σ
    (λσ=>(match vx P o with
     |true=>xW P o σ h λv S=>nN n σ o.dst v λcU=>nO P n ops rest (EW i S G) cU h K
     |false=>Aj P o σ h λv h'=>B1 h' (nN n σ o.dst v λcU=>nO P n ops rest (iK o G) cU h' K) (iK o G)))
    (λσ=>nN n σ o.dst undef λcU=>nO P n ops rest G cU h K)
  |none=>False)
 | .alts q,G,σ,h,K=>nO P n ops q G σ h K
 | .fork i rest q,G,σ,h,K=>(match ops[i]? with
  |some o=>pC ops o σ
    (λσ=>Aj P o σ h λv h'=>B1 h' (nN n σ o.dst v λcU=>nO P n ops rest (iK o G) cU h' K) (iK o G))
    (λσ=>nN n σ o.dst undef λcU=>nO P n ops rest G cU h K)
  |none=>False)/\nO P n ops q G σ h K
 | .mE,_,_,_,_=>True
theorem JE {P:Program} {n:Nat} {ops:Array Oper} {K:Env->aj->Prop} {a0:Act} {w0:World} {rest:BF} {i m:Nat} {o:Oper} {listed:Array Bool} {G:List (Nat×(aj->Prop))} {σ:Env} {a:Act} {w:World}
  (ih: ∀G σ a w,Rel n σ a->iC w0 w->hY (cS ops) a0 a->(∀g∈G,g.2 w.heap)->nO P n ops rest G σ w.heap K->me P ops (Iv n a0 w0 (cS ops) K) m G (listed.setIfInBounds i true) a w)
  (ho:ops[i]? =some o) (hr:Rel n σ a) (hs:iC w0 w) (hu:hY (cS ops) a0 a) (hG: ∀g∈G,g.2 w.heap)
  (h:pC ops o σ (λσ=>Aj P o σ w.heap λv h'=>B1 h' (nN n σ o.dst v λcU=>nO P n ops rest (iK o G) cU h' K) (iK o G)) (λσ=>nN n σ o.dst undef λcU=>nO P n ops rest G cU w.heap K)):
  wpOp P ops (Iv n a0 w0 (cS ops) K) i (λa' w'=>(∀g∈iK o G,g.2 w'.heap)/\me P ops (Iv n a0 w0 (cS ops) K) m (iK o G) (listed.setIfInBounds i true) a' w') a w:=by
 rcases qD hr h with⟨hw,cU,gB,h⟩|⟨hw,cU,gB,B5⟩
 ·unfold wpOp;simp only[ho,hw,bA];refine .inl ((Gu gB.fits h).wp ?_);intro v w' hk DD;obtain⟨h1,h2⟩:=EV hk;obtain⟨tS,pL,h3⟩:=oK gB h2;exact⟨h1,ih _ tS _ w' pL (hs.trans DD) (hu.trans (hY.put (fX ho))) h1 h3⟩
 ·unfold wpOp;simp only[ho,hw,aA,aU];obtain⟨tS,pL,h3⟩:=oK gB B5;have ih:=ih G tS _ w pL hs (hu.trans (hY.put (fX ho))) hG h3;exact⟨λg hg=>hG g (ph hg),uq _ _ _ _ _ _ (λg hg=>ph hg) ih⟩
theorem OJ {P:Program} {n:Nat} {ops:Array Oper} {K:Env->aj->Prop} {a0:Act} {w0:World} (LS:Region.noSelect ops=true) (mC:BF):
  (∀(m:Nat) (listed:Array Bool) (G:List (Nat×(aj->Prop))) (σ:Env) (a:Act) (w:World),DE mC m=true->
   nI P ops mC none listed=true->Rel n σ a->iC w0 w->hY (cS ops) a0 a->(∀g∈G,g.2 w.heap)->nO P n ops mC G σ w.heap K->
   me P ops (Iv n a0 w0 (cS ops) K) m G listed a w)/\
  (∀(m:Nat) (R:List Nat) (listed:Array Bool) (G:List (Nat×(aj->Prop))) (σ:Env) (a:Act) (w:World),DE mC (m+1)=true->
   nI P ops mC (some R) listed=true->Rel n σ a->iC w0 w->hY (cS ops) a0 a->(∀g∈G,g.2 w.heap)->nO P n ops mC G σ w.heap K->
   ∀j∈R,∀o,ops[j]? =some o->wpOp P ops (Iv n a0 w0 (cS ops) K) j (λa' w'=>(∀g∈iK o G,g.2 w'.heap)/\me P ops (Iv n a0 w0 (cS ops) K) m (iK o G) (listed.setIfInBounds j true) a' w') a w):=by
 induction mC with
 |done=>
  refine⟨λm listed G σ a w hl hp hr hs hu hG h=> ?_,λm R listed G σ a w hl hp=>by cases hp⟩;obtain rfl:m=0:=cj hl;simp only[nI,List.isEmpty_iff] at hp;exact⟨hp,rfl,σ,hr,h,hs,hu⟩
 |mE=>
  refine⟨λm listed G σ a w hl hp=>(by cases hp),λm R listed G σ a w hl hp hr hs hu hG h j hj=> ?_⟩;simp only[nI,List.isEmpty_iff] at hp;subst hp;cases hj
 |alts q ih=>
  refine⟨λm listed G σ a w hl hp hr hs hu hG h=> ?_,λm R listed G σ a w hl hp=>by cases hp⟩;cases m with
  |zero=>cases hl
  |succ m=>
   simp only[nI] at hp;split at hp
   ·cases hp
   ·rename_i j js pZ;refine⟨(λe=>by rw[pZ] at e;cases e),λj' OI o ho=> ?_⟩;rw[pZ] at OI;exact ih.2 m _ listed G σ a w hl hp hr hs hu hG h j' OI o ho
 |fork i rest q ih1 ih2=>
  refine⟨λm listed G σ a w hl hp=>(by cases hp),λm R listed G σ a w hl hp hr hs hu hG h j hj o ho=> ?_⟩;simp only[nI,aW] at hp;obtain⟨⟨xS,JF⟩,hp3⟩:=hp;simp only[DE,aW] at hl;simp only[nO] at h;by_cases BE:i=j
  ·subst BE;have h:=h.1;rw[ho] at h;exact JE (λG σ a w hr hs hu hG h=>ih1.1 m _ G σ a w hl.1 JF hr hs hu hG h) ho hr hs hu hG h
  ·refine ih2.2 m _ listed G σ a w hl.2 hp3 hr hs hu hG h.2 j (aY.2 ⟨hj,?_⟩) o ho;have:Nat.beq i j=false:=by cases hb:Nat.beq i j;rfl;exact absurd (cj hb) BE
   simp[this]
 |op i rest ih=>
  refine⟨λm listed G σ a w hl hp hr hs hu hG h=> ?_,λm R listed G σ a w hl hp=>by cases hp⟩;cases m with
  |zero=>cases hl
  |succ m=>
   simp only[nI,aW] at hp;obtain⟨xS,JF⟩:=hp;simp only[nO] at h;split at h
   ·rename_i o ho;simp only[ho] at xS;have hQ: ∀v,∀c a w,Iv n a0 w0 (cS ops) K (.panic c) (a.put o.dst v) w->Iv n a0 w0 (cS ops) K (.panic c) a w:=λv c a w hq=>by cases hq.1
    have take: ∀(v:Value) (S:Option (aj->Prop)) (cU:Env),vx P o=true->Rel n cU (a.put o.dst v)->YieldsIf P ops (λw=>Gs S w.heap) o v a->Gs S w.heap->
      nO P n ops rest (EW i S G) cU w.heap K->me P ops (Iv n a0 w0 (cS ops) K) (m+1) G listed a w:=λv S cU qW gB hy hS hd=>by
     rw[qW] at xS;simp only[aW] at xS;have hG': ∀g∈EW i S G,g.2 w.heap:=by
      intro g hg;cases S with
      |none=>exact hG g hg
      |some S=>
       rcases bQ.1 hg with e|e
       ·rw[e];exact hS
       ·exact hG g e
     have ih:=ih.1 m _ (EW i S G) cU (a.put o.dst v) w hl JF gB hs (hu.trans (hY.put (fX ho))) hG' hd;refine Ao (S:=Gs S) ho (Region.noSelect_spec LS) (hQ v) m G listed a w (Region.free_spec ho xS.2) (by simpa using xS.1) hy hS hG ?_;cases S with
     |none=>exact xY i _ _ _ _ _ ih
     |some S=>exact ih
    cases qW:vx P o with
    |true=>
     rcases qD hr h with⟨hw,cU,gB,h⟩|⟨hw,cU,gB,B5⟩
     ·rw[qW] at h;obtain⟨v,S,h1,h2,h3⟩:=Ak gB.fits h;obtain⟨tS,pL,h4⟩:=oK gB h1;exact take v S tS qW pL (.inl ⟨hw,λw' hS=>BR _ _ _ (h3 _ hS)⟩) h2 h4
     ·obtain⟨tS,pL,h4⟩:=oK gB B5;exact take undef none tS qW pL (.inr ⟨hw,rfl⟩) trivial h4
    |false=>
     rw[qW] at xS h;simp only at xS h;have pZ:Region.ready .any ops listed= [i]:=by
      split at xS
      ·rename_i j hj;rw[hj,cj xS]
      ·cases xS
     refine⟨(λe=>by rw[pZ] at e;cases e),λj hj o' TE=> ?_⟩;rw[pZ] at hj;obtain rfl:j=i:=by simpa using hj
     obtain rfl:o'=o:=by rw[ho] at TE;exact(bz TE).symm
     exact JE (λG σ a w hr hs hu hG h=>ih.1 m _ G σ a w hl JF hr hs hu hG h) ho hr hs hu hG h
   ·exact h.elim
def jh:Nat->Nat->BF->BF
 |0,_,p=>p
 |k+1,i,p=> .op i (jh k (i+1) p)
def DS (o:Oper) (B:List (Nat×bV)):List (Nat×bV):=B.filter λg=> !waits o g.1
def kpK (h h':aj) (K:Prop):List (Nat×bV)->Prop
 | []=>K
 |B=>Kp h h' (B.map (·.2))/\K
theorem ajz {h h':aj} {K:Prop} {B:List (Nat×bV)} (hh:kpK h h' K B):(∀g∈B,uO g.2 h h')/\K:=by
 cases B with
 |nil=>exact⟨(λ_ hm=>by cases hm),hh⟩
 |cons b B=>exact⟨λg hg=>hh.1 g.2 (bn.2 ⟨g,hg,rfl⟩),hh.2⟩
def ke (P:Program) (n:Nat) (ops:Array Oper):BF->List (Nat×(aj->Prop))->List (Nat×bV)->Env->aj->(Env->aj->Prop)->Prop
 | .done,_,_,σ,h,K=>K σ h
 | .op i rest,G,B,σ,h,K=>(match ops[i]? with
  |some o=>pC ops o σ
    (λσ=>(match vx P o with
     |true=>xW P o σ h λv S=>nN n σ o.dst v λcU=>(match OE σ o with
      |some p=>ke P n ops rest G ((i,p)::B) cU h K
      |none=>ke P n ops rest (EW i S G) B cU h K)
     |false=>Aj P o σ h λv h'=>B1 h' (kpK h h' (nN n σ o.dst v λcU=>ke P n ops rest (iK o G) (DS o B) cU h' K) (DS o B)) (iK o G)))
    (λσ=>nN n σ o.dst undef λcU=>ke P n ops rest G B cU h K)
  |none=>False)
 | .alts q,G,B,σ,h,K=>ke P n ops q G B σ h K
 | .fork i rest q,G,B,σ,h,K=>(match ops[i]? with
  |some o=>pC ops o σ
    (λσ=>Aj P o σ h λv h'=>B1 h' (kpK h h' (nN n σ o.dst v λcU=>ke P n ops rest (iK o G) (DS o B) cU h' K) (DS o B)) (iK o G))
    (λσ=>nN n σ o.dst undef λcU=>ke P n ops rest G B cU h K)
  |none=>False)/\ke P n ops q G B σ h K
 | .mE,_,_,_,_,_=>True
def GB (F G:List (Nat×(aj->Prop))) (B:List (Nat×bV)) (h:aj):Prop:= ∀f∈F,f∈G\/∃p,(f.1,p)∈B/\∀h',uO p h h'->f.2 h'
theorem GB.step {F G:List (Nat×(aj->Prop))} {B:List (Nat×bV)} {h h':aj} {o:Oper} (H:GB F G B h) (h1: ∀g∈iK o G,g.2 h') (h2: ∀g∈DS o B,uO g.2 h h'):(∀f∈iK o F,f.2 h')/\GB (iK o F) (iK o G) (DS o B) h':=by
 have key: ∀f∈iK o F,f.2 h'/\(f∈iK o G\/∃p,(f.1,p)∈DS o B/\∀OK,uO p h' OK->f.2 OK):=λf hf=>by
  obtain⟨hf1,hf2⟩:=aY.1 hf;rcases H f hf1 with a|⟨p,hp,hk⟩
  ·have:f∈iK o G:=aY.2 ⟨a,hf2⟩;exact⟨h1 f this,.inl this⟩
  ·have hm:(f.1,p)∈DS o B:=aY.2 ⟨hp,hf2⟩;have hs:=h2 _ hm;exact⟨hk _ hs,.inr ⟨p,hm,λOK q=>hk _ (uO.trans hs q)⟩⟩
 exact⟨λf hf=>(key f hf).1,λf hf=>(key f hf).2⟩
theorem Hv {P:Program} {n:Nat} {ops:Array Oper} {K:Env->aj->Prop} {a0:Act} {w0:World} {rest:BF} {i m:Nat} {o:Oper} {listed:Array Bool} {F G:List (Nat×(aj->Prop))} {B:List (Nat×bV)} {σ:Env} {a:Act} {w:World}
  (ih: ∀F G B σ a w,Rel n σ a->iC w0 w->hY (cS ops) a0 a->(∀g∈F,g.2 w.heap)->GB F G B w.heap->ke P n ops rest G B σ w.heap K->me P ops (Iv n a0 w0 (cS ops) K) m F (listed.setIfInBounds i true) a w)
  (ho:ops[i]? =some o) (hr:Rel n σ a) (hs:iC w0 w) (hu:hY (cS ops) a0 a) (hF: ∀g∈F,g.2 w.heap) (OL:GB F G B w.heap)
  (h:pC ops o σ (λσ=>Aj P o σ w.heap λv h'=>B1 h' (kpK w.heap h' (nN n σ o.dst v λcU=>ke P n ops rest (iK o G) (DS o B) cU h' K) (DS o B)) (iK o G)) (λσ=>nN n σ o.dst undef λcU=>ke P n ops rest G B cU w.heap K)):
  wpOp P ops (Iv n a0 w0 (cS ops) K) i (λa' w'=>(∀g∈iK o F,g.2 w'.heap)/\me P ops (Iv n a0 w0 (cS ops) K) m (iK o F) (listed.setIfInBounds i true) a' w') a w:=by
 rcases qD hr h with⟨hw,cU,gB,h⟩|⟨hw,cU,gB,B5⟩
 ·unfold wpOp;simp only[ho,hw,bA];refine .inl ((Gu gB.fits h).wp ?_);intro v w' hk DD;obtain⟨h1,h2⟩:=EV hk;obtain⟨h2,h3⟩:=ajz h2;obtain⟨tS,pL,h3⟩:=oK gB h3;obtain⟨q1,q2⟩:=OL.step h1 h2;exact⟨q1,ih _ _ _ tS _ w' pL (hs.trans DD) (hu.trans (hY.put (fX ho))) q1 q2 h3⟩
 ·unfold wpOp;simp only[ho,hw,aA,aU];obtain⟨tS,pL,h3⟩:=oK gB B5;have ih:=ih F G B tS _ w pL hs (hu.trans (hY.put (fX ho))) hF OL h3;exact⟨λg hg=>hF g (ph hg),uq _ _ _ _ _ _ (λg hg=>ph hg) ih⟩
theorem LV {P:Program} {n:Nat} {ops:Array Oper} {K:Env->aj->Prop} {a0:Act} {w0:World} (LS:Region.noSelect ops=true) (mC:BF):
  (∀(m:Nat) (listed:Array Bool) (F G:List (Nat×(aj->Prop))) (B:List (Nat×bV)) (σ:Env) (a:Act) (w:World),DE mC m=true->
   nI P ops mC none listed=true->Rel n σ a->iC w0 w->hY (cS ops) a0 a->(∀g∈F,g.2 w.heap)->GB F G B w.heap->ke P n ops mC G B σ w.heap K->
   me P ops (Iv n a0 w0 (cS ops) K) m F listed a w)/\
  (∀(m:Nat) (R:List Nat) (listed:Array Bool) (F G:List (Nat×(aj->Prop))) (B:List (Nat×bV)) (σ:Env) (a:Act) (w:World),DE mC (m+1)=true->
   nI P ops mC (some R) listed=true->Rel n σ a->iC w0 w->hY (cS ops) a0 a->(∀g∈F,g.2 w.heap)->GB F G B w.heap->ke P n ops mC G B σ w.heap K->
   ∀j∈R,∀o,ops[j]? =some o->wpOp P ops (Iv n a0 w0 (cS ops) K) j (λa' w'=>(∀g∈iK o F,g.2 w'.heap)/\me P ops (Iv n a0 w0 (cS ops) K) m (iK o F) (listed.setIfInBounds j true) a' w') a w):=by
 induction mC with
 |done=>
  refine⟨λm listed F G B σ a w hl hp hr hs hu hF OL h=> ?_,λm R listed F G B σ a w hl hp=>by cases hp⟩;obtain rfl:m=0:=cj hl;simp only[nI,List.isEmpty_iff] at hp;exact⟨hp,rfl,σ,hr,h,hs,hu⟩
 |mE=>
  refine⟨λm listed F G B σ a w hl hp=>(by cases hp),λm R listed F G B σ a w hl hp hr hs hu hF OL h j hj=> ?_⟩;simp only[nI,List.isEmpty_iff] at hp;subst hp;cases hj
 |alts q ih=>
  refine⟨λm listed F G B σ a w hl hp hr hs hu hF OL h=> ?_,λm R listed F G B σ a w hl hp=>by cases hp⟩;cases m with
  |zero=>cases hl
  |succ m=>
   simp only[nI] at hp;split at hp
   ·cases hp
   ·rename_i j js pZ;refine⟨(λe=>by rw[pZ] at e;cases e),λj' OI o ho=> ?_⟩;rw[pZ] at OI;exact ih.2 m _ listed F G B σ a w hl hp hr hs hu hF OL h j' OI o ho
 |fork i rest q ih1 ih2=>
  refine⟨λm listed F G B σ a w hl hp=>(by cases hp),λm R listed F G B σ a w hl hp hr hs hu hF OL h j hj o ho=> ?_⟩;simp only[nI,aW] at hp;obtain⟨⟨xS,JF⟩,hp3⟩:=hp;simp only[DE,aW] at hl;simp only[ke] at h;by_cases BE:i=j
  ·subst BE;have h:=h.1;rw[ho] at h;exact Hv (λF G B σ a w hr hs hu hF OL h=>ih1.1 m _ F G B σ a w hl.1 JF hr hs hu hF OL h) ho hr hs hu hF OL h
  ·refine ih2.2 m _ listed F G B σ a w hl.2 hp3 hr hs hu hF OL h.2 j (aY.2 ⟨hj,?_⟩) o ho;have:Nat.beq i j=false:=by cases hb:Nat.beq i j;rfl;exact absurd (cj hb) BE
   simp[this]
 |op i rest ih=>
  refine⟨λm listed F G B σ a w hl hp hr hs hu hF OL h=> ?_,λm R listed F G B σ a w hl hp=>by cases hp⟩;cases m with
  |zero=>cases hl
  |succ m=>
   simp only[nI,aW] at hp;obtain⟨xS,JF⟩:=hp;simp only[ke] at h;split at h
   ·rename_i o ho;simp only[ho] at xS;have hQ: ∀v,∀c a w,Iv n a0 w0 (cS ops) K (.panic c) (a.put o.dst v) w->Iv n a0 w0 (cS ops) K (.panic c) a w:=λv c a w hq=>by cases hq.1
    have take: ∀(v:Value) (S:Option (aj->Prop)) (cU:Env) (G':List (Nat×(aj->Prop))) (B':List (Nat×bV)),vx P o=true->Rel n cU (a.put o.dst v)->YieldsIf P ops (λw=>Gs S w.heap) o v a->Gs S w.heap->GB (EW i S F) G' B' w.heap->
      ke P n ops rest G' B' cU w.heap K->me P ops (Iv n a0 w0 (cS ops) K) (m+1) F listed a w:=λv S cU G' B' qW gB hy hS apJ hd=>by
     rw[qW] at xS;simp only[aW] at xS;have hF': ∀g∈EW i S F,g.2 w.heap:=by
      intro g hg;cases S with
      |none=>exact hF g hg
      |some S=>
       rcases bQ.1 hg with e|e
       ·rw[e];exact hS
       ·exact hF g e
     have ih:=ih.1 m _ (EW i S F) G' B' cU (a.put o.dst v) w hl JF gB hs (hu.trans (hY.put (fX ho))) hF' apJ hd;refine Ao (S:=Gs S) ho (Region.noSelect_spec LS) (hQ v) m F listed a w (Region.free_spec ho xS.2) (by simpa using xS.1) hy hS hF ?_;cases S with
     |none=>exact xY i _ _ _ _ _ ih
     |some S=>exact ih
    have gb: ∀(S:Option (aj->Prop)),GB (EW i S F) (EW i S G) B w.heap:=λS f hf=>by
     cases S with
     |none=>exact OL f hf
     |some S=>
      rcases bQ.1 hf with e|e
      ·exact .inl (e▸dY)
      ·exact(OL f e).imp (cN _) id
    cases qW:vx P o with
    |true=>
     rcases qD hr h with⟨hw,cU,gB,h⟩|⟨hw,cU,gB,B5⟩
     ·rw[qW] at h;dsimp only at h;cases hlo:OE cU o with
      |some p=>
       rw[hlo] at h;obtain⟨v,S,h1,h2,h4,h3⟩:=OF gB.fits hlo h;obtain⟨tS,pL,h4'⟩:=oK gB h1;refine take v (some S) tS G ((i,p)::B) qW pL (.inl ⟨hw,λw' hS=>BR _ _ _ (h3 _ hS)⟩) h2 (λf hf=> ?_) h4';rcases bQ.1 hf with e|e
       ·exact .inr ⟨p,e▸dY,e▸h4⟩
       ·exact(OL f e).imp id λ⟨q,hq,hk⟩=>⟨q,cN _ hq,hk⟩
      |none=>
       rw[hlo] at h;obtain⟨v,S,h1,h2,h3⟩:=Ak gB.fits h;obtain⟨tS,pL,h4⟩:=oK gB h1;exact take v S tS _ B qW pL (.inl ⟨hw,λw' hS=>BR _ _ _ (h3 _ hS)⟩) h2 (gb S) h4
     ·obtain⟨tS,pL,h4⟩:=oK gB B5;exact take undef none tS G B qW pL (.inr ⟨hw,rfl⟩) trivial OL h4
    |false=>
     rw[qW] at xS h;simp only at xS h;have pZ:Region.ready .any ops listed= [i]:=by
      split at xS
      ·rename_i j hj;rw[hj,cj xS]
      ·cases xS
     refine⟨(λe=>by rw[pZ] at e;cases e),λj hj o' TE=> ?_⟩;rw[pZ] at hj;obtain rfl:j=i:=by simpa using hj
     obtain rfl:o'=o:=by rw[ho] at TE;exact(bz TE).symm
     exact Hv (λF G B σ a w hr hs hu hF OL h=>ih.1 m _ F G B σ a w hl JF hr hs hu hF OL h) ho hr hs hu hF OL h
   ·exact h.elim
inductive EO where
 |leaf
 |seq (a b:EO)
 |cond (a b:EO)
 |block (a:EO)
 |loop (L:List (Nat×Sh)) (a:EO)
 |join (L:List (Nat×Sh)) (a:EO)
 |mC (p:BF)
 |qX (p:BF)
 |scope (l:Nat) (L:List (Nat×Sh)) (a b:EO)
 |typed (ty:List (Nat×Sh))
def writes:Code->List Nat
 | .region _ ops _=>cS ops
 | .seq a b=>writes a++writes b
 | .cond _ a b=>writes a++writes b
 | .block _ a=>writes a
 | .loop a=>writes a
 | .scope a=>writes a
 |_=> []
def Env.forget (σ:Env) (ws:List Nat):Env:=λt=>bif ws.any (Nat.beq t) then none else σ t
theorem Env.Hw {σ:Env} {ws:List Nat} {t:Nat} {v:Value} (h:σ.forget ws t=some v):t∉ws/\σ t=some v:=by
 unfold Env.forget at h;cases hq:ws.any (Nat.beq t) with
 |true=>rw[hq] at h;cases h
 |false=>
  rw[hq] at h;refine⟨λhm=> ?_,h⟩;have:=List.any_eq_false.1 hq t hm;simp at this
def V0 (K:Env->aj->Prop) (Q:Exit->Env->aj->Prop):Exit->Env->aj->Prop
 | .normal=>K
 |e=>Q e
def abF (id:Nat) (Q:Exit->Env->aj->Prop):Exit->Env->aj->Prop
 | .exit i=>(match Nat.beq i id with|true=>Q .normal|false=>Q (.exit i))
 |e=>Q e
def aK {α:Type} (F:α) (B:α->Prop):Prop:=B F
def Hx (l:Nat) (K:Env->aj->Prop) (Q:Exit->Env->aj->Prop):Exit->Env->aj->Prop
 | .goto l'=>(match Nat.beq l' l with|true=>K|false=>λ_ _=>False)
 |e=>Q e
def y7:Code->Nat->Bool
 | .seq a b,l=>y7 a l||y7 b l
 | .label l',l=>Nat.beq l' l
 |_,_=>false
def den (P:Program) (n:Nat):EO->Option Nat->Code->(Exit->Env->aj->Prop)->Env->aj->Prop
 | .leaf,none,c,Q,σ,h=>(match c with
  | .skip=>Q .normal σ h
  | .label _=>Q .normal σ h
  | .exit id=>Q (.exit id) σ h
  | .goto l=>Q (.goto l) σ h
  | .ret=>Q .ret σ h
  | .region _ ops false=>JD P n ops ops.toList σ h (Q .normal)
  |_=>False)
 | .leaf,some l,c,Q,σ,h=>(match c with
  | .label l'=>(match Nat.beq l' l with|true=>Q (.goto l) σ h|false=>False)
  |_=>False)
 | .mC p,none,c,Q,σ,h=>(match c with
  | .region _ ops true=>(match (P.follows .mixedOrders && Region.noSelect ops && DE p ops.size && nI P ops p none (Array.replicate ops.size false)) with
   |true=>nO P n ops p [] σ h (Q .normal)
   |false=>False)
  |_=>False)
 | .qX p,none,c,Q,σ,h=>(match c with
  | .region _ ops true=>(match (P.follows .mixedOrders && Region.noSelect ops && DE p ops.size && nI P ops p none (Array.replicate ops.size false)) with
   |true=>ke P n ops p [] [] σ h (Q .normal)
   |false=>False)
  |_=>False)
 | .seq a b,none,c,Q,σ,h=>(match c with
  | .seq c d=>den P n a none c (V0 (λcU h'=>den P n b none d Q cU h') Q) σ h
  |_=>False)
 | .seq a b,some l,c,Q,σ,h=>(match c with
  | .seq c d=>(match y7 c l with
   |true=>den P n a (some l) c Q σ h
   |false=>den P n a none c (V0 (λcU h'=>den P n b (some l) d Q cU h') Q) σ h)
  |_=>False)
 | .cond a b,none,c,Q,σ,h=>(match c with
  | .cond x c d=>(match σ.ev x with
   |some (.bool q)=>if q=true then den P n a none c Q σ h else den P n b none d Q σ h
   |_=>False)
  |_=>False)
 | .block a,none,c,Q,σ,h=>(match c with
  | .block id c=>den P n a none c (abF id Q) σ h
  |_=>False)
 | .loop L a,none,c,Q,σ,h=>(match c with
  | .loop c=> ∃(I:El (aj->Prop) L) (μ:El (aj->Nat) L),yH False L I σ (λf=>f h)/\
    abz L (λcU=> ∀h',yH False L I cU (λf=>f h')->
     den P n a none c (V0 (λmc OK=>yH False L I mc (λf=>f OK)/\yH 0 L μ mc (λf=>f OK)<yH 0 L μ cU (λf=>f h')) Q) cU h') (σ.forget (writes c))
  |_=>False)
 | .join L a,none,c,Q,σ,h=>aK (α:=El (aj->Prop) L) (aff L (λcU h'=>Q .normal cU h') (σ.forget (writes c)))
   (λJ=>den P n a none c (V0 (λcU h'=>yH False L J cU (λf=>f h')) Q) σ h)
 | .typed ty,none,c,Q,σ,h=>(match c with
  | .region _ ops false=>EU P n ops ty ops.toList σ h (Q .normal)
  |_=>False)
 | .scope l L a b,none,c,Q,σ,h=>(match c with
  | .scope c=>(match findLabel c l with
   |some r=> ∃(I:El (aj->Prop) L) (μ:El (aj->Nat) L),
     den P n a (some l) c (Hx l (λcU h'=>yH False L I cU (λf=>f h')) Q) σ h/\
     abz L (λcU=> ∀h',yH False L I cU (λf=>f h')->
      den P n b none r (Hx l (λmc OK=>yH False L I mc (λf=>f OK)/\yH 0 L μ mc (λf=>f OK)<yH 0 L μ cU (λf=>f h')) Q) cU h') (σ.forget (writes c))
   |none=>False)
  |_=>False)
 |_,_,_,_,_,_=>False
def opened:Code->List Code
 | .skip=> []
 | .seq a b=>opened a++ [b]
 |c=> [c]
theorem sR {P:Program} {b:Frame} {a:Act} {cs:List Frame} {w:World} : ∀(c:Code) (k:List Item),Steps P (lone (b.at a (.code c::k)) cs w) (lone (b.at a ((opened c).map Item.code++k)) cs w)
 | .skip,k=> .one step_skip
 | .seq x y,k=>by
  simp only[opened,bm,cB,List.map_nil,dV,fw,ft];exact .head step_seq (sR x (.code y::k))
 | .region _ _ _,_=> .refl _ _
 | .cond _ _ _,_=> .refl _ _
 | .block _ _,_=> .refl _ _
 | .loop _,_=> .refl _ _
 | .rangeFunc _ _ _ _,_=> .refl _ _
 | .exit _,_=> .refl _ _
 | .scope _,_=> .refl _ _
 | .label _,_=> .refl _ _
 | .goto _,_=> .refl _ _
 | .ret,_=> .refl _ _
 | .refuse _,_=> .refl _ _
theorem yI: ∀(c:Code) (l:Nat),y7 c l=(findLabel c l).isSome
 | .seq a b,l=>by
  unfold y7 findLabel;rw[yI a l,yI b l];cases findLabel a l<;>simp
 | .label l',l=>by
  unfold y7 findLabel;by_cases h:l'=l
  ·subst h;simp
  ·have:Nat.beq l' l=false:=by cases hb:Nat.beq l' l;rfl;exact absurd (cj hb) h
   simp[this,h]
 | .skip,_=>rfl
 | .region _ _ _,_=>rfl
 | .cond _ _ _,_=>rfl
 | .block _ _,_=>rfl
 | .loop _,_=>rfl
 | .rangeFunc _ _ _ _,_=>rfl
 | .exit _,_=>rfl
 | .scope _,_=>rfl
 | .goto _,_=>rfl
 | .ret,_=>rfl
 | .refuse _,_=>rfl
theorem ur: ∀(c:Code) (l:Nat) (r:Code),findLabel c l=some r->∀t,t∈writes r->t∈writes c
 | .seq a b,l,r,h,t,ht=>by
  unfold findLabel at h;split at h
  ·rename_i rest hr;simp only[bF] at h;subst h;rcases bU.1 ht with ht|ht
   ·exact fK _ (ur a l rest hr t ht)
   ·exact ga _ ht
  ·exact ga _ (ur b l r h t ht)
 | .label l',l,r,h,t,ht=>by
  unfold findLabel at h;split at h
  ·simp only[bF] at h;subst h;cases ht
  ·cases h
 | .skip,_,_,h,_,_=>by cases h
 | .region _ _ _,_,_,h,_,_=>by cases h
 | .cond _ _ _,_,_,h,_,_=>by cases h
 | .block _ _,_,_,h,_,_=>by cases h
 | .loop _,_,_,h,_,_=>by cases h
 | .rangeFunc _ _ _ _,_,_,h,_,_=>by cases h
 | .exit _,_,_,h,_,_=>by cases h
 | .scope _,_,_,h,_,_=>by cases h
 | .goto _,_,_,h,_,_=>by cases h
 | .ret,_,_,h,_,_=>by cases h
 | .refuse _,_,_,h,_,_=>by cases h
def al3 (P:Program) (l:Nat) (c:Code) (Q:Exit->Act->World->Prop) (a:Act) (w:World):Prop:=
 ∀(b:Frame) (k:List Item) (cs:List Frame),
  (∃e a' w',Q e a' w'/\e≠ .normal/\Arrives P (lone (b.at a (.code c::k)) cs w) b k cs e a' w')\/
  (∃a' w' r,Q (.goto l) a' w'/\findLabel c l=some r/\Steps P (lone (b.at a (.code c::k)) cs w) (lone (b.at a' ((opened r).map Item.code++k)) cs w'))
def up (n:Nat) (a0:Act) (w0:World) (W:List Nat) (Q:Exit->Env->aj->Prop):Exit->Act->World->Prop:=
 λe a w=> ∃σ,Rel n σ a/\Q e σ w.heap/\iC w0 w/\hY W a0 a
theorem Dj {n:Nat} {a0:Act} {w0:World} {W:List Nat} {Q:Exit->Env->aj->Prop} {e:Exit} {a:Act} {w:World} (h:Iv n a0 w0 W (Q .normal) e a w):up n a0 w0 W Q e a w:=by
 obtain⟨rfl,h⟩:=h;exact h
def Hz (a:Act):Env:=λt=>some (a.tmps.getD t undef)
theorem Rel.Eo {n:Nat} {σ cU mc:Env} {a a':Act} {W:List Nat} (hr:Rel n σ a) (gB:Rel n cU a') (hu:hY W a a') (hs:Sub mc (σ.forget W) cU):Rel n mc a':=
 ⟨gB.defers,gB.size,λt v hv=>by
  rcases hs t v hv with h|h
  ·exact gB.at_ t v h
  ·obtain⟨h1,h2⟩:=Env.Hw h;rw[hu t h1];exact hr.at_ t v h2⟩
theorem wj {Y:Type} {d:Y} {X:Type} {L:List (Nat×Sh)} {f:El X L} {K:X->Y} {n:Nat} {σ:Env} {a:Act} (hr:Rel n σ a) (hd: ∀t s,(t,s)∈L->∃v,σ t=some v):yH d L f (Hz a) K=yH d L f σ K:=
 yY L f λt s hm=>by
  obtain⟨v,hv⟩:=hd t s hm;rw[hv];unfold Hz;rw[hr.at_ t v hv]
def wpo (P:Program) (c:Code) (Q:Exit->Act->World->Prop) (a:Act) (w:World):Prop:=
 ∀(b:Frame) (k:List Item) (cs:List Frame),∃e a' w',Q e a' w'/\Arrives P (lone (b.at a ((opened c).map Item.code++k)) cs w) b k cs e a' w'
theorem wpo.wp {P:Program} {c:Code} {Q:Exit->Act->World->Prop} {a:Act} {w:World} (h:wpo P c Q a w):c.wp P Q a w:=λb k cs=>by
 obtain⟨e,a',w',hq,qY⟩:=h b k cs;exact⟨e,a',w',hq,.of_steps (sR c k) qY⟩
theorem lR {P:Program} {c:Code} {Q:Exit->Act->World->Prop} {a:Act} {w:World} (hc:opened c= [c]) (h:c.wp P Q a w):wpo P c Q a w:=λb k cs=>by
 rw[hc];exact h b k cs
theorem EY {P:Program} {c:Code} {Q Q':Exit->Act->World->Prop} {a:Act} {w:World} (h:wpo P c Q a w) (hq: ∀e a w,Q e a w->Q' e a w):wpo P c Q' a w:=
 λb k cs=>let ⟨e,a',w',q,r⟩:=h b k cs;⟨e,a',w',hq _ _ _ q,r⟩
theorem afg {P:Program} {x y:Code} {Q:Exit->Act->World->Prop} {a:Act} {w:World} (h:wpo P x (Exit.then (wpo P y Q) Q) a w):wpo P (.seq x y) Q a w:=by
 intro b k cs;simp only[opened,bm,cB,List.map_nil,dV,fw,ft];obtain⟨e,abG,abH,hq,qY⟩:=h b (.code y::k) cs;cases e with
 |normal=>
  obtain⟨apK,apL,apM,al4,afh⟩:=hq b k cs;exact⟨apK,apL,apM,al4,.of_steps (Steps.trans qY (sR y k)) afh⟩
 |exit id=>exact⟨_,abG,abH,hq,.pass (x:=.code y) rfl (λ_ _=> .inl (by simp)) qY⟩
 |goto l=>exact⟨_,abG,abH,hq,.pass (x:=.code y) rfl (λ_ _=> .inl (by simp)) qY⟩
 |ret=>exact⟨_,abG,abH,hq,.pass (x:=.code y) rfl (λ_ _=> .inl (by simp)) qY⟩
 |panic ch=>exact⟨_,abG,abH,hq,.pass (x:=.code y) rfl (λ_ _=> .inl (by simp)) qY⟩
 |outgrown=>exact⟨_,abG,abH,hq,.pass (x:=.code y) rfl (λ_ _=> .inl (by simp)) qY⟩
theorem JG {P:Program} {Q:Exit->Act->World->Prop} {a:Act} {w:World} {c r:Code} {l:Nat} (hf:findLabel c l=some r) (I:Act->World->Prop) (μ:Act->World->Nat)
  (Q1:Exit->Act->World->Prop) (Q2:Act->World->Exit->Act->World->Prop)
  (h0:al3 P l c Q1 a w) (h1: ∀a' w',Q1 (.goto l) a' w'->I a' w') (h1': ∀e a' w',e≠ .goto l->e≠ .normal->Q1 e a' w'->Q e a' w'/\∀x,e≠ .goto x)
  (round: ∀a w,I a w->wpo P r (Q2 a w) a w) (h2: ∀a w a' w',I a w->Q2 a w (.goto l) a' w'->I a' w'/\μ a' w'<μ a w) (h2': ∀a w e a' w',I a w->e≠ .goto l->Q2 a w e a' w'->Q e a' w'/\∀x,e≠ .goto x):
  (Code.scope c).wp P Q a w:=by
 intro b k cs;have out: ∀(m:Machine) (e:Exit) (a':Act) (w':World),(∀x,e≠ .goto x)->Arrives P m b (.inScope c::k) cs e a' w'->Arrives P m b k cs e a' w':=by
  intro m e a' w' kB qY;cases e with
  |normal=>exact Steps.trans qY (.one step_inScope)
  |exit id=>exact λk' hk=>qY k' (by simp[exitTo,hk])
  |goto x=>exact absurd rfl (kB x)
  |ret=>exact qY
  |panic ch=>exact qY
  |outgrown=>exact qY
 have key: ∀n a w,μ a w=n->I a w->∃e a' w',Q e a' w'/\Arrives P (lone (b.at a ((opened r).map Item.code++ .inScope c::k)) cs w) b k cs e a' w':=by
  intro n;induction n using Nat.strongRecOn with
  |_ n ih=>
   intro a w hn hI;obtain⟨e,a1,w1,hq,qY⟩:=round a w hI b (.inScope c::k) cs;by_cases he:e=.goto l
   ·subst he;obtain⟨hI1,jc⟩:=h2 a w a1 w1 hI hq;have xN:=qY (.code r:: .inScope c::k) (by simp[gotoIn,hf]);obtain⟨e2,a2,w2,Gx,JH⟩:=ih (μ a1 w1) (hn▸jc) a1 w1 rfl hI1;exact⟨e2,a2,w2,Gx,.of_steps (Steps.trans xN (sR r _)) JH⟩
   ·obtain⟨hQ,kB⟩:=h2' a w e a1 w1 hI he hq;exact⟨e,a1,w1,hQ,out _ e a1 w1 kB qY⟩
 rcases h0 b (.inScope c::k) cs with⟨e,a',w',hq,he2,qY⟩|⟨a',w',r',hq,hr,xN⟩
 ·by_cases he1:e=.goto l
  ·subst he1;have xN:=qY (.code r:: .inScope c::k) (by simp[gotoIn,hf]);obtain⟨e2,a2,w2,Gx,JH⟩:=key _ a' w' rfl (h1 a' w' hq);exact⟨e2,a2,w2,Gx,.of_steps (.head step_scope (Steps.trans xN (sR r _))) JH⟩
  ·obtain⟨hQ,kB⟩:=h1' e a' w' he1 he2 hq;exact⟨e,a',w',hQ,.of_steps (.one step_scope) (out _ e a' w' kB qY)⟩
 ·rw[hf] at hr;cases hr;obtain⟨e2,a2,w2,Gx,JH⟩:=key _ a' w' rfl (h1 a' w' hq);exact⟨e2,a2,w2,Gx,.of_steps (.head step_scope xN) JH⟩
def al5 (P:Program) (c:Code) (Q:Exit->Act->World->Prop) (a:Act) (w:World):Option Nat->Prop
 |none=>wpo P c Q a w
 |some l=>al3 P l c Q a w
theorem sS {P:Program} {n:Nat} : ∀(Gi:EO) (m:Option Nat) (c:Code) (Q:Exit->Env->aj->Prop) (σ:Env) (a:Act) (w:World),Rel n σ a->den P n Gi m c Q σ w.heap->al5 P c (up n a w (writes c) Q) a w m
 | .leaf,none,c,Q,σ,a,w,hr,h=>by
  unfold den at h;split at h
  ·exact λb k cs=>⟨.normal,a,w,⟨σ,hr,h,iC.refl w,hY.refl _ _⟩,.refl _ _⟩
  ·exact lR rfl (wp_label ⟨σ,hr,h,iC.refl w,hY.refl _ _⟩)
  ·exact lR rfl (wp_exit ⟨σ,hr,h,iC.refl w,hY.refl _ _⟩)
  ·exact lR rfl (wp_goto ⟨σ,hr,h,iC.refl w,hY.refl _ _⟩)
  ·exact lR rfl (wp_ret ⟨σ,hr,h,iC.refl w,hY.refl _ _⟩)
  ·rename_i id ops;refine lR rfl (wp_mono (wp_region (Q:=Iv n a w (cS ops) (Q .normal)) ?_) (λe a' w' hq=>Dj hq));have:=Gv (a0:=a) (w0:=w) ops.toList 0 σ a w (by simp) hr (iC.refl w) (hY.refl _ _) h;rw[iN];simpa using this
  ·exact h.elim
 | .leaf,some l,c,Q,σ,a,w,hr,h=>by
  unfold den at h;split at h
  ·rename_i l';split at h
   ·rename_i hl;obtain rfl:l'=l:=cj hl;exact λb k cs=> .inr ⟨a,w,.skip,⟨σ,hr,h,iC.refl w,hY.refl _ _⟩,by simp[findLabel],.one step_label⟩
   ·exact h.elim
  ·exact h.elim
 | .mC p,none,c,Q,σ,a,w,hr,h=>by
  unfold den at h;split at h
  ·rename_i id ops;split at h
   ·rename_i hb;simp only[aW] at hb;obtain⟨⟨⟨h1,h2⟩,h3⟩,h4⟩:=hb;refine lR rfl (wp_mono (wp_region_any (Q:=Iv n a w (cS ops) (Q .normal)) h1 ?_) (λe a' w' hq=>Dj hq));have:=(OJ (a0:=a) (w0:=w) h2 p).1 ops.size (Array.replicate ops.size false) [] σ a { w with drawn:=w.drawn+1 } h3 h4 hr ⟨rfl,rfl,rfl⟩ (hY.refl _ _) (λ_ hm=>by cases hm) h;exact An _ _ _ _ _ this
   ·exact h.elim
  ·exact h.elim
 | .qX p,none,c,Q,σ,a,w,hr,h=>by
  unfold den at h;split at h
  ·rename_i id ops;split at h
   ·rename_i hb;simp only[aW] at hb;obtain⟨⟨⟨h1,h2⟩,h3⟩,h4⟩:=hb;refine lR rfl (wp_mono (wp_region_any (Q:=Iv n a w (cS ops) (Q .normal)) h1 ?_) (λe a' w' hq=>Dj hq));have:=(LV (a0:=a) (w0:=w) h2 p).1 ops.size (Array.replicate ops.size false) [] [] [] σ a { w with drawn:=w.drawn+1 } h3 h4 hr ⟨rfl,rfl,rfl⟩ (hY.refl _ _) (λ_ hm=>by cases hm) (λ_ hm=>by cases hm) h;exact An _ _ _ _ _ this
   ·exact h.elim
  ·exact h.elim
 | .seq x y,none,c,Q,σ,a,w,hr,h=>by
  unfold den at h;split at h
  ·rename_i c d;refine afg (EY (sS x none c _ σ a w hr h) ?_);rintro e a' w' ⟨cU,gB,hq,hs,hu⟩;have hW: ∀t,t∈writes c->t∈writes (.seq c d):=λt ht=>fK _ ht
   cases e with
   |normal=>
    refine EY (sS y none d Q cU a' w' gB hq) ?_;rintro e2 a2 w2 ⟨σ2,hr2,Gx,hs2,hu2⟩;exact⟨σ2,hr2,Gx,hs.trans hs2,(hu.mono hW).trans (hu2.mono λt ht=>ga _ ht)⟩
   |exit id=>exact⟨cU,gB,hq,hs,hu.mono hW⟩
   |goto l=>exact⟨cU,gB,hq,hs,hu.mono hW⟩
   |ret=>exact⟨cU,gB,hq,hs,hu.mono hW⟩
   |panic ch=>exact⟨cU,gB,hq,hs,hu.mono hW⟩
   |outgrown=>exact⟨cU,gB,hq,hs,hu.mono hW⟩
  ·exact h.elim
 | .seq x y,some l,c,Q,σ,a,w,hr,h=>by
  unfold den at h;split at h
  ·rename_i c d;have hW: ∀t,t∈writes c->t∈writes (.seq c d):=λt ht=>fK _ ht
   have hW2: ∀t,t∈writes d->t∈writes (.seq c d):=λt ht=>ga _ ht
   split at h
   ·rename_i hl;have ih:=sS x (some l) c Q σ a w hr h;intro b k cs;rcases ih b (.code d::k) cs with⟨e,a',w',hq,he2,qY⟩|⟨a',w',r,hq,hf,xN⟩
    ·obtain⟨cU,gB,hq,hs,hu⟩:=hq;exact .inl ⟨e,a',w',⟨cU,gB,hq,hs,hu.mono hW⟩,he2,.of_steps (.one step_seq) (.pass (x:=.code d) rfl (λ_ _=> .inl he2) qY)⟩
    ·obtain⟨cU,gB,hq,hs,hu⟩:=hq;refine .inr ⟨a',w',.seq r d,⟨cU,gB,hq,hs,hu.mono hW⟩,by simp[findLabel,hf],.head step_seq ?_⟩;simpa[opened] using xN
   ·rename_i hl;have ih:=sS x none c _ σ a w hr h;have hfc:findLabel c l=none:=by
     have:=yI c l;rw[hl] at this;cases hq:findLabel c l with
     |none=>rfl
     |some r=>rw[hq] at this;cases this
    intro b k cs;obtain⟨e,a',w',⟨cU,gB,hq,hs,hu⟩,qY⟩:=ih.wp b (.code d::k) cs;cases e with
    |normal=>
     rcases sS y (some l) d Q cU a' w' gB hq b k cs with⟨e2,a2,w2,Gx,he2,JH⟩|⟨a2,w2,r,Gx,hf2,apN⟩
     ·obtain⟨σ2,hr2,Gx,hs2,hu2⟩:=Gx;exact .inl ⟨e2,a2,w2,⟨σ2,hr2,Gx,hs.trans hs2,(hu.mono hW).trans (hu2.mono hW2)⟩,he2,.of_steps (.head step_seq qY) JH⟩
     ·obtain⟨σ2,hr2,Gx,hs2,hu2⟩:=Gx;exact .inr ⟨a2,w2,r,⟨σ2,hr2,Gx,hs.trans hs2,(hu.mono hW).trans (hu2.mono hW2)⟩,by simp[findLabel,hfc,hf2],.head step_seq (Steps.trans qY apN)⟩
    |exit id=>exact .inl ⟨_,a',w',⟨cU,gB,hq,hs,hu.mono hW⟩,by simp,.of_steps (.one step_seq) (.pass (x:=.code d) rfl (λ_ _=> .inl (by simp)) qY)⟩
    |goto l'=>exact .inl ⟨_,a',w',⟨cU,gB,hq,hs,hu.mono hW⟩,by simp,.of_steps (.one step_seq) (.pass (x:=.code d) rfl (λ_ _=> .inl (by simp)) qY)⟩
    |ret=>exact .inl ⟨_,a',w',⟨cU,gB,hq,hs,hu.mono hW⟩,by simp,.of_steps (.one step_seq) (.pass (x:=.code d) rfl (λ_ _=> .inl (by simp)) qY)⟩
    |panic ch=>exact .inl ⟨_,a',w',⟨cU,gB,hq,hs,hu.mono hW⟩,by simp,.of_steps (.one step_seq) (.pass (x:=.code d) rfl (λ_ _=> .inl (by simp)) qY)⟩
    |outgrown=>exact .inl ⟨_,a',w',⟨cU,gB,hq,hs,hu.mono hW⟩,by simp,.of_steps (.one step_seq) (.pass (x:=.code d) rfl (λ_ _=> .inl (by simp)) qY)⟩
  ·exact h.elim
 | .cond x y,none,c,Q,σ,a,w,hr,h=>by
  unfold den at h;split at h
  ·rename_i k c d;split at h
   ·rename_i q hq;have he:=hr.fits _ _ hq;split at h
    ·rename_i ht;subst ht;refine lR rfl (wp_cond_true he (wp_mono (sS x none c Q σ a w hr h).wp ?_));rintro e a' w' ⟨cU,gB,hq,hs,hu⟩;exact⟨cU,gB,hq,hs,hu.mono λt ht=>fK _ ht⟩
    ·rename_i ht;have ht:q=false:=by simpa using ht
     subst ht;refine lR rfl (wp_cond_false he (wp_mono (sS y none d Q σ a w hr h).wp ?_));rintro e a' w' ⟨cU,gB,hq,hs,hu⟩;exact⟨cU,gB,hq,hs,hu.mono λt ht=>ga _ ht⟩
   ·exact h.elim
  ·exact h.elim
 | .block x,none,c,Q,σ,a,w,hr,h=>by
  unfold den at h;split at h
  ·rename_i id c;refine lR rfl (wp_block (wp_mono (sS x none c _ σ a w hr h).wp ?_));rintro e a' w' ⟨cU,gB,hq,hs,hu⟩;cases e with
   |exit id'=>
    simp only[Exit.inBlock];simp only[abF] at hq;by_cases hid:id'=id
    ·subst hid;simp only[Nat.beq_refl] at hq;rw[ag rfl];exact⟨cU,gB,hq,hs,hu⟩
    ·rw[ai hid];have:Nat.beq id' id=false:=by cases hb:Nat.beq id' id;rfl;exact absurd (cj hb) hid
     rw[this] at hq;exact⟨cU,gB,hq,hs,hu⟩
   |normal=>exact⟨cU,gB,hq,hs,hu⟩
   |goto l=>exact⟨cU,gB,hq,hs,hu⟩
   |ret=>exact⟨cU,gB,hq,hs,hu⟩
   |panic ch=>exact⟨cU,gB,hq,hs,hu⟩
   |outgrown=>exact⟨cU,gB,hq,hs,hu⟩
  ·exact h.elim
 | .loop L x,none,c,Q,σ,a,w,hr,h=>by
  unfold den at h;split at h
  ·rename_i c;obtain⟨I,μ,h0,Q6⟩:=h;refine lR rfl (wp_loop (λa' w'=> ∃cU,Rel n cU a'/\yH False L I cU (λf=>f w'.heap)/\iC w w'/\hY (writes c) a a')
    (λa' w'=>yH 0 L μ (Hz a') (λf=>f w'.heap)) ⟨σ,hr,h0,iC.refl w,hY.refl _ _⟩ ?_)
   rintro a' w' ⟨cU,gB,hI,hs,hu⟩;obtain⟨mc,hF,qZ,hL,_⟩:=I6 L _ I Q6 hI;have Q7:=Rel.Eo hr gB hu qZ;have Q8:yH False L I mc (λf=>f w'.heap):=by rw[yY L I hL];exact hI
   have hd:=hF w'.heap Q8;refine wp_mono (sS x none c _ mc a' w' Q7 hd).wp ?_;rintro e a1 w1 ⟨tS,pL,hq,EZ,T1⟩;cases e with
   |normal=>
    obtain⟨hI1,jc⟩:=hq;refine⟨⟨tS,pL,hI1,hs.trans EZ,hu.trans T1⟩,?_⟩;rw[wj pL (Am L I hI1),wj Q7 (Am L I Q8)];exact jc
   |exit id=>exact⟨tS,pL,hq,hs.trans EZ,hu.trans T1⟩
   |goto l=>exact⟨tS,pL,hq,hs.trans EZ,hu.trans T1⟩
   |ret=>exact⟨tS,pL,hq,hs.trans EZ,hu.trans T1⟩
   |panic ch=>exact⟨tS,pL,hq,hs.trans EZ,hu.trans T1⟩
   |outgrown=>exact⟨tS,pL,hq,hs.trans EZ,hu.trans T1⟩
  ·exact h.elim
 | .join L x,none,c,Q,σ,a,w,hr,h=>by
  unfold den at h;unfold aK at h;refine EY (sS x none c _ σ a w hr h) ?_;rintro e a' w' ⟨cU,gB,hq,hs,hu⟩;cases e with
  |normal=>
   obtain⟨mc,hQ,qZ⟩:=JC L _ hq;exact⟨mc,Rel.Eo hr gB hu qZ,hQ,hs,hu⟩
  |exit id=>exact⟨cU,gB,hq,hs,hu⟩
  |goto l=>exact⟨cU,gB,hq,hs,hu⟩
  |ret=>exact⟨cU,gB,hq,hs,hu⟩
  |panic ch=>exact⟨cU,gB,hq,hs,hu⟩
  |outgrown=>exact⟨cU,gB,hq,hs,hu⟩
 | .scope l L x y,none,c,Q,σ,a,w,hr,h=>by
  unfold den at h;split at h
  ·rename_i c;split at h
   ·rename_i r hf;obtain⟨I,μ,h0,Q6⟩:=h;have hWr:=ur c l r hf;have abI: ∀(K:Env->aj->Prop) (e:Exit) (cU:Env) (h':aj),e≠ .goto l->Hx l K Q e cU h'->Q e cU h'/\∀z,e≠ .goto z:=by
     intro K e cU h' kB hq;cases e with
     |goto z=>
      simp only[Hx] at hq;have:Nat.beq z l=false:=by cases hb:Nat.beq z l;rfl;exact absurd (by rw[cj hb]) kB
      rw[this] at hq;exact hq.elim
     |normal=>exact⟨hq,λz hz=>by cases hz⟩
     |exit id=>exact⟨hq,λz hz=>by cases hz⟩
     |ret=>exact⟨hq,λz hz=>by cases hz⟩
     |panic ch=>exact⟨hq,λz hz=>by cases hz⟩
     |outgrown=>exact⟨hq,λz hz=>by cases hz⟩
    refine lR rfl (JG hf (λa' w'=> ∃cU,Rel n cU a'/\yH False L I cU (λf=>f w'.heap)/\iC w w'/\hY (writes c) a a')
     (λa' w'=>yH 0 L μ (Hz a') (λf=>f w'.heap)) _
     (λa0 w0 e a' w'=> ∃cU,Rel n cU a'/\Hx l (λmc OK=>yH False L I mc (λf=>f OK)/\yH 0 L μ mc (λf=>f OK)<yH 0 L μ (Hz a0) (λf=>f w0.heap)) Q e cU w'.heap/\iC w w'/\hY (writes c) a a')
     (sS x (some l) c _ σ a w hr h0) ?_ ?_ ?_ ?_ ?_)
    ·rintro a' w' ⟨cU,gB,hq,hs,hu⟩;simp only[Hx,Nat.beq_refl] at hq;exact⟨cU,gB,hq,hs,hu⟩
    ·rintro e a' w' he1 _ ⟨cU,gB,hq,hs,hu⟩;obtain⟨HA,Gx⟩:=abI _ e cU _ he1 hq;exact⟨⟨cU,gB,HA,hs,hu⟩,Gx⟩
    ·rintro a' w' ⟨cU,gB,hI,hs,hu⟩;obtain⟨mc,hF,qZ,hL,_⟩:=I6 L _ I Q6 hI;have Q7:=Rel.Eo hr gB hu qZ;have Q8:yH False L I mc (λf=>f w'.heap):=by rw[yY L I hL];exact hI
     have hd:=hF w'.heap Q8;refine EY (sS y none r _ mc a' w' Q7 hd) ?_;rintro e a1 w1 ⟨tS,pL,hq,EZ,T1⟩;refine⟨tS,pL,?_,hs.trans EZ,hu.trans (T1.mono hWr)⟩;cases e with
     |goto z=>
      simp only[Hx] at hq⊢;cases hz:Nat.beq z l with
      |false=>rw[hz] at hq;exact hq.elim
      |true=>
       rw[hz] at hq;obtain⟨q1,q2⟩:=hq;exact⟨q1,by rw[wj Q7 (Am L I Q8)];exact q2⟩
     |normal=>exact hq
     |exit id=>exact hq
     |ret=>exact hq
     |panic ch=>exact hq
     |outgrown=>exact hq
    ·rintro a0 w0 a' w' _ ⟨cU,gB,hq,hs,hu⟩;simp only[Hx,Nat.beq_refl] at hq;obtain⟨q1,q2⟩:=hq;refine⟨⟨cU,gB,q1,hs,hu⟩,?_⟩;rw[wj gB (Am L I q1)];exact q2
    ·rintro a0 w0 e a' w' _ he ⟨cU,gB,hq,hs,hu⟩;obtain⟨HA,Gx⟩:=abI _ e cU _ he hq;exact⟨⟨cU,gB,HA,hs,hu⟩,Gx⟩
   ·exact h.elim
  ·exact h.elim
 | .mC _,some _,_,_,_,_,_,_,h=>h.elim
 | .qX _,some _,_,_,_,_,_,_,h=>h.elim
 | .cond _ _,some _,_,_,_,_,_,_,h=>h.elim
 | .block _,some _,_,_,_,_,_,_,h=>h.elim
 | .loop _ _,some _,_,_,_,_,_,_,h=>h.elim
 | .join _ _,some _,_,_,_,_,_,_,h=>h.elim
 | .scope _ _ _ _,some _,_,_,_,_,_,_,h=>h.elim
 | .typed _,some _,_,_,_,_,_,_,h=>h.elim
 | .typed ty,none,c,Q,σ,a,w,hr,h=>by
  unfold den at h;split at h
  ·rename_i id ops;refine lR rfl (wp_mono (wp_region (Q:=Iv n a w (cS ops) (Q .normal)) ?_) (λe a' w' hq=>Dj hq));have:=Em (a0:=a) (w0:=w) ops.toList 0 σ a w (by simp) hr (iC.refl w) (hY.refl _ _) h;rw[iN];simpa using this
  ·exact h.elim
def Ep (P:Program):List ResultVar->Env->aj->(List Value->Prop)->Prop
 | [],_,_,F=>F []
 | .tmp t::rs,σ,h,F=>aP (σ t) λv=>Ep P rs σ h λvs=>F (v::vs)
 | .cell a t::rs,σ,h,F=>(match σ a with
  |some (.pointer p)=>aP p λad=>Dh P t h ad λv _=>Ep P rs σ h λvs=>F (v::vs)
  |_=>False)
def HB (vs:List Value):Value:=
 match vs with
 | [v]=>v
 |vs=> .tuple vs.toArray
def ajA (P:Program) (rs:Array ResultVar) (R:iI):Exit->Env->aj->Prop
 | .normal,σ,h=>Ep P rs.toList σ h λvs=>R (HB vs) h
 | .ret,σ,h=>Ep P rs.toList σ h λvs=>R (HB vs) h
 |_,_,_=>False
def wI (args:List Value):Env:=λt=>args[t]?
def Z6 (a:Act):ResultVar->Sem Value
 | .tmp t=>pure (a.tmps.getD t undef)
 | .cell ad t=>do loadVar t (<-asAddr (a.tmps.getD ad undef))
theorem OM {P:Program} {n:Nat} {σ:Env} {a:Act} {h:aj} (hr:Rel n σ a): ∀(rs:List ResultVar) (F:List Value->Prop),Ep P rs σ h F->∃vs,F vs/\
  rd P (rs.mapM (Z6 a)) h=some vs
 | [],F,hh=>⟨[],hh,rfl⟩
 | .tmp t::rs,F,hh=>by
  obtain⟨v,hv,hh⟩:=cH.1 hh;obtain⟨vs,h1,h2⟩:=OM hr rs _ hh;refine⟨v::vs,h1,?_⟩;rw[List.mapM_cons];have h6:rd P (Z6 a (.tmp t)) h=some v:=by
   show some (a.tmps.getD t undef)=some v;rw[hr.at_ t v hv]
  rw[bu _ _ _ _ h6,bu _ _ _ _ h2];rfl
 | .cell ad t::rs,F,hh=>by
  simp only[Ep] at hh;split at hh
  ·rename_i p hp;obtain⟨b,rfl,V1⟩:=cH.1 hh;obtain⟨v,S,h1,h2,h3⟩:=Jz V1;obtain⟨vs,h4,h5⟩:=OM hr rs _ h1;refine⟨v::vs,h4,?_⟩;rw[List.mapM_cons];have h6:rd P (Z6 a (.cell ad t)) h=some v:=by
    show rd P (do loadVar t (<-asAddr (a.tmps.getD ad undef))) h=_;rw[hr.at_ ad _ hp];exact h3 h h2
   rw[bu _ _ _ _ h6,bu _ _ _ _ h5];rfl
  ·exact hh.elim
theorem Er {P:Program} {n:Nat} {σ:Env} {a:Act} {h:aj} {fn:Func} {F:Value->Prop} (hr:Rel n σ a) (hh:Ep P fn.results.toList σ h λvs=>F (HB vs)):
  ∃v,F v/\rd P (results fn a.tmps) h=some v:=by
 obtain⟨vs,h1,h2⟩:=OM hr _ _ hh;refine⟨_,h1,?_⟩;have h3:rd P (fn.results.mapM (Z6 a)) h=some vs.toArray:=by
  rw[Array.mapM_eq_mapM_toList];show rd P (fn.results.toList.mapM (Z6 a)>>=λl=>pure (List.toArray l)) h=_;rw[bu _ _ _ _ h2];rfl
 have h4:results fn a.tmps=fn.results.mapM (Z6 a)>>=λvs=>pure (if h:vs.size=1 then vs[0] else .tuple vs):=by
  unfold results;congr 1
 rw[h4,bu _ _ _ _ h3]
 match vs with
 | []=>rfl
 | [v]=>rfl
 |u::v::vs=>rfl
theorem LW {P:Program} {f:FuncId} {fn:Func} {c:Code} {args:List Value} {h:aj} {R:iI} (Gi:EO)
  (hf:P.funcs[f]? =some fn) (hb:fn.body=some c) (hn:Nat.ble args.length fn.ntmps=true)
  (hd:den P fn.ntmps Gi none c (ajA P fn.results R) (wI args) h):wE P f args.toArray h R:=by
 intro w hw;subst hw;have hn:=Nat.le_of_ble_eq_true hn;refine calls_of_wp hf hb ?_;have hr:Rel fn.ntmps (wI args) { tmps:=args.toArray++Array.replicate (fn.ntmps - args.toArray.size) undef,defers:= [] } :=by
  refine⟨rfl,by simp;omega,λt v hv=> ?_⟩;unfold wI at hv;have jc:t<args.length:=(aG.1 hv).1;simp only[gD];rw[eY (by simpa using jc)];simp[hv]
 refine wp_mono (sS Gi none c _ _ _ w hr hd).wp ?_;rintro e a w' ⟨σ,hr,hq,hs,_⟩;have fin:Ep P fn.results.toList σ w'.heap (λvs=>R (HB vs) w'.heap)->a.defers= []/\∃v,(results fn a.tmps).run P w'=.ok v w'/\∃v',Ending.returned v=.returned v'/\R v' w'.heap/\iC w w':=λhh=>by
  obtain⟨v,h1,h2⟩:=Er (F:=λv=>R v w'.heap) hr hh;exact⟨hr.defers,v,BR _ _ _ h2,v,rfl,h1,hs⟩
 cases e with
 |normal=>exact fin hq
 |ret=>exact fin hq
 |exit id=>exact hq.elim
 |goto l=>exact hq.elim
 |panic ch=>exact hq.elim
 |outgrown=>exact hq.elim
def Es (fn:Func):Code:=fn.body.getD .skip
theorem JI {P:Program} {f:FuncId} {fn:Func} {args:List Value} {h:aj} {R:iI} (Gi:EO)
  (hf:P.funcs[f]? =some fn) (hb:fn.body.isSome=true) (hn:Nat.ble args.length fn.ntmps=true)
  (hd:den P fn.ntmps Gi none (Es fn) (ajA P fn.results R) (wI args) h):wE P f args.toArray h R:=by
 obtain⟨c,hc⟩:=gP.1 hb;refine LW Gi hf hc hn ?_;rw[Es,hc] at hd;exact hd
end Go.Den
namespace Go.Den
theorem wk {h:aj} {b i:Nat} {c:Array Value} {t:TypeId} {f:Nat×Nat} (hb:h[b]? =some (.cells c t f)):ak h (AA b i)=c[i]? :=by
 simp[ak,hb]
theorem xZ {h:aj} {b i:Nat} {c:Array Value} {t:TypeId} (hb:h[b]? =some (.cells c t (0,0))):Af h (AA b i)=false:=by
 simp[Af,hb]
theorem JJ {h:aj} {a:Addr} {v:Value} (hc:ak h a=some v): ∃c t f,h[a.block]? =some (.cells c t f)/\a.spot=none/\c[a.off]? =some v:=by
 unfold ak at hc;split at hc
 ·rename_i c t f hb;split at hc
  ·cases hc
  ·rename_i hs;exact⟨c,t,f,hb,by simpa using hs,hc⟩
 ·cases hc
theorem aI {h:aj} {b:Nat} {o:Obj} (hb:h[b]? =some o):b<h.size:=(Array.getElem?_eq_some_iff.1 hb).1
theorem JK {h:aj} {b:Nat} {o x:Obj} (hb:h[b]? =some o):(h.push x)[b]? =some o:=by
 rw[iA,ai (Nat.ne_of_lt (aI hb)),hb]
theorem cA {h:aj} {x:Obj} :(h.push x)[h.size]? =some x:=by simp
theorem Gy {h:aj} {b i:Nat} {c:Array Value} {t:TypeId} {f:Nat×Nat} {v:Value} (hb:h[b]? =some (.cells c t f)):(yX h (AA b i) v)[b]? =some (.cells (c.setIfInBounds i v) t f):=by
 simp[yX,fE,hb]
theorem Et {h:aj} {a:Addr} {b:Nat} {v:Value} (kB:b≠a.block):(yX h a v)[b]? =h[b]? :=by
 simp[yX,fE,ie kB]
theorem MF {h:aj} {a:Addr} {v:Value} :(yX h a v).size=h.size:=by simp[yX]
theorem kC (b o n:Nat):((AA b o):Addr).add n=(AA b (o+n)):=by
 unfold Addr.add;split
 ·rename_i hn;subst hn;rfl
 ·rfl
theorem add_add (a:Addr) (m n:Nat):(a.add m).add n=a.add (m+n):=by
 unfold Addr.add;split
 ·rename_i hn;subst hn;simp
 ·split
  ·rename_i hn hm;subst hm;simp[hn]
  ·rename_i hn hm;have:m+n≠0:=by omega
   rw[ai this];simp[Nat.add_assoc]
def Fr (S:Nat->Prop) (h h':aj):Prop:=h.size<=h'.size/\∀c,c<h.size->¬S c->h'[c]? =h[c]?
theorem Fr.refl (S:Nat->Prop) (h:aj):Fr S h h:=⟨bh _,λ_ _ _=>rfl⟩
theorem Fr.get {S:Nat->Prop} {h h':aj} (hf:Fr S h h') {c:Nat} {o:Obj} (hc:h[c]? =some o) (hn: ¬S c):h'[c]? =some o:=
 (hf.2 c (aI hc) hn).trans hc
theorem Fr.trans {S S' S'':Nat->Prop} {h h1 h2:aj} (hf:Fr S h h1) (hf':Fr S' h1 h2) (hs: ∀c,c<h.size->S c->S'' c) (DD: ∀c,c<h.size->S' c->S'' c):Fr S'' h h2:=
 ⟨dw hf.1 hf'.1,λc hc hn=>(hf'.2 c (cT hc hf.1) (λhq=>hn (DD c hc hq))).trans (hf.2 c hc (λhq=>hn (hs c hc hq)))⟩
theorem Fr.mono {S S':Nat->Prop} {h h':aj} (hf:Fr S h h') (hs: ∀c,c<h.size->S c->S' c):Fr S' h h':=
 ⟨hf.1,λc hc hn=>hf.2 c hc (λhq=>hn (hs c hc hq))⟩
theorem Fr.push {S:Nat->Prop} (h:aj) (o:Obj):Fr S h (h.push o):=
 ⟨by simp,λc hc _=>by rw[iA,ai (Nat.ne_of_lt hc)]⟩
theorem Fr.cell {S:Nat->Prop} {h h':aj} (hf:Fr S h h') {a:Addr} {v:Value} (hc:ak h a=some v) (hn: ¬S a.block):ak h' a=some v:=by
 obtain⟨c,t,f,hb,hs,hv⟩:=JJ hc;have:=hf.get hb hn;unfold ak;rw[this];simp[hs,hv]
def oL (l:List (Int×Value)) (k:Int):Option Value:=(l.find? (·.1==k)).map (·.2)
def Q9 (l:List (Int×Value)) (k:Int) (v:Value):List (Int×Value):=if(oL l k).isSome=true then l.map (λe=>if e.1==k then(k,v) else e) else l++ [(k,v)]
def Gz (l:List (Int×Value)) (k:Int):List (Int×Value):=l.filter (λe=> !(e.1==k))
theorem abJ (k:Int):oL [] k=none:=rfl
theorem jW (e:Int×Value) (l:List (Int×Value)) (k:Int):oL (e::l) k=if e.1=k then some e.2 else oL l k:=by
 unfold oL;by_cases h:e.1=k<;>simp[h]
theorem Ra {l:List (Int×Value)} {k:Int} :(oL l k).isSome=true↔k∈l.map (·.1):=by
 induction l with
 |nil=>simp[oL]
 |cons e l ih=>
  rw[jW,cB,bQ];by_cases h:e.1=k
  ·simp[h]
  ·rw[ai h,ih];constructor
   ·exact λhm=> .inr hm
   ·rintro(e'|hm)
    ·exact absurd e'.symm h
    ·exact hm
theorem JL (l:List (Int×Value)) (k k':Int) (v:Value) (kB:k'≠k):oL (l.map (λe=>if e.1==k then(k,v) else e)) k'=oL l k':=by
 induction l with
 |nil=>rfl
 |cons e l ih=>
  rw[cB,jW,jW,ih];by_cases h:e.1=k
  ·simp[h,ie kB]
  ·simp[h]
theorem LZ (l:List (Int×Value)) (k:Int) (v:Value) (hm:(oL l k).isSome=true):oL (l.map (λe=>if e.1==k then(k,v) else e)) k=some v:=by
 induction l with
 |nil=>simp[oL] at hm
 |cons e l ih=>
  rw[cB,jW];by_cases h:e.1=k
  ·simp[h]
  ·rw[jW,ai h] at hm;have hb:(e.1==k)=false:=by simp[h]
   rw[hb];simp only[aA,aU,ai h];exact ih hm
theorem Rb (l l':List (Int×Value)) (k:Int):oL (l++l') k=(oL l k).or (oL l' k):=by
 induction l with
 |nil=>simp[oL]
 |cons e l ih=>
  rw[fw,jW,jW,ih];by_cases h:e.1=k<;>simp[h]
theorem Z9 (l:List (Int×Value)) (k k':Int) (v:Value):oL (Q9 l k v) k'=if k'=k then some v else oL l k':=by
 unfold Q9;by_cases hm:(oL l k).isSome=true
 ·rw[ag hm];by_cases h:k'=k
  ·subst h;rw[ag rfl,LZ _ _ _ hm]
  ·rw[ai h,JL _ _ _ _ h]
 ·rw[ai hm,Rb,jW,abJ];have hn:oL l k=none:=by simpa using hm
  by_cases h:k'=k
  ·subst h;simp[hn]
  ·simp[h,ie h]
theorem aaa (l:List (Int×Value)) (k k':Int):oL (Gz l k) k'=if k'=k then none else oL l k':=by
 unfold Gz;induction l with
 |nil=>simp[oL]
 |cons e l ih=>
  rw[cD,jW];by_cases h:e.1=k
  ·subst h;simp only[beq_self_eq_true,dX,aA,aU];rw[ih];by_cases hk:k'=e.1
   ·simp[hk]
   ·simp[hk,ie hk]
  ·have hb:(!(e.1==k))=true:=by simp[h]
   rw[ag hb,jW,ih];by_cases hk:k'=k
   ·subst hk;simp[h]
   ·simp[hk]
theorem aab (l:List (Int×Value)) (k:Int) (v:Value) (hn:(l.map (·.1)).Nodup):((Q9 l k v).map (·.1)).Nodup:=by
 unfold Q9;by_cases hm:(oL l k).isSome=true
 ·rw[ag hm];have:(l.map (λe=>if e.1==k then(k,v) else e)).map (·.1)=l.map (·.1):=by
   rw[fH];apply fW
   intro e _;by_cases h:e.1=k<;>simp[h]
  rw[this];exact hn
 ·rw[ai hm,bm];rw[Ra] at hm;rw[gi];exact⟨hn,by simp,by intro a ha b hb;simp at hb;subst hb;intro e;subst e;exact hm ha⟩
theorem aac (l:List (Int×Value)) (k:Int) (hn:(l.map (·.1)).Nodup):((Gz l k).map (·.1)).Nodup:=
 List.Sublist.nodup (iD _ cV) hn
def Ca (h:aj) (m:Nat) (l:List (Int×Value)):Prop:=
 ∃(es:Array MapEntry) (clock:Nat),h[m]? =some (.map es clock)/\es.toList.map (λe=>(e.key,e.val))=l.map (λe=>(Value.int .i64 e.1,e.2))/\(l.map (·.1)).Nodup/\
  (∀e∈es.toList,e.born<clock)/\(es.toList.map (·.born)).Nodup
def xU (h:aj) (m:Nat) (f:Int->Option Value):Prop:= ∃l,Ca h m l/\∀k,oL l k=f k
theorem Ca.wJ {h h':aj} {m:Nat} {l:List (Int×Value)} (hm:Ca h m l) (he:h'[m]? =h[m]?):Ca h' m l:=by
 obtain⟨es,clock,h1,h2⟩:=hm;exact⟨es,clock,he.trans h1,h2⟩
theorem Ca.lt {h:aj} {m:Nat} {l:List (Int×Value)} (hm:Ca h m l):m<h.size:=by
 obtain⟨es,clock,h1,_⟩:=hm;exact aI h1
theorem Ca.frame {S:Nat->Prop} {h h':aj} {m:Nat} {l:List (Int×Value)} (hm:Ca h m l) (hf:Fr S h h') (hn: ¬S m):Ca h' m l:=
 hm.wJ (hf.2 m hm.lt hn)
theorem xU.wJ {h h':aj} {m:Nat} {f:Int->Option Value} (hm:xU h m f) (he:h'[m]? =h[m]?):xU h' m f:=by
 obtain⟨l,h1,h2⟩:=hm;exact⟨l,h1.wJ he,h2⟩
theorem xU.lt {h:aj} {m:Nat} {f:Int->Option Value} (hm:xU h m f):m<h.size:=by
 obtain⟨l,h1,_⟩:=hm;exact h1.lt
theorem xU.frame {S:Nat->Prop} {h h':aj} {m:Nat} {f:Int->Option Value} (hm:xU h m f) (hf:Fr S h h') (hn: ¬S m):xU h' m f:=by
 obtain⟨l,h1,h2⟩:=hm;exact⟨l,h1.frame hf hn,h2⟩
theorem xU.map {h:aj} {m:Nat} {f:Int->Option Value} (hm:xU h m f): ∃es clock,h[m]? =some (.map es clock):=by
 obtain⟨l,⟨es,clock,h1,_⟩,_⟩:=hm;exact⟨es,clock,h1⟩
theorem Ca.push (h:aj):Ca (h.push (.map #[] 0)) h.size []:=⟨#[],0,cA,rfl,by simp,by simp,by simp⟩
theorem xU.push (h:aj):xU (h.push (.map #[] 0)) h.size (λ_=>none):=⟨[],Ca.push h,λ_=>rfl⟩
theorem Cc {k:Int} : ∀(es:List MapEntry) (l:List (Int×Value)) (i:Nat) (d:IntKind),es.map (λe=>(e.key,e.val))=l.map (λe=>(Value.I e.1,e.2))->
  (oL l k=none->Instr.findNow (.int d) (.I k) es i=some none)/\
  (∀v,oL l k=some v->∃j,Instr.findNow (.int d) (.I k) es i=some (some (i+j,v))/\∃e,es[j]? =some e/\e.key=.I k/\e.val=v)
 | [],l,i,d,h=>by
  have:l= []:=by cases l<;>simp at h⊢
  subst this;exact⟨λ_=>rfl,λv hv=>by simp[oL] at hv⟩
 |e::es,l,i,d,h=>by
  cases l with
  |nil=>simp at h
  |cons x l=>
   simp only[cB,List.cons.injEq,jK] at h;obtain⟨⟨hk,hv⟩,abE⟩:=h;have ih:=Cc (k:=k) es l (i+1) d abE;have hs:Instr.sameNow (.int d) (.I k) e.key=some (k==x.1):=by rw[hk];simp[Instr.sameNow]
   by_cases hkx:x.1=k
   ·refine⟨(λhn=>by rw[jW,ag hkx] at hn;cases hn),λv hv'=>⟨0,?_,e,rfl,by rw[hk,hkx],?_⟩⟩
    ·rw[jW,ag hkx] at hv';simp only[bF] at hv';simp[Instr.findNow,hs,hkx,hv,hv']
    ·rw[jW,ag hkx] at hv';simp only[bF] at hv';rw[hv,hv']
   ·have hkf:(k==x.1)=false:=by simp[ie hkx]
    rw[hkf] at hs;refine⟨λhn=> ?_,λv hv'=> ?_⟩
    ·rw[jW,ai hkx] at hn;simp only[Instr.findNow,hs];exact ih.1 hn
    ·rw[jW,ai hkx] at hv';obtain⟨j,h1,e',h2,h3⟩:=ih.2 v hv';refine⟨j+1,?_,e',by simpa using h2,h3⟩;simp only[Instr.findNow,hs];rw[h1,show i+1+j=i+(j+1) by omega]
section
variable {P : Program}
theorem Cd {empty:Bool} {n:Nat} {t:TypeId} {d:IntKind} {v:Value} {h:aj} (ht:P.underlying t=some (.int d)):rd P (Instr.checkKey empty (n+1) t v) h=some ():=by
 unfold Instr.checkKey;rw[bu _ _ _ _ (bE ht)];rfl
theorem vy {t:TypeId} {d:IntKind} {k:Int} {es:List MapEntry} {l:List (Int×Value)} {h:aj} (ht:P.underlying t=some (.int d))
  (hl:es.map (λe=>(e.key,e.val))=l.map (λe=>(Value.I e.1,e.2))) (hk:oL l k=none):rd P (Instr.findKey t (.I k) es) h=some none:=by
 unfold Instr.findKey;rw[bu _ _ _ _ (bE ht)];simp only[(Cc es l 0 d hl).1 hk];rfl
theorem vz {t:TypeId} {d:IntKind} {k:Int} {v:Value} {es:List MapEntry} {l:List (Int×Value)} {h:aj} (ht:P.underlying t=some (.int d))
  (hl:es.map (λe=>(e.key,e.val))=l.map (λe=>(Value.I e.1,e.2))) (hk:oL l k=some v): ∃j,rd P (Instr.findKey t (.I k) es) h=some (some (j,v))/\∃e,es[j]? =some e/\e.key=.I k/\e.val=v:=by
 obtain⟨j,h1,h2⟩:=(Cc es l 0 d hl).2 v hk;refine⟨j,?_,h2⟩;unfold Instr.findKey;rw[bu _ _ _ _ (bE ht)];simp only[h1,cf];rfl
theorem oM {t:TypeId} {i:TypeInfo} {z:Value} {h:aj} (hi:P.info? t=some i) (hz:i.zero=some z):rd P (zeroValue t) h=some z:=by
 unfold zeroValue;rw[bu _ _ _ _ (lL hi),hz];rfl
theorem pj {r:Nat} {es:Array MapEntry} {c:Nat} {h:aj} (hr:h[r]? =some (.map es c)):rd P (getObj r) h=some (.map es c):=by
 unfold getObj;simp only[rd,hr]
structure Cf (P:Program) (t:TypeId) (z:Value):Prop where
 ty: ∃k e d,P.underlying t=some (.map k e)/\P.underlying k=some (.int d)/\∃i,P.info? e=some i/\i.zero=some z
theorem Cf.of {P:Program} {t:TypeId} {z:Value} (k e:TypeId) (d:IntKind) (h1:P.underlying t=some (.map k e)) (h2:P.underlying k=some (.int d)) (h3:(P.info? e).bind (·.zero)=some z):Cf P t z:=by
 cases hi:P.info? e with
 |none=>rw[hi] at h3;cases h3
 |some i=>exact⟨k,e,d,h1,h2,i,hi,by rw[hi] at h3;exact h3⟩
theorem Rc {t:TypeId} {z:Value} (T:Cf P t z) {h:aj} {m:Nat} {l:List (Int×Value)} (hm:Ca h m l) (k:Int):
  rd P (Instr.lookup t (.map (some m)) (.I k) false) h=some ((oL l k).getD z)/\
  rd P (Instr.lookup t (.map (some m)) (.I k) true) h=some (.tuple #[(oL l k).getD z,.bool (oL l k).isSome]):=by
 obtain⟨kt,e,d,ht,hk,i,hi,hz⟩:=T.ty;obtain⟨es,clock,hb,hl,_⟩:=hm;have gen: ∀ok:Bool,rd P (Instr.lookup t (.map (some m)) (.I k) ok) h=some (if ok then .tuple #[(oL l k).getD z,.bool (oL l k).isSome] else(oL l k).getD z):=λok=>by
  unfold Instr.lookup;rw[bu _ _ _ _ (bE ht)];simp only;rw[bu _ _ _ _ (pj hb)];simp only;rw[bu _ _ _ _ (pJ _),bu _ _ _ _ (Cd hk)];cases hg:oL l k with
  |none=>
   rw[bu _ _ _ _ (vy hk hl hg)];simp only;rw[bu _ _ _ _ (oM hi hz)];cases ok<;>rfl
  |some v=>
   obtain⟨j,h2,_⟩:=vz (h:=h) hk hl hg;rw[bu _ _ _ _ h2];simp only;cases ok<;>rfl
 exact⟨gen false,gen true⟩
theorem MG {t:TypeId} {z:Value} (T:Cf P t z) {h:aj} {m:Nat} {f:Int->Option Value} (hm:xU h m f) (k:Int):
  mD P t (.map (some m)) (.I k) false h ((f k).getD z):=λh' hs=>by
 obtain⟨l,hl,hf⟩:=hm;rw[<-hf k];exact(Rc T (hl.wJ hs) k).1
theorem ON {t:TypeId} {z:Value} (T:Cf P t z) {h:aj} {m:Nat} {f:Int->Option Value} (hm:xU h m f) (k:Int):
  mD P t (.map (some m)) (.I k) true h (.tuple #[(f k).getD z,.bool (f k).isSome]):=λh' hs=>by
 obtain⟨l,hl,hf⟩:=hm;rw[<-hf k];exact(Rc T (hl.wJ hs) k).2
theorem bY {α β:Type} {s:Sem α} {g:α->Sem β} {h:aj} {a:α} {K:β->aj->Prop} (hr:rd P s h=some a) (hk:aX P (g a) h K):aX P (s>>=g) h K:=
 (fa s g K).2 (abv s h a hr _ hk)
theorem T8 {es:List MapEntry} {l:List (Int×Value)} {k:Int} {v:Value} {j:Nat} (hl:es.map (λe=>(e.key,e.val))=l.map (λe=>(Value.I e.1,e.2))) (hn:(l.map (·.1)).Nodup)
  {e:MapEntry} (he:es[j]? =some e) (hk:e.key=.I k) (f:MapEntry->MapEntry) (hf: ∀e:MapEntry,(f e).key=.I k/\(f e).val=v):
  (es.modify j f).map (λe=>(e.key,e.val))=(l.map (λe=>if e.1==k then(k,v) else e)).map (λe=>(Value.I e.1,e.2)):=by
 apply im
 intro i;have hli: ∀i:Nat,(es[i]?).map (λe:MapEntry=>(e.key,e.val))=(l[i]?).map (λe:Int×Value=>(Value.I e.1,e.2)):=λi=>by
  have:=bp (·[i]?) hl;simpa using this
 have hlj:=hli j;rw[he] at hlj;cases hlq:l[j]? with
 |none=>rw[hlq] at hlj;simp at hlj
 |some x=>
  rw[hlq] at hlj;simp only[dz,bF,jK] at hlj;have hxk:x.1=k:=by have:=hlj.1.symm.trans hk;simpa using this
  simp only[aO,List.getElem?_modify,Option.map_map];by_cases hij:j=i
  ·subst hij;simp[he,hlq,hf,hxk]
  ·have h1:=hli i;cases hei:es[i]? with
   |none=>
    rw[hei] at h1;cases hq:l[i]? with
    |none=>simp
    |some y=>rw[hq] at h1;simp at h1
   |some e'=>
    rw[hei] at h1;cases hq:l[i]? with
    |none=>rw[hq] at h1;simp at h1
    |some y=>
     rw[hq] at h1;simp only[dz,bF,jK] at h1;have hyk:y.1≠k:=by
      intro hy;apply hij
      have BE:j<(l.map (·.1)).length:=by simpa using (aG.1 hlq).1
      refine(fV BE hn).1 ?_;simp[hlq,hq,hxk,hy]
     simp[hij,hyk,h1.1,h1.2]
theorem L3 {t:TypeId} {z:Value} (T:Cf P t z) {h:aj} {m:Nat} {l:List (Int×Value)} (hm:Ca h m l) {k:Int} {v:Value} {K:Unit->aj->Prop}
  (hk: ∀h',Ca h' m (Q9 l k v)->h'.size=h.size->(∀c,c≠m->h'[c]? =h[c]?)->K () h'):aX P (Instr.mapUpdate t (.map (some m)) (.I k) v) h K:=by
 obtain⟨kt,e,d,ht,Ua,_⟩:=T.ty;obtain⟨es,clock,hb,hl,hn,xN,Re⟩:=hm;have jc:=aI hb;unfold Instr.mapUpdate;refine bY (bE ht) ?_;simp only;refine bY (pj hb) ?_;simp only;refine bY (Cd Ua) ?_;have fin: ∀(yJ:Array MapEntry) (OO:Nat),yJ.toList.map (λe=>(e.key,e.val))=(Q9 l k v).map (λe=>(Value.I e.1,e.2))->(∀e∈yJ.toList,e.born<OO)->(yJ.toList.map (·.born)).Nodup->
   aX P (setObj m (.map yJ OO)) h K:=λyJ OO h1 h2 h3=>by
  refine⟨⟨_,hb,λc e f he=>by cases he⟩,?_⟩;refine hk _ ⟨yJ,OO,by simp[jc],h1,aab l k v hn,h2,h3⟩ (by simp) (λc hc=> ?_);rw[cM,ai (ie hc)]
 cases hg:oL l k with
 |none=>
  refine bY (vy Ua hl hg) ?_;simp only;refine fin _ _ ?_ ?_ ?_
  ·unfold Q9;rw[hg];simp[hl]
  ·intro e' I7;simp only[Array.toList_push,bU,bW] at I7;rcases I7 with I7|rfl
   ·exact Nat.lt_succ_of_lt (xN _ I7)
   ·exact Nat.lt_succ_self _
  ·simp only[Array.toList_push,bm,cB,List.map_nil];rw[gi];refine⟨Re,by simp,?_⟩;intro a ha b wG;simp at wG;subst wG;obtain⟨e',I7,rfl⟩:=bn.1 ha;exact Nat.ne_of_lt (xN _ I7)
 |some u=>
  obtain⟨j,h1,e',I7,hke,_⟩:=vz (h:=h) Ua hl hg;refine bY h1 ?_;simp only;have he2:es[j]? =some e':=by simpa using I7
  have apO:rd P (Instr.keyThatStays (((es[j]?).map (·.key)).getD (.I k)) (.I k)) h=some (.I k):=by
   rw[he2];simp only[dz,Option.getD_some,hke];unfold Instr.keyThatStays;have:Instr.sameBits 10000 (.I k) (.I k)=true:=by unfold Instr.sameBits;simp
   rw[ag this];rfl
  refine bY apO ?_;refine fin _ _ ?_ ?_ ?_
  ·unfold Q9;rw[hg];simp only[Option.isSome_some,bA];rw[Array.toList_modify];exact T8 hl hn I7 hke _ (λe=>⟨rfl,rfl⟩)
  ·intro e2 al6;rw[Array.toList_modify] at al6;obtain⟨i,hi⟩:=bH al6;rw[List.getElem?_modify] at hi;cases hq:es.toList[i]? with
   |none=>rw[hq] at hi;simp at hi
   |some e3=>
    rw[hq] at hi;have:=xN e3 (bt hq);simp only[Option.map_eq_map,dz,bF] at hi;subst hi;split<;>exact this
  ·rw[Array.toList_modify];have:(es.toList.modify j λe=> { e with key:=Value.I k,val:=v }).map (·.born)=es.toList.map (·.born):=by
    apply im
    intro i;simp only[aO,List.getElem?_modify];cases es.toList[i]? with
    |none=>rfl
    |some e3=>simp only[Option.map_eq_map,dz];split<;>rfl
   rw[this];exact Re
theorem wK {t:TypeId} {z:Value} (T:Cf P t z) {h:aj} {m:Nat} {f:Int->Option Value} (hm:xU h m f) {k:Int} {v:Value} {K:Unit->aj->Prop}
  (hk: ∀h',xU h' m (λx=>if x=k then some v else f x)->h'.size=h.size->(∀c,c≠m->h'[c]? =h[c]?)->K () h'):aX P (Instr.mapUpdate t (.map (some m)) (.I k) v) h K:=by
 obtain⟨l,hl,hf⟩:=hm;refine L3 T hl λh' h1 h2 h3=>hk h' ⟨_,h1,λx=> ?_⟩ h2 h3
 rw[Z9,hf]
theorem erase_filter {es:List MapEntry} {l:List (Int×Value)} {k:Int} (hl:es.map (λe=>(e.key,e.val))=l.map (λe=>(Value.I e.1,e.2))) (hn:(l.map (·.1)).Nodup):
  ∀ {j:Nat} {e:MapEntry},es[j]? =some e->e.key=.I k->(es.eraseIdx j).map (λe=>(e.key,e.val))=(Gz l k).map (λe=>(Value.I e.1,e.2)):=by
 induction es generalizing l with
 |nil=>intro j e he;simp at he
 |cons x es ih=>
  intro j e he hk;cases l with
  |nil=>simp at hl
  |cons y l=>
   simp only[cB,List.cons.injEq,jK] at hl;obtain⟨⟨h1,h2⟩,h3⟩:=hl;simp only[cB,gv] at hn;obtain⟨hy,hn⟩:=hn;cases j with
   |zero=>
    simp only[eU,bF] at he;subst he;have hyk:y.1=k:=by have:=h1.symm.trans hk;simpa using this
    have:Gz (y::l) k=l:=by
     unfold Gz;rw[cD,ai (by simp[hyk])];rw[cI];intro a ha;have:a.1≠k:=λe=>hy (by rw[hyk,<-e];exact bB ha)
     simp[this]
    rw[this];simpa using h3
   |succ j=>
    have I7:es[j]? =some e:=by simpa using he
    have hyk:y.1≠k:=by
     intro hyk;apply hy
     have hli:=bp (·[j]?) h3;simp only[aO,I7,dz] at hli;cases hq:l[j]? with
     |none=>rw[hq] at hli;simp at hli
     |some z=>
      rw[hq] at hli;simp only[dz,bF,jK] at hli;have hzk:z.1=k:=by have:=hli.1.symm.trans hk;simpa using this
      rw[hyk,<-hzk];exact bB (bt hq)
    have:Gz (y::l) k=y::Gz l k:=by
     unfold Gz;rw[cD,ag (by simp[hyk])]
    rw[this];simp only[List.eraseIdx_cons_succ,cB,h1,h2];rw[ih h3 hn I7 hk]
theorem Ub {t kt' ty:TypeId} {z:Value} (T:Cf P t z) {h:aj} {m:Nat} {l:List (Int×Value)} (hm:Ca h m l) {k:Int} {K:iI}
  (hk: ∀h',Ca h' m (Gz l k)->h'.size=h.size->(∀c,c≠m->h'[c]? =h[c]?)->K (.tuple #[]) h'):aX P (Builtin.delete_ #[t,kt'] ty #[.map (some m),.I k]) h K:=by
 obtain⟨kt,e,d,ht,Ua,_⟩:=T.ty;obtain⟨es,clock,hb,hl,hn,xN,Re⟩:=hm;have jc:=aI hb;unfold Builtin.delete_;refine bY (bE ht) ?_;show aX P (do
   let __x<-getObj m
   match __x with
    |Obj.map es clock=>do
     Instr.checkKey es.isEmpty 10000 kt (Value.int IntKind.i64 k)
     let __do_lift<-Instr.findKey kt (Value.int IntKind.i64 k) es.toList
     match __do_lift with
      |some (i,_)=>do
       setObj m (Obj.map (es.eraseIdxIfInBounds i) clock)
       pure (Value.tuple #[])
      |none=>do
       setObj m (Obj.map es clock)
       pure (Value.tuple #[])
    |_=>do
     stuck "delete: map expected"
     pure (Value.tuple #[])) h K
 refine bY (pj hb) ?_;simp only;refine bY (Cd Ua) ?_;have fin: ∀(yJ:Array MapEntry),yJ.toList.map (λe=>(e.key,e.val))=(Gz l k).map (λe=>(Value.I e.1,e.2))->(∀e∈yJ.toList,e.born<clock)->(yJ.toList.map (·.born)).Nodup->
   aX P (do setObj m (.map yJ clock);pure (Value.tuple #[])) h K:=λyJ h1 h2 h3=>by
  rw[fa];refine⟨⟨_,hb,λc e f he=>by cases he⟩,?_⟩;refine hk _ ⟨yJ,clock,by simp[jc],h1,aac l k hn,h2,h3⟩ (by simp) (λc hc=> ?_);rw[cM,ai (ie hc)]
 cases hg:oL l k with
 |none=>
  refine bY (vy Ua hl hg) ?_;refine fin es ?_ xN Re;have:Gz l k=l:=by
   unfold Gz;rw[cI];intro a ha;have:a.1≠k:=λe=>by
    have hm:k∈l.map (·.1):=e▸bB ha;rw[<-Ra,hg] at hm;cases hm
   simp[this]
  rw[this];exact hl
 |some u=>
  obtain⟨j,h1,e',I7,hke,_⟩:=vz (h:=h) Ua hl hg;refine bY h1 ?_;have qZ:List.Sublist (es.eraseIdxIfInBounds j).toList es.toList:=by
   rw[Array.toList_eraseIdxIfInBounds];exact List.eraseIdx_sublist _ _
  refine fin _ ?_ ?_ ?_
  ·rw[Array.toList_eraseIdxIfInBounds];exact erase_filter hl hn I7 hke
  ·intro e2 he2;exact xN e2 (qZ.subset he2)
  ·exact(qZ.map _).nodup Re
theorem HC {t kt' ty:TypeId} {z:Value} (T:Cf P t z) {h:aj} {m:Nat} {f:Int->Option Value} (hm:xU h m f) {k:Int} {K:iI}
  (hk: ∀h',xU h' m (λx=>if x=k then none else f x)->h'.size=h.size->(∀c,c≠m->h'[c]? =h[c]?)->K (.tuple #[]) h'):aX P (Builtin.delete_ #[t,kt'] ty #[.map (some m),.I k]) h K:=by
 obtain⟨l,hl,hf⟩:=hm;refine Ub T hl λh' h1 h2 h3=>hk h' ⟨_,h1,λx=> ?_⟩ h2 h3
 rw[aaa,hf]
end
end Go.Den
namespace Go.Den
theorem af {h:aj} {b i:Nat} {c:Array Value} {t:TypeId} {f:Nat×Nat} {v:Value} (hb:h[b]? =some (.cells c t f)) (hi:c[i]? =some v):ak h (AA b i)=some v:=by
 rw[wk hb,hi]
theorem bM {h:aj} {b i:Nat} {c:Array Value} {t:TypeId} {v:Value} {K:aj->Prop} (hb:h[b]? =some (.cells c t (0,0))) (hi:i<c.size)
  (hk: ∀h',h'[b]? =some (.cells (c.setIfInBounds i v) t (0,0))->h'.size=h.size->(∀x,x≠b->h'[x]? =h[x]?)->K h'):aH h (AA b i) v K:=by
 refine⟨?_,xZ hb,?_⟩
 ·rw[wk hb];simp[hi]
 ·rintro _ rfl;exact hk _ (Gy hb) MF (λx hx=>Et hx)
theorem Fr.of_eq {S:Nat->Prop} {h h':aj} (hs:h'.size=h.size) (ho: ∀c,¬S c->h'[c]? =h[c]?):Fr S h h':=⟨by omega,λc _ hn=>ho c hn⟩
theorem bL {n:Int} (h1: -9223372036854775808<=n) (h2:n<=9223372036854775807):IntKind.wrap .i64 n=n:=IntWalk.i64_in n ⟨h1,h2⟩
theorem wrap_u64 {n:Int} (h1:0<=n) (h2:n<=18446744073709551615):IntKind.wrap .u64 n=n:=IntWalk.u64_in n ⟨h1,h2⟩
theorem wrap_u8 {n:Int} (h1:0<=n) (h2:n<=255):IntKind.wrap .u8 n=n:=IntWalk.u8_in n ⟨h1,h2⟩
theorem Fr.kp {h h':aj} {l:List (bV)} (f:Fr (λ_=>False) h h'):Kp h h' l:=λ_ _ x _ hx=>f.2 x.block hx id
theorem Fr.kps {S:Nat->Prop} {h h':aj} {l:List (bV)} (f:Fr S h h') (hn: ∀p∈l,∀x,p=some x->¬S x.block):Kp h h' l:=λp hp x e hx=>f.2 x.block hx (hn p hp x e)
theorem Fr.no {h1 h2 h3:aj} {S:Nat->Prop} (mF:Fr (λ_=>False) h1 h2) (h23:Fr S h2 h3):Fr S h1 h3:=mF.trans h23 (λ_ _=>False.elim) (λ_ _=>id)
theorem Fr.on {h1 h2 h3:aj} {S:Nat->Prop} (mF:Fr S h1 h2) (h23:Fr (λ_=>False) h2 h3):Fr S h1 h3:=mF.trans h23 (λ_ _=>id) (λ_ _=>False.elim)
theorem Fr.tt {h1 h2 h3:aj} {S:Nat->Prop} (mF:Fr S h1 h2) (h23:Fr S h2 h3):Fr S h1 h3:=mF.trans h23 (λ_ _=>id) (λ_ _=>id)
theorem Fr.step {S:Nat->Prop} {h h1 h2:aj} (hf:Fr (λ_=>False) h h1) (hs:Fr S h1 h2) (hn: ∀c,c<h.size->¬S c):Fr (λ_=>False) h h2:=
 hf.trans hs (λ_ _ hx=>hx) (λc hc hx=>hn c hc hx)
end Go.Den
namespace Go.Den
abbrev JM (h:aj) (a:Addr) (K:Int->Prop):Prop:= ∃t,ak h a=some (.int .u64 t)/\K t
abbrev Rf (h:aj) (a:Addr) (K:Int->Prop):Prop:= ∃t,ak h a=some (.int .i64 t)/\K t
abbrev V2 (h:aj) (a:Addr) (K:Int->Prop):Prop:= ∃t,ak h a=some (.int .u8 t)/\K t
abbrev Hb' (h:aj) (a:Addr) (K:Bool->Prop):Prop:= ∃t,ak h a=some (.bool t)/\K t
abbrev LO (h:aj) (a:Addr) (K:bV->Prop):Prop:= ∃t,ak h a=some (.pointer t)/\K t
abbrev Hs' (h:aj) (a:Addr) (K:ByteArray->Prop):Prop:= ∃t,ak h a=some (.string t)/\K t
abbrev L4 (h:aj) (a:Addr) (K:bV->Nat->Nat->Prop):Prop:= ∃p l c,ak h a=some (.slice p l c)/\K p l c
abbrev Hu (h:aj) (b i:Nat) (K:Int->Prop):Prop:= ∃t,ak h ⟨b,i,none⟩=some (.int .u64 t)/\K t
abbrev Hi (h:aj) (b i:Nat) (K:Int->Prop):Prop:= ∃t,ak h ⟨b,i,none⟩=some (.int .i64 t)/\K t
abbrev Hy (h:aj) (b i:Nat) (K:Int->Prop):Prop:= ∃t,ak h ⟨b,i,none⟩=some (.int .u8 t)/\K t
abbrev Hb (h:aj) (b i:Nat) (K:Bool->Prop):Prop:= ∃t,ak h ⟨b,i,none⟩=some (.bool t)/\K t
abbrev Hp (h:aj) (b i:Nat) (K:bV->Prop):Prop:= ∃t,ak h ⟨b,i,none⟩=some (.pointer t)/\K t
abbrev Hs (h:aj) (b i:Nat) (K:ByteArray->Prop):Prop:= ∃t,ak h ⟨b,i,none⟩=some (.string t)/\K t
abbrev Hl (h:aj) (b i:Nat) (K:bV->Nat->Nat->Prop):Prop:= ∃p l c,ak h ⟨b,i,none⟩=some (.slice p l c)/\K p l c
abbrev Vb (v:Value) (K:Bool->Prop):Prop:= ∃t,v=.bool t/\K t
abbrev Vi (v:Value) (K:Int->Prop):Prop:= ∃t,v=.int .i64 t/\K t
abbrev Vu (v:Value) (K:Int->Prop):Prop:= ∃t,v=.int .u64 t/\K t
abbrev Vp (v:Value) (K:bV->Prop):Prop:= ∃t,v=.pointer t/\K t
abbrev Vl (v:Value) (K:bV->Nat->Nat->Prop):Prop:= ∃p l c,v=.slice p l c/\K p l c
abbrev Bd (i:Int) (n:Nat):Prop:=(0:Int)<=i/\i<(n:Int)
abbrev No:Nat->Prop:=λ_=>False
abbrev lf:EO:=.leaf
abbrev ll:EO:=.seq .leaf .leaf
abbrev lq (a:EO):EO:=.seq .leaf a
abbrev sq (a b:EO):EO:=.seq a b
abbrev cq (a b:EO):EO:=.cond a b
abbrev bq (a:EO):EO:=.block a
abbrev pK (n:Nat):EO:=.qX (jh n 0 .done)
abbrev pN (n:Nat):EO:=.mC (jh n 0 .done)
theorem aS {P:Program} {f:FuncId} {fn:Func} {args:List Value} {h:aj} {R:iI} {A:Prop} (Gi:EO) (hf:P.funcs[f]? =some fn) (hv:A)
  (hb:fn.body.isSome=true:=by rfl) (hn:Nat.ble args.length fn.ntmps=true:=by rfl)
  (e:A=den P fn.ntmps Gi none (Es fn) (ajA P fn.results R) (wI args) h:=by kernel_rfl):wE P f args.toArray h R:=JI Gi hf hb hn (Eq.mp e hv)
def Row (h:aj) (p:bV) (cs:List Value):Prop:=cs= []\/∃a,p=some a/\fF a cs 0 h
theorem Row.nil {h:aj} {p:bV} :Row h p []:=.inl rfl
theorem sU {h:aj} {a:Addr} : ∀ {cs:List Value} {i:Nat},fF a cs i h↔ ∀j v,cs[j]? =some v->ak h (a.add (i+j))=some v
 | [],i=>by simp[fF]
 |c::cs,i=>by
  simp only[fF];rw[sU (cs:=cs)];constructor
  ·rintro⟨h1,h2⟩ j v hj;cases j with
   |zero=>simp only[eU,bF] at hj;subst hj;exact h1
   |succ j=>have:=h2 j v (by simpa using hj);rwa[show i+1+j=i+(j+1) by omega] at this
  ·intro hh;refine⟨hh 0 c rfl,λj v hj=> ?_⟩;have:=hh (j+1) v (by simpa using hj);rwa[show i+(j+1)=i+1+j by omega] at this
theorem lS {h:aj} {b off:Nat} {c:Array Value} {t:TypeId} {f:Nat×Nat} {cs:List Value} (hb:h[b]? =some (.cells c t f)) (hc: ∀j v,cs[j]? =some v->c[off+j]? =some v):fF (AA b off) cs 0 h:=by
 rw[sU];intro j v hj;rw[cf,kC,wk hb];exact hc j v hj
theorem uQ {S:Nat->Prop} {h h':aj} (hf:Fr S h h') {a:Addr} (hn: ¬S a.block): ∀ {cs:List Value} {i:Nat},fF a cs i h->fF a cs i h'
 | [],_,_=>trivial
 |_::_,i,hh=>⟨hf.cell hh.1 (by unfold Addr.add;split<;>exact hn),uQ hf hn hh.2⟩
theorem Row.frame {S:Nat->Prop} {h h':aj} (hf:Fr S h h') {p:bV} {cs:List Value} (hr:Row h p cs) (hn: ∀a,p=some a->¬S a.block):Row h' p cs:=by
 rcases hr with rfl|⟨a,rfl,hh⟩
 ·exact .inl rfl
 ·exact .inr ⟨a,rfl,uQ hf (hn a rfl) hh⟩
theorem Row.cell {h:aj} {a:Addr} {cs:List Value} (hr:Row h (some a) cs) {j:Nat} {v:Value} (hj:cs[j]? =some v):ak h (a.add j)=some v:=by
 rcases hr with rfl|⟨a',e,hh⟩
 ·simp at hj
 ·cases e;have:=sU.1 hh j v hj;rwa[cf] at this
theorem Row.some {h:aj} {p:bV} {cs:List Value} (hr:Row h p cs) (hn:cs≠ []): ∃a,p=some a:=by
 rcases hr with rfl|⟨a,e,_⟩
 ·exact absurd rfl hn
 ·exact⟨a,e⟩
section
variable {P : Program}
theorem uG {h:aj} {q:bV} {n cq sz:Nat} {ds:List Value} (hq:Row h q ds) (hl:ds.length=n*sz):rd P (Builtin.firstCells sz n (.slice q n cq)) h=some ds.toArray:=by
 cases q with
 |none=>
  have:ds= []:=by
   rcases hq with rfl|⟨a,e,_⟩
   ·rfl
   ·cases e
  subst this;rfl
 |some a=>
  show rd P (loadCells a (n*sz)) h=_;have hh:fF a ds 0 h:=by
   rcases hq with rfl|⟨a',e,hh⟩
   ·trivial
   ·cases e;exact hh
  unfold loadCells;rw[<-hl,nQ ds 0 #[] h hh];simp
theorem MH {need:Nat} : ∀(r c:Nat),c<2*need->256<=c->Builtin.growBy need r c<=2*need
 |0,c,h,_=>by unfold Builtin.growBy;omega
 |r+1,c,h,h2=>by
  unfold Builtin.growBy;split
  ·omega
  ·rename_i hc;by_cases jc:c+(c+768)/4<2*need
   ·exact MH r _ jc (by omega)
   ·have:c+(c+768)/4<=2*need:=by omega
    cases r with
    |zero=>unfold Builtin.growBy;exact this
    |succ r=>unfold Builtin.growBy;rw[jy];exact this
theorem nextslicecap_le {need cap:Nat} (h:cap<need):Builtin.nextslicecap need cap<=2*need:=by
 unfold Builtin.nextslicecap;split
 ·omega
 ·split
  ·omega
  ·exact MH 4 cap (by omega) (by omega)
inductive iS (h:aj) (p:bV) (len cap sz:Nat) (cs:List Value):Prop
 |nil (hp:p=none) (hl:len=0) (hc:cap=0) (BG:cs= [])
 |row (b off:Nat) (c:Array Value) (t:TypeId) (hp:p=some ⟨b,off,none⟩) (hb:h[b]? =some (.cells c t (0,0))) (hl:len<=cap) (hc:off+cap*sz<=c.size) (hn:cs.length=len*sz) (BG: ∀j v,cs[j]? =some v->c[off+j]? =some v)
def aQ (p:bV) (c:Nat):Prop:= ∃a,p=some a/\a.block=c
theorem iS.length {h:aj} {p:bV} {len cap sz:Nat} {cs:List Value} (o:iS h p len cap sz cs):cs.length=len*sz:=by
 cases o with
 |nil _ hl _ BG=>subst hl BG;simp
 |row b off c t _ _ _ _ hn _=>exact hn
theorem iS.qa {h:aj} {p:bV} {len cap sz:Nat} {cs:List Value} (o:iS h p len cap sz cs):Row h p cs:=by
 cases o with
 |nil _ _ _ BG=>exact .inl BG
 |row b off c t hp hb _ _ _ BG=>exact .inr ⟨_,hp,lS hb BG⟩
theorem iS.frame {S:Nat->Prop} {h h':aj} {p:bV} {len cap sz:Nat} {cs:List Value} (o:iS h p len cap sz cs) (hf:Fr S h h') (hn: ∀c,aQ p c->¬S c):iS h' p len cap sz cs:=by
 cases o with
 |nil hp hl hc BG=>exact .nil hp hl hc BG
 |row b off c t hp hb hl hc hlen BG=>exact .row b off c t hp (hf.get hb (hn b ⟨_,hp,rfl⟩)) hl hc hlen BG
theorem iS.gn {h:aj} {p:bV} {len cap sz:Nat} {cs:List Value} (o:iS h p len cap sz cs) {c:Nat} (hc:aQ p c):c<h.size:=by
 obtain⟨a,e,rfl⟩:=hc;cases o with
 |nil hp _ _ _=>rw[hp] at e;cases e
 |row b off c t hp hb _ _ _ _=>rw[hp] at e;cases e;exact aI hb
theorem iS.cells {h:aj} {p:bV} {len cap sz:Nat} {cs:List Value} (o:iS h p len cap sz cs) {b:Nat} (hb:aQ p b): ∃c t,h[b]? =some (.cells c t (0,0)):=by
 obtain⟨a,e,rfl⟩:=hb;cases o with
 |nil hp _ _ _=>rw[hp] at e;cases e
 |row b off c t hp hb _ _ _ _=>rw[hp] at e;cases e;exact⟨c,t,hb⟩
theorem iS.le {h:aj} {p:bV} {len cap sz:Nat} {cs:List Value} (o:iS h p len cap sz cs):len<=cap:=by
 cases o with
 |nil _ hl hc _=>omega
 |row b off c t _ _ hl _ _ _=>exact hl
theorem iS.some {h:aj} {p:bV} {len cap sz:Nat} {cs:List Value} (o:iS h p len cap sz cs) (hn:0<cs.length): ∃b off,p=some (AA b off):=by
 cases o with
 |nil _ _ _ BG=>subst BG;simp at hn
 |row b off c t hp _ _ _ _ _=>exact⟨b,off,hp⟩
theorem iS.cell {h:aj} {a:Addr} {len cap sz:Nat} {cs:List Value} (o:iS h (.some a) len cap sz cs) {j:Nat} {v:Value} (hj:cs[j]? =.some v):ak h (a.add j)=.some v:=o.qa.cell hj
theorem iS.store {h:aj} {a:Addr} {len cap sz:Nat} {cs:List Value} {j:Nat} {v:Value} {K:aj->Prop} (o:iS h (.some a) len cap sz cs) (hj:j<cs.length)
  (hk: ∀h',iS h' (.some a) len cap sz (cs.set j v)->h'.size=h.size->(∀x,¬aQ (.some a) x->h'[x]? =h[x]?)->K h'):aH h (a.add j) v K:=by
 cases o with
 |nil hp _ _ _=>cases hp
 |row b off c t hp hb hl hc hn BG=>
  cases hp;rw[kC];have hmul:len*sz<=cap*sz:=df _ hl;refine bM hb (by omega) λh' h1 h2 h3=>hk h' (.row b off _ t rfl h1 hl (by simpa using hc) (by simpa using hn) ?_) h2 (λx hx=>h3 x (λe=>hx ⟨_,rfl,e.symm⟩))
  intro i w hi;rw[eJ] at hi;rw[cM];by_cases e:j=i
  ·subst e;rw[ag rfl,ag hj] at hi;rw[ag rfl,jy];exact hi
  ·rw[ai e] at hi;rw[dM];exact BG i w hi
theorem iS.sub {h:aj} {p:bV} {len cap sz:Nat} {cs:List Value} (o:iS h p len cap sz cs) {l u:Nat} (h1:l<=u) (h2:u<=len):iS h (da p cap l sz) (u - l) (cap - l) sz ((cs.take (u*sz)).drop (l*sz)):=by
 cases o with
 |nil hp hl hc BG=>
  subst hp hl hc BG;refine .nil ?_ (by omega) (by omega) (by simp);unfold da;split<;>rfl
 |row b off c t hp hb hl hc hn BG=>
  subst hp;have m1:u*sz<=len*sz:=df _ h2;have m2:l*sz<=u*sz:=df _ h1;have m3:len*sz<=cap*sz:=df _ hl;have ajB: ∀j v,((cs.take (u*sz)).drop (l*sz))[j]? =.some v->c[off+l*sz+j]? =.some v:=λj v hj=>by
   rw[iM,dt] at hj;split at hj
   ·have:=BG _ v hj;rwa[<-Nat.add_assoc] at this
   ·cases hj
  have hlen:((cs.take (u*sz)).drop (l*sz)).length=(u - l)*sz:=by
   rw[cg,bR,Nat.sub_mul];omega
  have OQ:(cap - l)*sz=cap*sz - l*sz:=Nat.sub_mul _ _ _;unfold da;split
  ·rename_i e;have e1:u - l=0:=by omega
   refine .row b off c t rfl hb (by omega) (by omega) hlen (λj v hj=> ?_);have hz:((cs.take (u*sz)).drop (l*sz)).length=0:=by rw[hlen,e1];simp
   rw[List.eq_nil_of_length_eq_zero hz] at hj;cases hj
  ·show iS h (.some (((AA b off):Addr).add (l*sz))) _ _ _ _;rw[kC];exact .row b (off+l*sz) c t rfl hb (by omega) (by omega) hlen ajB
theorem wm {p:bV} {cap l sz c:Nat} (hc:aQ (da p cap l sz) c):aQ p c:=by
 obtain⟨a,e,rfl⟩:=hc;unfold da at e;split at e
 ·exact⟨a,e,rfl⟩
 ·cases p with
  |none=>cases e
  |some b=>cases e;exact⟨b,rfl,by unfold Addr.add;split<;>rfl⟩
theorem Eu {c:Array Value} {off:Nat} : ∀(ds:List Value) (i:Nat) (h:aj) (b:Nat) (t:TypeId) (K:Unit->aj->Prop),(∀v∈ds,jg v=true)->h[b]? =some (.cells c t (0,0))->off+i+ds.length<=c.size->
  (∀h' c',h'[b]? =some (.cells c' t (0,0))->c'.size=c.size->(∀j,j<off+i\/off+i+ds.length<=j->c'[j]? =c[j]?)->(∀j v,ds[j]? =some v->c'[off+i+j]? =some v)->h'.size=h.size->(∀x,x≠b->h'[x]? =h[x]?)->K () h')->
  aX P (storeCells (AA b off) ds i) h K
 | [],i,h,b,t,K,_,hb,_,hk=>by
  refine hk h c hb rfl (λ_ _=>rfl) (λj v hj=>by simp at hj) rfl (λ_ _=>rfl)
 |v::ds,i,h,b,t,K,hv,hb,hlen,hk=>by
  simp only[storeCells];rw[fa];simp only[bj] at hlen;have jc:off+i<c.size:=by omega
  refine⟨hv v dY,?_,?_,?_⟩
  ·rw[kC,wk hb];simp[jc]
  ·rw[kC];exact xZ hb
  ·rw[kC];show aX P (storeCells (AA b off) ds (i+1)) (yX h (AA b (off+i)) v) K;refine Eu (c:=c.setIfInBounds (off+i) v) ds (i+1) _ b t K (λu hu=>hv u (cN _ hu)) (Gy hb) (by simp;omega) ?_;intro h' c' wG DD TE hn' JB abK;refine hk h' c' wG (by rw[DD];simp) (λj hj=> ?_) (λj u hj=> ?_) (by rw[JB,MF]) (λx hx=>by rw[abK x hx,Et hx])
   ·simp only[bj] at hj;rw[TE j (by omega),cM,dM]
   ·cases j with
    |zero=>
     simp only[eU,bF] at hj;subst hj;rw[TE (off+i+0) (by omega)];simp[jc]
    |succ j=>
     have:=hn' j u (by simpa using hj);rwa[show off+(i+1)+j=off+i+(j+1) by omega] at this
theorem OR {sT xT ty elem eT:TypeId} {i:TypeInfo} {z:Value} {h:aj} {p q:bV} {len cap n cq:Nat} {cs ds:List Value} {K:iI}
  (hs:P.underlying sT=some (.slice elem)) (hx:P.underlying xT=some (.slice eT)) (hi:P.info? elem=some i) (hz:i.zero=some z) (JB:z.cells.size=i.size)
  (own:iS h p len cap i.size cs) (hq:Row h q ds) (hd:ds.length=n*i.size) (OS: ∀v∈ds,jg v=true) (hb:(len+n)*i.bytes<=70368744177664) (fJ:len+n<=9223372036854775807)
  (hk: ∀p' nm h',iS h' p' (len+n) nm i.size (cs++ds)->iS h' p len cap i.size cs->Fr (aQ p) h h'->(∀c,aQ p' c->aQ p c\/h.size<=c)->K (.slice p' (len+n) nm) h'):
  aX P (Builtin.append_ #[sT,xT] ty #[.slice p len cap,.slice q n cq]) h K:=by
 unfold Builtin.append_;refine bY (s:=underlying sT) (bE hs) ?_;refine bY (s:=sizeOf elem) (lQ hi) ?_;refine bY (s:=underlying xT) (bE hx) ?_;refine bY (s:=(pure false:Sem Bool)) (a:=false) rfl ?_;refine bY (s:=Builtin.lenOf (.slice q n cq)) (a:=n) rfl ?_;show aX P (if len+n<=cap then _ else _) h K;by_cases OQ:len+n<=cap
 ·rw[ag OQ];refine bY (s:=Builtin.firstCells i.size n (.slice q n cq)) (a:=ds.toArray) (uG hq hd) ?_;cases own with
  |nil hp hl hc BG=>
   subst hp hl hc BG;have hn0:n=0:=by omega
   subst hn0;have hds:ds= []:=by simpa using hd
   subst hds;exact hk none 0 h (.nil rfl rfl rfl rfl) (.nil rfl rfl rfl rfl) (Fr.refl _ _) (λc ⟨a,e,_⟩=>by cases e)
  |row b off c t hp hbk hl hc hlen BG=>
   subst hp;show aX P (storeCells (((AA b off):Addr).add (len*i.size)) ds>>=λ_=>pure (.slice (some (AA b off)) (len+n) cap)) h K;rw[kC];have hmul:(len+n)*i.size<=cap*i.size:=df _ OQ;rw[gk] at hmul;rw[fa];refine Eu (c:=c) (off:=off+len*i.size) ds 0 h b t _ OS hbk (by omega) ?_;intro h' c' wG DD TE hn' JB abK;show K (.slice (some (AA b off)) (len+n) cap) h';refine hk _ cap h' (.row b off c' t rfl wG OQ (by omega) (by rw[aF,hlen,hd,gk]) ?_) (.row b off c' t rfl wG hl (by omega) hlen ?_) (Fr.of_eq JB λx hx=>abK x (λe=>hx ⟨_,rfl,e.symm⟩)) (λc hc=> .inl hc)
   ·intro j v hj;by_cases Cg:j<cs.length
    ·rw[dy Cg] at hj;rw[TE _ (by omega)];exact BG j v hj
    ·rw[dq (by omega)] at hj;have:=hn' _ v hj;rw[hlen] at this;rwa[show off+len*i.size+0+(j - len*i.size)=off+j by omega] at this
   ·intro j v hj;have Cg:j<cs.length:=(aG.1 hj).1;rw[TE _ (by omega)];exact BG j v hj
 ·rw[ai OQ];have hle:=nextslicecap_le (need:=len+n) (cap:=cap) (by omega);refine bY (s:=typeInfo elem) (lL hi) ?_;have ajC: ¬(((len+n:Nat):Int)>IntKind.max .i64/\(False\/i.bytes=0)):=λhc=>by
   have:IntKind.max .i64=9223372036854775807:=rfl;rw[this] at hc;omega
  show aX P (if(((len+n:Nat):Int)>IntKind.max .i64/\(false=true\/i.bytes=0)) then _ else _) h K;rw[ai (by simpa using ajC)];refine bY (s:=typeInfo elem) (lL hi) ?_;have abL: ¬(Builtin.nextslicecap (len+n) cap*i.bytes>2 ^ 48):=by
   have h1:Builtin.nextslicecap (len+n) cap*i.bytes<=2*(len+n)*i.bytes:=df _ hle;rw[Nat.mul_assoc] at h1;omega
  show aX P (if Builtin.nextslicecap (len+n) cap*i.bytes>2 ^ 48 then _ else _) h K;rw[ai abL];show aX P (choose (.appendCap (len+n) cap elem)>>=_) h K;rw[fa];unfold choose;simp only[aX,Question.forced,aA,aU,Question.cut];intro tq;refine bY (s:=typeInfo elem) (lL hi) ?_;rw[fa];have Rh: ∀(m:Nat) (K':Unit->aj->Prop),K' () h->aX P (askRoom m) h K':=λm K' V4=>by
   unfold askRoom;split
   ·exact V4
   ·exact V4
  refine Rh _ _ ?_;refine bY (s:=Builtin.firstCells i.size len (.slice p len cap)) (a:=cs.toArray) (uG own.qa own.length) ?_;refine bY (s:=Builtin.firstCells i.size n (.slice q n cq)) (a:=ds.toArray) (uG hq hd) ?_;refine bY (s:=zeroValue elem) (oM hi hz) ?_;generalize al7:len+n+tq%(2 ^ 63 - (len+n))=nm;have hge:len+n<=nm:=by omega
  show K (.slice (some (AA h.size 0)) (len+n) nm) (h.push (.cells (cs.toArray++ds.toArray++Builtin.zeroCells z.cells (nm - (len+n))) elem));have al8:(cs.toArray++ds.toArray++Builtin.zeroCells z.cells (nm - (len+n))).size=nm*i.size:=by
   have h1:(Builtin.zeroCells z.cells (nm - (len+n))).size=(nm - (len+n))*i.size:=by simp[Builtin.zeroCells,JB]
   have h2:=own.length;rw[Array.size_append,Array.size_append,h1];simp only[List.size_toArray];rw[h2,hd,<-gk,<-gk];congr 1;omega
  refine hk _ nm _ (.row h.size 0 _ elem rfl cA hge (by rw[al8];omega) (by rw[aF,own.length,hd,gk]) ?_) (own.frame (Fr.push (S:=λ_=>False) _ _) (λ_ _=>id)) (Fr.push _ _) ?_
  ·intro j v hj;rw[cf];have Cg:j<(cs++ds).length:=(aG.1 hj).1;rw[eY (by simpa using Cg)];simpa using hj
  ·rintro c ⟨a,e,rfl⟩;cases e;exact .inr (bh _)
structure Ap (P:Program) (sT elem:TypeId) (sz bytes:Nat) (z:Value):Prop where
 u:P.underlying sT=some (.slice elem)
 info:(P.info? elem).map (λi=>(i.size,i.bytes,i.zero))=some (sz,bytes,some z)
 zs:z.cells.size=sz
theorem Ap.i {sT elem:TypeId} {sz bytes:Nat} {z:Value} (T:Ap P sT elem sz bytes z): ∃i,P.info? elem=some i/\i.size=sz/\i.bytes=bytes/\i.zero=some z:=by
 have:=T.info;cases hi:P.info? elem with
 |none=>rw[hi] at this;cases this
 |some i=>
  rw[hi] at this;simp only[dz,bF,jK] at this;exact⟨i,rfl,this⟩
theorem fR {sT xT ty elem eT:TypeId} {sz bytes:Nat} {z:Value} {h:aj} {p q:bV} {len cap n cq:Nat} {cs ds:List Value} {K:iI}
  (T:Ap P sT elem sz bytes z) (hx:P.underlying xT=some (.slice eT))
  (own:iS h p len cap sz cs) (hq:Row h q ds) (hd:ds.length=n*sz) (OS: ∀v∈ds,jg v=true) (hb:(len+n)*bytes<=70368744177664) (fJ:len+n<=9223372036854775807)
  (hk: ∀p' nm h',iS h' p' (len+n) nm sz (cs++ds)->iS h' p len cap sz cs->Fr (aQ p) h h'->(∀c,aQ p' c->aQ p c\/h.size<=c)->K (.slice p' (len+n) nm) h'):
  aX P (Builtin.append_ #[sT,xT] ty #[.slice p len cap,.slice q n cq]) h K:=by
 obtain⟨i,hi,rfl,rfl,hz⟩:=T.i;exact OR T.u hx hi hz T.zs own hq hd OS hb fJ hk
end
section
open Go.RowKit
def Ri (P:Program) (h:aj):Nat->TypeId->List Value->Prop
 |0,_,_=>False
 |n+1,t,cs=>
  match P.underlying t with
  |some .bool=> ∃b,cs= [.bool b]
  |some (.int k)=> ∃a,cs= [.int k a]/\(Lit.int k a).wf=true
  |some .string=> ∃s,cs= [.string s]/\s.size<=maxLen
  |some (.pointer e)=>cs= [.pointer none]\/∃a Iw,cs= [.pointer (some a)]/\Iw.length=P.cellsOf e/\fF a Iw 0 h/\Ri P h n e Iw
  |some (.slice e)=>cs= [.slice none 0 0]\/∃a len cap,cs= [.slice (some a) len cap]/\len<=cap/\cap<=maxLen/\∀i,i<len->∃Iw,Iw.length=P.cellsOf e/\fF (a.add (i*P.cellsOf e)) Iw 0 h/\Ri P h n e Iw
  |some (.struct fs)=>cs.length=P.cellsOf t/\∀f∈fs.toList,Ri P h n f.type ((cs.drop f.offset).take (P.cellsOf f.type))
  |some (.array m e)=>cs.length=P.cellsOf t/\∀i,i<m->Ri P h n e ((cs.drop (i*P.cellsOf e)).take (P.cellsOf e))
  |_=>True
theorem JN {w:World} {base:Nat} {a:Addr} {n:Nat} {cs:List Value} (h:w.cells? base a n=some cs):cs.length=n/\fF a cs 0 w.heap:=by
 obtain⟨_,hl,hc⟩:=World.cells?_some h;refine⟨hl,sU.2 λj v hj=> ?_⟩;have Cg:j<cs.length:=(aG.1 hj).1;have:=hc j (by omega);rw[uE,hj] at this;rw[cf];exact this
theorem uR {H:Type} {enc:TypeId×Value->H} {P:Program} {w:World} {base:Nat} {spare:Nat->Bool} {held:Bool} :
  ∀(fuel:Nat) (t:TypeId) (cs:List Value) (x:DataW H×List MemPlace),DataW.trod enc P w base spare held fuel t cs=some x->Ri P w.heap fuel t cs
 |0,_,_,_,h=>by simp[DataW.trod] at h
 |fuel+1,t,cs,x,h=>by
  unfold Ri;cases hd:P.underlying t with
  |none=>trivial
  |some d=>
   cases d<;>simp only<;>first|trivial|skip
   case bool=>obtain⟨b,hc,_⟩:=DataW.trod_bool hd h;exact⟨b,hc⟩
   case int k=>obtain⟨n,hc,_,hw⟩:=DataW.trod_int hd h;exact⟨n,hc,hw⟩
   case string=>obtain⟨s,hc,_,hw⟩:=DataW.trod_string hd h;exact⟨s,hc,hw⟩
   case pointer e=>
    rcases DataW.trod_pointer hd h with⟨hc,_⟩|⟨a,Iw,y,n,hn,hc,_,ak,hy⟩
    ·exact .inl hc
    ·obtain⟨hl,hh⟩:=JN ak;obtain rfl:n=fuel:=by omega
     exact .inr ⟨a,Iw,hc,hl,hh,uR n e Iw y hy⟩
   case slice e=>
    rcases DataW.trod_slice hd h with⟨hc,_⟩|⟨a,len,cap,elems,rest,n,hn,hc,_,_,hl,hm,hlen,hel,_⟩
    ·exact .inl hc
    ·obtain rfl:n=fuel:=by omega
     refine .inr ⟨a,len,cap,hc,hl,hm,λi hi=> ?_⟩;have h1:=hel i hi;rw[au (by omega)] at h1;cases ak:w.cells? base (a.add (i*P.cellsOf e)) (P.cellsOf e) with
     |none=>rw[ak] at h1;cases h1
     |some Iw=>
      rw[ak] at h1;obtain⟨hl',hh⟩:=JN ak;exact⟨Iw,hl',hh,uR n e Iw _ h1⟩
   case struct fs=>
    obtain⟨xs,n,hn,_,hl,hxs,hf⟩:=DataW.trod_struct hd h;obtain rfl:n=fuel:=by omega
    refine⟨hl,λf hm=> ?_⟩;obtain⟨i,hi⟩:=bH hm;have hi':fs[i]? =some f:=by simpa using hi
    have h1:=hf i f hi';have jc:i<xs.length:=by rw[hxs];exact(Array.getElem?_eq_some_iff.1 hi').1
    rw[au jc] at h1;exact uR n _ _ _ h1
   case array m e=>
    obtain⟨xs,n,hn,_,hl,hxs,hf⟩:=DataW.trod_array hd h;obtain rfl:n=fuel:=by omega
    refine⟨hl,λi hi=> ?_⟩;have h1:=hf i hi;rw[au (by omega)] at h1;exact uR n _ _ _ h1
def Ew (P:Program) (h:aj) (t:TypeId) (v:Value):Prop:= ∃n,Ri P h n t v.cells.toList
theorem Ew.of {H:Type} {enc:TypeId×Value->H} {P:Program} {w:World} {base:Nat} {spare:Nat->Bool} {held:Bool} {t:TypeId} {v:Value} {d:DataW H} {ps:List MemPlace}
  (h:DataW.Trod enc P w base spare held t v d ps):Ew P w.heap t v:=by
 obtain⟨n,hn⟩:=h;exact⟨n,uR n _ _ _ hn⟩
theorem abM {w w':World} (hf:Fr (λ_=>False) w.heap w'.heap) (hs:iC w w'):Below w.heap.size w w':=
 ⟨hs.1,hs.2.2,hs.2.1,hf.1,λk hk=>hf.2 k hk id⟩
def abN (P:Program) (f:FuncId) (args:Array Value) (h:aj):Prop:=wE P f args h (λv h'=>v=.bool true/\Fr (λ_=>False) h h')
theorem abN.calls {P:Program} {f:FuncId} {args:Array Value} {w:World} (hl:abN P f args w.heap):Calls P f args w λe w'=>e=.returned (.bool true)/\Below w.heap.size w w':=
 (hl w rfl).mono λ_ _ ⟨_,he,⟨hv,hf⟩,hs⟩=>⟨by rw[he,hv],abM hf hs⟩
theorem wf_u8 {a:Int} (h:(Lit.int .u8 a).wf=true):0<=a/\a<=255:=by
 simpa[Lit.wf,IntKind.min,IntKind.max,IntKind.bits,IntKind.signed] using h
section
variable {P : Program} {h : aj} {t : TypeId} {v : Value}
theorem Ew.int {k:IntKind} (ht:P.underlying t=some (.int k)) (hv:Ew P h t v) (hc: ∀a,v.cells.toList= [.int k a]->v=.int k a): ∃a,v=.int k a/\(Lit.int k a).wf=true:=by
 obtain⟨n,hn⟩:=hv;cases n with
 |zero=>exact hn.elim
 |succ n=>
  unfold Ri at hn;rw[ht] at hn;obtain⟨a,ha,hw⟩:=hn;exact⟨a,hc a ha,hw⟩
theorem OT {h:aj} {a:Addr} {cs ds:List Value} :fF a (cs++ds) 0 h↔fF a cs 0 h/\fF (a.add cs.length) ds 0 h:=by
 simp only[sU,cf];constructor
 ·intro hh;refine⟨λj v hj=>hh j v ?_,λj v hj=> ?_⟩
  ·rw[dy (aG.1 hj).1];exact hj
  ·rw[add_add];refine hh _ v ?_;rw[dq (by omega)];simpa using hj
 ·rintro⟨h1,h2⟩ j v hj;by_cases jc:j<cs.length
  ·rw[dy jc] at hj;exact h1 j v hj
  ·rw[dq (by omega)] at hj;have:=h2 _ v hj;rw[add_add] at this;rwa[show cs.length+(j - cs.length)=j by omega] at this
theorem gW {α:Type} (enc:α->List Value) (sz:Nat) (re: ∀x,(enc x).length=sz): ∀xs:List α,(xs.flatMap enc).length=xs.length*sz
 | []=>by simp
 |x::xs=>by
  rw[iT,aF,re,gW enc sz re xs,bj,gk];omega
theorem Dk {α:Type} (enc:α->List Value) (sz:Nat) (re: ∀x,(enc x).length=sz): ∀(xs:List α) (i:Nat) (x:α),xs[i]? =some x->∀j v,(enc x)[j]? =some v->(xs.flatMap enc)[i*sz+j]? =some v
 | [],i,x,h,_,_,_=>by simp at h
 |y::xs,0,x,h,j,v,hj=>by
  simp at h;subst h;have jc:=(aG.1 hj).1;rw[iT,Nat.zero_mul,cf,dy jc];exact hj
 |y::xs,i+1,x,h,j,v,hj=>by
  have:=Dk enc sz re xs i x (by simpa using h) j v hj;rw[iT,dq (by rw[re,gk];omega),re];rwa[show(i+1)*sz+j - sz=i*sz+j by rw[gk];omega]
theorem Ew.slice {α:Type} {e:TypeId} {p:bV} {len cap:Nat} (enc:α->List Value) (sz:Nat) (Q:α->Prop) (JB:P.cellsOf e=sz) (re: ∀x,(enc x).length=sz)
  (afi: ∀n Iw,Iw.length=sz->Ri P h n e Iw->∃x,Iw=enc x/\Q x) (ht:P.underlying t=some (.slice e)) (hv:Ew P h t (.slice p len cap)):
  ∃xs:List α,xs.length=len/\len<=cap/\cap<=maxLen/\Row h p (xs.flatMap enc)/\∀x∈xs,Q x:=by
 obtain⟨n,hn⟩:=hv;cases n with
 |zero=>exact hn.elim
 |succ n=>
  unfold Ri at hn;rw[ht] at hn;rcases hn with hc|⟨a,arM,nm,hc,hl,hm,hel⟩
  ·simp[Value.cells] at hc;obtain⟨rfl,rfl,rfl⟩:=hc;exact⟨[],rfl,bh _,cp _,.inl rfl,λ_ hx=>by cases hx⟩
  ·simp[Value.cells] at hc;obtain⟨rfl,rfl,rfl⟩:=hc;have key: ∀k,k<=len->∃xs:List α,xs.length=k/\fF a (xs.flatMap enc) 0 h/\∀x∈xs,Q x:=by
    intro k;induction k with
    |zero=>intro _;exact⟨[],rfl,trivial,λ_ hx=>by cases hx⟩
    |succ k ih=>
     intro hk;obtain⟨xs,hx1,hx2,hx3⟩:=ih (by omega);obtain⟨Iw,h1,h2,h3⟩:=hel k (by omega);obtain⟨x,rfl,hq⟩:=afi n Iw (by rw[h1,JB]) h3;refine⟨xs++ [x],by simp[hx1],?_,?_⟩
     ·rw[dJ,OT];refine⟨hx2,?_⟩;rw[gW enc sz re,hx1,<-JB];simpa using h2
     ·intro y hy;rcases bU.1 hy with hy|hy
      ·exact hx3 y hy
      ·simp at hy;subst hy;exact hq
   obtain⟨xs,hx1,hx2,hx3⟩:=key len (bh _);exact⟨xs,hx1,hl,hm,.inr ⟨a,rfl,hx2⟩,hx3⟩
theorem Ri.int {k:IntKind} {n:Nat} {cs:List Value} (ht:P.underlying t=some (.int k)) (hr:Ri P h n t cs): ∃a,cs= [.int k a]/\(Lit.int k a).wf=true:=by
 cases n with
 |zero=>exact hr.elim
 |succ n=>unfold Ri at hr;rw[ht] at hr;exact hr
theorem Ri.bool {n:Nat} {cs:List Value} (ht:P.underlying t=some .bool) (hr:Ri P h n t cs): ∃b,cs= [.bool b]:=by
 cases n with
 |zero=>exact hr.elim
 |succ n=>unfold Ri at hr;rw[ht] at hr;exact hr
end
theorem aK.of {α:Type} {F:α} {B:α->Prop} (h: ∀J,J=F->B J):aK F B:=h F rfl
theorem Ew.ints {P:Program} {h:aj} {t e:TypeId} {k:IntKind} {p:bV} {len cap:Nat} (he:P.cellsOf e=1) (hk:P.underlying e=some (.int k)) (ht:P.underlying t=some (.slice e)) (hv:Ew P h t (.slice p len cap)):
  ∃xs:List Int,xs.length=len/\Row h p (xs.map (.int k ·))/\∀x∈xs,(Lit.int k x).wf=true:=by
 obtain⟨xs,h1,_,_,h2,h3⟩:=Ew.slice (e:=e) (λx:Int=> [Value.int k x]) 1 (λx=>(Lit.int k x).wf=true) he (λ_=>rfl) (λn Iw _ hr=>Ri.int hk hr) ht hv;refine⟨xs,h1,?_,h3⟩;have:xs.flatMap (λx:Int=> [Value.int k x])=xs.map (.int k ·):=by
  clear h1 h2 h3;induction xs with
  |nil=>rfl
  |cons x xs ih=>rw[iT,ih];rfl
 rwa[this] at h2
theorem Uc {h:aj} {p:bV} {k:IntKind} {xs:List Int} (hr:Row h p (xs.map (.int k ·))) {i:Nat} (hi:i<xs.length): ∃a,p=some a/\ak h (a.add (i*1))=some (.int k (xs.getD i 0)):=by
 have hc:(xs.map (Value.int k ·))[i]? =some (.int k (xs.getD i 0)):=by simp[hi]
 obtain⟨a,rfl⟩:=hr.some (λe=>by rw[e] at hc;simp at hc);exact⟨a,rfl,by rw[cO];exact hr.cell hc⟩
theorem abO {xs:List Int} {i:Nat} (hi:i<xs.length):xs.getD i 0∈xs:=by
 rw[ba,au hi];exact fx hi
end
def bc (bs:List UInt8):List Value:=bs.map λb=> .int .u8 (b.toNat:Int)
theorem sV (bs:List UInt8):(bc bs).length=bs.length:=by simp[bc]
theorem sw (bs cs:List UInt8):bc (bs++cs)=bc bs++bc cs:=by simp[bc]
theorem afj (bs:List UInt8) (n:Nat):(bc bs).take n=bc (bs.take n):=by simp[bc,List.map_take]
theorem afk (bs:List UInt8) (n:Nat):(bc bs).drop n=bc (bs.drop n):=by simp[bc,List.map_drop]
theorem Ch (bs:List UInt8): ∀v∈bc bs,jg v=true:=by
 intro v hv;simp only[bc,bn] at hv;obtain⟨b,_,rfl⟩:=hv;rfl
def str (bs:List UInt8):ByteArray:=⟨bs.toArray⟩
theorem HD (b:ByteArray): ∀(k i:Nat) (r:List UInt8),b.size - i=k->i<=b.size->ByteArray.toList.loop b i r=r.reverse++b.data.toList.drop i
 |0,i,r,hk,hi=>by
  have:i=b.size:=by omega
  unfold ByteArray.toList.loop;rw[dM];have:b.data.toList.length<=i:=by rw[fU];exact Nat.le_of_eq this.symm
  rw[fM this];simp
 |k+1,i,r,hk,hi=>by
  have jc:i<b.size:=by omega
  unfold ByteArray.toList.loop;rw[ag jc,HD b k (i+1) _ (by omega) (by omega)];have hl:i<b.data.toList.length:=by rw[fU];exact jc
  rw[db hl];have:b.get! i=b.data.toList[i]:=by
   show b.data[i]! =_;rw[getElem!_pos b.data i jc];simp
  rw[this];simp
theorem toList_data (b:ByteArray):b.toList=b.data.toList:=by
 unfold ByteArray.toList;rw[HD b _ 0 [] rfl (cp _)];simp
theorem E0 (bs:List UInt8):(str bs).toList=bs:=by rw[toList_data];simp[str]
theorem abP (s:ByteArray):str s.data.toList=s:=by cases s;simp[str]
section
variable {P : Program}
theorem Rj (h:aj): ∀(bs:List UInt8) (s:ByteArray),rd P (forIn (bc bs).toArray s λc s=>(do
   let .int .u8 n:=c|stuck "bytesToString: byte expected"
   pure (ForInStep.yield (s.push (UInt8.ofNat n.toNat))))) h=some ⟨s.data++bs.toArray⟩:=by
 intro bs;simp only[List.forIn_toArray];induction bs with
 |nil=>intro s;simp only[bc,List.map_nil,List.forIn_nil];show some s=_;cases s;simp
 |cons b bs ih=>
  intro s;have e:bc (b::bs)=.int .u8 (b.toNat:Int)::bc bs:=rfl;rw[e,List.forIn_cons];rw[bu _ _ h (ForInStep.yield (s.push b)) (by show some (ForInStep.yield (s.push (UInt8.ofNat b.toNat)))=_;simp)];show rd P (forIn (bc bs) (s.push b) _) h=_;rw[ih];simp[ByteArray.push]
theorem abQ {sT dT e:TypeId} {h:aj} {p:bV} {c n:Nat} {bs:List UInt8} (hs:P.underlying sT=some (.slice e)) (he:P.underlying e=some (.int .u8)) (hd:P.underlying dT=some .string)
  (hr:Row h p (bc bs)) (hn:n=bs.length):DQ P sT dT (.slice p n c) h (str bs):=by
 subst hn;unfold DQ convert;rw[bu _ _ _ _ (bE hs),bu _ _ _ _ (bE hd)];show rd P (underlying e>>=_) h=_;rw[bu _ _ _ _ (bE he)];show rd P (Conv.bytesToString (.slice p bs.length c)) h=_;cases p with
 |none=>
  have:bs= []:=by
   rcases hr with hr|⟨a,e,_⟩
   ·cases bs with
    |nil=>rfl
    |cons b bs=>cases hr
   ·cases e
  subst this;rfl
 |some a=>
  have hh:fF a (bc bs) 0 h:=by
   rcases hr with hr|⟨a',e,hh⟩
   ·rw[hr];trivial
   ·cases e;exact hh
  have hl:rd P (loadCells a bs.length) h=some (bc bs).toArray:=by
   unfold loadCells;rw[<-sV,nQ (bc bs) 0 #[] h hh];simp
  show rd P (loadCells a bs.length>>=λcells=>(forIn cells ByteArray.empty λc s=>(do
   let .int .u8 n:=c|stuck "bytesToString: byte expected"
   pure (ForInStep.yield (s.push (UInt8.ofNat n.toNat)))))>>=λs=>pure (Value.string s)) h=_
  rw[bu _ _ _ _ hl,bu _ _ _ _ (Rj h bs ByteArray.empty)];show some (Value.string ⟨ByteArray.empty.data++bs.toArray⟩)=_;have:(⟨ByteArray.empty.data++bs.toArray⟩:ByteArray)=str bs:=by
   unfold str;congr 1;show #[]++bs.toArray=bs.toArray;simp
  rw[this]
theorem afl {t e:TypeId} {h:aj} {a:Addr} {n c:Nat} {K:iI} (hs:P.underlying t=some (.slice e)) (he:P.underlying e=some (.int .u8)) {cs:Array Value} {ct:TypeId} {f:Nat×Nat} (hb:h[a.block]? =some (.cells cs ct f))
  (hk: ∀h' f',h'[a.block]? =some (.cells cs ct f')->h'.size=h.size->(∀x,x≠a.block->h'[x]? =h[x]?)->K (.slice (some a) n c) h'):aX P (convert t t (.slice (some a) n c)) h K:=by
 unfold convert;refine bY (s:=underlying t) (bE hs) ?_;refine bY (s:=underlying t) (bE hs) ?_;show aX P (underlying e>>=_) h K;refine bY (s:=underlying e) (bE he) ?_;have ht:(t==t)=true:=by simp
 rw[ht];show aX P (markStringish a>>=λ_=>pure (.slice (some a) n c)) h K;rw[fa];unfold markStringish shape;have hsh:Ae h a.block=some (ct,cs.size):=by simp[Ae,hb]
 show aX P (match Ae h a.block with|some (_,n)=>freeze { block:=a.block,off:=n } 1|_=>pure ()) h _;rw[hsh];show K (.slice (some a) n c) (Ag h { block:=a.block,off:=cs.size } 1);unfold Ag;rw[dM];obtain⟨lo,hi⟩:=f;refine hk _ (if lo==hi then(cs.size,cs.size+1) else(min lo cs.size,max hi (cs.size+1))) ?_ (by simp) (λx hx=> ?_)
 ·simp[fE,hb]
 ·simp[fE,ie hx]
theorem Ew.bytes {h:aj} {t e:TypeId} {p:bV} {len cap:Nat} (he:P.cellsOf e=1) (hk:P.underlying e=some (.int .u8)) (ht:P.underlying t=some (.slice e)) (hv:Ew P h t (.slice p len cap)):
  ∃bs:List UInt8,bs.length=len/\Row h p (bc bs):=by
 obtain⟨xs,h1,h2,h3⟩:=Ew.ints he hk ht hv;refine⟨xs.map λx=>UInt8.ofNat x.toNat,by simpa using h1,?_⟩;have:bc (xs.map λx=>UInt8.ofNat x.toNat)=xs.map (.int .u8 ·):=by
  unfold bc;rw[fH];refine fW λx hx=> ?_
  have:=wf_u8 (h3 x hx);simp only[Function.comp,gV,Value.int.injEq,true_and];omega
 rw[this];exact h2
end
theorem uT (n:Nat):IntKind.wrap .u8 (n:Int)=((n%256:Nat):Int):=by
 show(n:Int)%256=_;omega
theorem Aq {n:Nat} (h:n<18446744073709551616):IntKind.wrap .u64 (n:Int)=(n:Int):=wrap_u64 (by omega) (by omega)
theorem al9 (n:Nat):IntKind.wrap .u8 ((BitVec.ofInt (IntKind.bits .u8) (IntKind.wrap .u8 (n:Int))|||BitVec.ofInt (IntKind.bits .u8) 128).toNat:Int)=((UInt8.ofNat (n%128+128)).toNat:Int):=by
 have key: ∀m:Fin 256,(((BitVec.ofInt 8 (m.val:Int)|||BitVec.ofInt 8 128).toNat%256:Nat))=m.val%128+128:=by decide
 rw[uT n,uT];have k:=key ⟨n%256,by omega⟩;simp only at k;have e:IntKind.bits .u8=8:=rfl;rw[e,k];rw[gV];omega
theorem ajD (c:UInt8):(IntKind.wrap .u8 ((BitVec.ofInt (IntKind.bits .u8) (c.toNat:Int) &&& BitVec.ofInt (IntKind.bits .u8) 128).toNat:Int)==0)=decide (c.toNat<128):=by
 have key: ∀m:Fin 256,(((((BitVec.ofInt 8 (m.val:Int) &&& BitVec.ofInt 8 128).toNat%256:Nat):Int))==0)=decide (m.val<128):=by decide
 rw[uT];exact key ⟨c.toNat,c.toNat_lt⟩
theorem ajE (c:UInt8):IntKind.wrap .u8 ((BitVec.ofInt (IntKind.bits .u8) (c.toNat:Int) &&& BitVec.ofInt (IntKind.bits .u8) 127).toNat:Int)=((c.toNat%128:Nat):Int):=by
 have key: ∀m:Fin 256,((BitVec.ofInt 8 (m.val:Int) &&& BitVec.ofInt 8 127).toNat%256:Nat)=m.val%128:=by decide
 rw[uT];exact bp (λx:Nat=>(x:Int)) (key ⟨c.toNat,c.toNat_lt⟩)
theorem ajF {n d i:Nat} (hn:n<2 ^ i) (hd:d*2 ^ i<18446744073709551616) (hi:i<=64):
  IntKind.wrap .u64 ((BitVec.ofInt (IntKind.bits .u64) (n:Int)|||BitVec.ofInt (IntKind.bits .u64) (IntKind.wrap .u64 ((d:Int)*2 ^ min (Int.toNat (i:Int)) (IntKind.bits .u64)))).toNat:Int)=((n+d*2 ^ i:Nat):Int):=by
 have e64:IntKind.bits .u64=64:=rfl;have hp:(0:Nat)<2 ^ i:=Nat.two_pow_pos i;rw[aL,e64,Nat.min_eq_left hi];have e1:((d:Int)*2 ^ i)=((d*2 ^ i:Nat):Int):=by simp
 rw[e1,Aq hd];have apP:n<18446744073709551616:=by
  have:(2:Nat) ^ i<=2 ^ 64:=iO (by omega) hi;omega
 have e2: ∀m:Nat,m<18446744073709551616->(BitVec.ofInt 64 (m:Int)).toNat=m:=λm hm=>by
  rw[BitVec.toNat_ofInt];omega
 rw[BitVec.toNat_or,e2 n apP,e2 _ hd];have e3:n|||d*2 ^ i=n+d*2 ^ i:=by
  rw[Nat.or_comm,je,<-Nat.two_pow_add_eq_or_of_lt hn d];omega
 rw[e3];refine Aq ?_;have hdiv:d<2 ^ (64 - i):=by
  have:(18446744073709551616:Nat)=2 ^ (64 - i)*2 ^ i:=by rw[<-Nat.pow_add,Nat.sub_add_cancel hi]
  rw[this] at hd;exact Nat.lt_of_mul_lt_mul_right hd
 have:(d+1)*2 ^ i<=2 ^ (64 - i)*2 ^ i:=df _ hdiv;rw[<-Nat.pow_add,Nat.sub_add_cancel hi,gk] at this;omega
theorem apQ {n:Nat} :Int.fdiv (n:Int) (2 ^ min (Int.toNat 7) (IntKind.bits .u64))=((n/128:Nat):Int):=by
 show Int.fdiv (n:Int) 128=_;rw[Int.fdiv_eq_ediv_of_nonneg _ (by omega)];omega
end Go.Den
namespace Go.Den
structure Step (S:Nat->Prop) (h:aj) (S':Nat->Prop) (h':aj):Prop where
 fr:Fr S h h'
 new: ∀c,S' c->S c\/h.size<=c
theorem Step.refl (S:Nat->Prop) (h:aj):Step S h S h:=⟨Fr.refl _ _,λ_=> .inl⟩
theorem Step.trans {S S1 S2:Nat->Prop} {h h1 h2:aj} (a:Step S h S1 h1) (b:Step S1 h1 S2 h2):Step S h S2 h2:=
 ⟨a.fr.trans b.fr (λ_ _=>id) (λc hc hx=>(a.new c hx).resolve_right (by omega)),λc hc=>by
  rcases b.new c hc with hc|hc
  ·exact a.new c hc
  ·have:=a.fr.1;exact .inr (by omega)⟩
theorem Step.apart {S S' Q:Nat->Prop} {h h':aj} (st:Step S h S' h') (hd: ∀c,S c->¬Q c) (hq: ∀c,Q c->c<h.size): ∀c,S' c->¬Q c:=λc hc hx=>by
 rcases st.new c hc with h1|h1
 ·exact hd c h1 hx
 ·have:=hq c hx;omega
theorem Fr.fresh {S:Nat->Prop} {h h1 h2:aj} (f:Fr (λ_=>False) h h1) (g:Fr S h1 h2) (hs: ∀c,S c->h.size<=c):Fr (λ_=>False) h h2:=
 f.step g λc hc hx=>by have:=hs c hx;omega
theorem aad {h:aj} {c:Array Value} {t:TypeId} {f:Nat×Nat} {i:Nat} {v:Value} :yX (h.push (.cells c t f)) (AA h.size i) v=h.push (.cells (c.setIfInBounds i v) t f):=by
 apply Array.ext
 ·simp[yX]
 ·intro j h1 h2;have e: ∀(x:aj) (hx:j<x.size),x[j]? =some x[j]:=λx hx=>Array.getElem?_eq_getElem hx
  have:(yX (h.push (.cells c t f)) (AA h.size i) v)[j]? =(h.push (.cells (c.setIfInBounds i v) t f))[j]? :=by
   by_cases q:j=h.size
   ·subst q;rw[Gy cA,cA]
   ·rw[Et q];rw[iA,iA,ai q,ai q]
  rw[e _ h1,e _ h2] at this;exact bz this
theorem HE {h:aj} {c:Array Value} {t:TypeId} {i:Nat} {v:Value} {K:aj->Prop} (hi:i<c.size) (hk:K (h.push (.cells (c.setIfInBounds i v) t (0,0)))):aH (h.push (.cells c t (0,0))) (AA h.size i) v K:=by
 refine⟨?_,xZ cA,?_⟩
 ·rw[wk cA];simp[hi]
 ·rintro _ rfl;rw[aad];exact hk
theorem cY {h:aj} {o:Obj} {K:Nat->aj->Prop} (hk:K h.size (h.push o)):aV h o K:=by
 rintro b h' rfl rfl;exact hk
section
variable {P : Program}
theorem qb {sT xT ty elem eT t:TypeId} {sz bytes:Nat} {z:Value} {h:aj} {p:bV} {len cap:Nat} {cs:List Value} {xs:Array Value} {K:iI}
  (T:Ap P sT elem sz bytes z) (hx:P.underlying xT=some (.slice eT))
  (own:iS h p len cap sz cs) (hxs:xs.size=sz) (OS: ∀v∈xs.toList,jg v=true) (hb:(len+1)*bytes<=70368744177664) (fJ:len+1<=9223372036854775807)
  (hk: ∀p' nm h',iS h' p' (len+1) nm sz (cs++xs.toList)->Fr (aQ p) h h'->(∀c,aQ p' c->aQ p c\/h.size<=c)->K (.slice p' (len+1) nm) h'):
  aV h (.cells xs t) λb h1=>aX P (Builtin.append_ #[sT,xT] ty #[.slice p len cap,.slice (some (AA b 0)) 1 1]) h1 K:=by
 refine cY ?_;have f1:Fr (λ_=>False) h (h.push (.cells xs t)):=Fr.push _ _;refine fR T hx (own.frame f1 (λ_ _=>id)) (ds:=xs.toList) (.inr ⟨_,rfl,lS cA (λj v hj=>by rw[cf];simpa using hj)⟩) (by simp[hxs]) OS hb fJ ?_;intro p' nm h' o1 _ f2 g;exact hk p' nm h' o1 (Fr.no f1 f2) (λc hc=>(g c hc).imp id (λh2=>by simp at h2;omega))
end
end Go.Den
namespace Go.Den
structure Up (h0:aj) (S:Nat->Prop) (h:aj):Prop where
 fr:Fr (λ_=>False) h0 h
 ge: ∀c,S c->h0.size<=c
theorem Up.step {h0 h h':aj} {S S':Nat->Prop} (u:Up h0 S h) (st:Step S h S' h'):Up h0 S' h':=
 ⟨u.fr.fresh st.fr u.ge,λc hc=>by
  rcases st.new c hc with h1|h1
  ·exact u.ge c h1
  ·have:=u.fr.1;omega⟩
theorem Up.MI {h0 h h':aj} {S Q:Nat->Prop} (u:Up h0 S h) (f:Fr Q h h') (hq: ∀c,Q c->S c):Up h0 S h':=⟨u.fr.fresh f (λc hc=>u.ge c (hq c hc)),u.ge⟩
theorem rW {h:aj} {cs:List Value} {t:TypeId} :Row (h.push (.cells cs.toArray t)) (some (AA h.size 0)) cs:=.inr ⟨_,rfl,lS cA (λj v hj=>by rw[cf];simpa using hj)⟩
theorem jz (a:Addr):a.add 0=a:=by simp[Addr.add]
theorem wo (a:Addr) (n:Nat):(a.add n).block=a.block:=by unfold Addr.add;split<;>rfl
theorem qO {h:aj} {p:bV} {cs:List Value} (hr:Row h p cs) (hn:cs≠ []) {x:Nat} (hx:aQ p x):x<h.size:=by
 obtain⟨a,rfl,rfl⟩:=hx;rcases hr with hh|⟨a',e,hh⟩
 ·exact absurd hh hn
 ·cases e;cases cs with
  |nil=>exact absurd rfl hn
  |cons c cs=>
   obtain⟨_,_,_,hb,_⟩:=JJ hh.1;have:=aI hb;rwa[wo] at this
theorem Row.sub {h:aj} {p:bV} {cs:List Value} (hr:Row h p cs) {cap l u sz:Nat} (h1:l<=u) (h2:u<=cap):Row h (da p cap l sz) ((cs.take (u*sz)).drop (l*sz)):=by
 by_cases hc:cap=l
 ·left;have:u=l:=by omega
  subst this;rw[List.drop_eq_nil_iff,bR];exact Nat.min_le_left _ _
 ·unfold da;rw[ai hc];rcases hr with rfl|⟨a,rfl,hh⟩
  ·left;simp
  ·refine .inr ⟨a.add (l*sz),rfl,sU.2 λj v hj=> ?_⟩;rw[add_add,cf];rw[iM,dt] at hj;split at hj
   ·have:=sU.1 hh (l*sz+j) v hj;rwa[cf] at this
   ·cases hj
structure Ft where
 M:Nat->Prop
 D:Nat->Prop
structure bN (F:Ft) (h:aj) (F':Ft) (h':aj):Prop where
 fr:Fr F.M h h'
 rh: ∀c,F'.M c->F.M c\/h.size<=c
 wL: ∀c,F'.D c->F.D c\/h.size<=c
 Ix: ∀c,F.D c->F'.D c
theorem bN.refl (F:Ft) (h:aj):bN F h F h:=⟨Fr.refl _ _,λ_=> .inl,λ_=> .inl,λ_=>id⟩
theorem bN.trans {F F1 F2:Ft} {h h1 h2:aj} (a:bN F h F1 h1) (b:bN F1 h1 F2 h2):bN F h F2 h2:=by
 have z:=a.fr.1;refine⟨a.fr.trans b.fr (λ_ _=>id) (λc hc hx=>(a.rh c hx).resolve_right (by omega)),λc hc=> ?_,λc hc=> ?_,λc hc=>b.Ix c (a.Ix c hc)⟩
 ·rcases b.rh c hc with hc|hc
  ·exact a.rh c hc
  ·exact .inr (by omega)
 ·rcases b.wL c hc with hc|hc
  ·exact a.wL c hc
  ·exact .inr (by omega)
theorem bN.E9 {F:Ft} {h h':aj} (f:Fr F.M h h'):bN F h F h':=⟨f,λ_=> .inl,λ_=> .inl,λ_=>id⟩
theorem bN.nJ {F:Ft} {h h':aj} (f:Fr (λ_=>False) h h'):bN F h F h':=.E9 (f.mono λ_ _=>False.elim)
theorem bN.no {F F1:Ft} {h h1 h2:aj} (f:Fr (λ_=>False) h h1) (b:bN F h1 F1 h2):bN F h F1 h2:=(bN.nJ f).trans b
theorem bN.on {F F1:Ft} {h h1 h2:aj} (a:bN F h F1 h1) (f:Fr (λ_=>False) h1 h2):bN F h F1 h2:=a.trans (bN.nJ f)
theorem bN.apart {F F':Ft} {Q:Nat->Prop} {h h':aj} (st:bN F h F' h') (hd: ∀c,F.M c\/F.D c->¬Q c) (hq: ∀c,Q c->c<h.size): ∀c,F'.M c\/F'.D c->¬Q c:=λc hc hx=>by
 have:=hq c hx;rcases hc with hc|hc
 ·rcases st.rh c hc with h1|h1
  ·exact hd c (.inl h1) hx
  ·omega
 ·rcases st.wL c hc with h1|h1
  ·exact hd c (.inr h1) hx
  ·omega
structure UpF (h0:aj) (F:Ft) (h:aj):Prop where
 fr:Fr (λ_=>False) h0 h
 ge: ∀c,F.M c\/F.D c->h0.size<=c
theorem UpF.step {h0 h h':aj} {F F':Ft} (u:UpF h0 F h) (st:bN F h F' h'):UpF h0 F' h':=by
 have z:=u.fr.1;refine⟨u.fr.fresh st.fr (λc hc=>u.ge c (.inl hc)),λc hc=> ?_⟩;rcases hc with hc|hc
 ·rcases st.rh c hc with h1|h1
  ·exact u.ge c (.inl h1)
  ·omega
 ·rcases st.wL c hc with h1|h1
  ·exact u.ge c (.inr h1)
  ·omega
theorem UpF.on {h0 h h':aj} {F:Ft} (u:UpF h0 F h) (f:Fr (λ_=>False) h h'):UpF h0 F h':=⟨u.fr.tt f,u.ge⟩
theorem Ci {b:Nat} {t:TypeId} : ∀(vs:List Value) (i:Nat) (h:aj) (c:Array Value) (K:aj->Prop),h[b]? =some (.cells c t (0,0))->i+vs.length<=c.size->vs.all jg=true->
  (∀h' c',h'[b]? =some (.cells c' t (0,0))->c'.size=c.size->(∀j,j<i\/i+vs.length<=j->c'[j]? =c[j]?)->(∀j v,vs[j]? =some v->c'[i+j]? =some v)->h'.size=h.size->(∀x,x≠b->h'[x]? =h[x]?)->K h')->
  gY (AA b 0) vs i h K
 | [],i,h,c,K,hb,_,_,hk=>hk h c hb rfl (λ_ _=>rfl) (λj v hj=>by simp at hj) rfl (λ_ _=>rfl)
 |v::vs,i,h,c,K,hb,hl,hv,hk=>by
  rw[List.all_cons,aW] at hv;rw[bj] at hl;unfold gY;rw[hv.1];dsimp only;rw[kC,cf];refine bM hb (by omega) λh1 a1 s1 o1=> ?_
  refine Ci vs (i+1) h1 _ K a1 (by rw[Array.size_setIfInBounds];omega) hv.2 λh2 c2 b2 z2 q2 r2 s2 o2=>hk h2 c2 b2 (by rw[z2,Array.size_setIfInBounds]) (λj hj=> ?_) (λj u hj=> ?_) (by omega) (λx hx=>by rw[o2 x hx,o1 x hx])
  ·rw[bj] at hj;rw[q2 j (by omega),cM,dM]
  ·cases j with
   |zero=>
    simp only[eU,bF] at hj;subst hj;rw[Nat.add_zero,q2 i (by omega)];rw[cM,ag rfl,jy]
   |succ j=>
    have:=r2 j u (by simpa using hj);rwa[show i+1+j=i+(j+1) by omega] at this
theorem gG {h:aj} {b:Nat} {c:Array Value} {t:TypeId} {vs:List Value} {K:aj->Prop} (hb:h[b]? =some (.cells c t (0,0))) (hl:vs.length=c.size) (hv:vs.all jg=true)
  (hk: ∀h',h'[b]? =some (.cells vs.toArray t (0,0))->h'.size=h.size->(∀x,x≠b->h'[x]? =h[x]?)->K h'):gY (AA b 0) vs 0 h K:=by
 refine Ci vs 0 h c K hb (by omega) hv λh' c' b' z _ r s o=>hk h' ?_ s o
 have:c'=vs.toArray:=by
  apply Array.ext'
  apply im
  intro j;by_cases hj:j<vs.length
  ·have e:=au hj;have:=r j _ e;rw[cf] at this;rw[eg,this];exact e.symm
  ·rw[eH (by rw[fU];omega),eH (by simpa using hj)]
 rw[<-this];exact b'
theorem kW {h:aj} {c:Array Value} {t:TypeId} {vs:List Value} {K:Nat->aj->Prop} (hl:vs.length=c.size) (hv:vs.all jg=true)
  (hk: ∀b h',b=h.size->h'[b]? =some (.cells vs.toArray t (0,0))->Fr (λ_=>False) h h'->K b h'):aV h (.cells c t) λb h0=>gY (AA b 0) vs 0 h0 (K b):=
 cY (gG cA hl hv λh' b' s o=>hk _ h' rfl b' ((Fr.push h _).fresh (S:=λy=>y=h.size) ⟨by omega,λy _ hn=>o y hn⟩ (λy e=>Nat.le_of_eq e.symm)))
end Go.Den
namespace Go.Den
structure BV where
 p:bV
 c:Nat
 b:List UInt8
abbrev BV.val (x:BV):Value:=.slice x.p x.b.length x.c
structure BV.ok (h:aj) (D:Nat->Prop) (x:BV):Prop where
 row:Row h x.p (bc x.b)
 own:x.b≠ []->∀c,aQ x.p c->D c
 cap:x.b.length<=x.c
theorem BV.ok.frame {h h':aj} {D Q:Nat->Prop} {x:BV} (H:x.ok h D) (f:Fr Q h h') (hn: ∀c,D c->¬Q c):x.ok h' D:=by
 refine⟨?_,H.own,H.cap⟩;by_cases hc:x.b= []
 ·rw[hc];exact .inl rfl
 ·exact H.row.frame f (λa e=>hn a.block (H.own hc a.block ⟨a,e,rfl⟩))
theorem BV.ok.mono {h:aj} {D D':Nat->Prop} {x:BV} (H:x.ok h D) (hd: ∀c,D c->D' c):x.ok h D':=⟨H.row,λhc c hx=>hd c (H.own hc c hx),H.cap⟩
theorem BV.wM {h:aj} {D:Nat->Prop} {p:bV} {c:Nat} {b:List UInt8} (o:iS h p b.length c 1 (bc b)) (hd: ∀x,aQ p x->D x):BV.ok h D ⟨p,c,b⟩:=⟨o.qa,λ_=>hd,o.le⟩
theorem sy (p:bV) (m sz:Nat):da p m 0 sz=p:=by
 unfold da;split
 ·rfl
 ·cases p with
  |none=>rfl
  |some a=>simp[Addr.add]
theorem iS.lu {h:aj} {a:Addr} {len cap sz:Nat} {α:Type} {enc:α->List Value} {xs:List α} (own:iS h (.some a) len cap sz (xs.flatMap enc)) (re: ∀x,(enc x).length=sz) {i:Nat} {x:α} (hi:xs[i]? =.some x):fF (a.add (i*sz)) (enc x) 0 h:=by
 refine sU.2 λj v hj=> ?_
 rw[cf,add_add];exact own.cell (Dk enc sz re xs i x hi j v hj)
theorem Row.lu {h:aj} {a:Addr} {sz:Nat} {α:Type} {enc:α->List Value} {xs:List α} (own:Row h (.some a) (xs.flatMap enc)) (re: ∀x,(enc x).length=sz) {i:Nat} {x:α} (hi:xs[i]? =.some x):fF (a.add (i*sz)) (enc x) 0 h:=by
 refine sU.2 λj v hj=> ?_
 rw[cf,add_add];exact own.cell (Dk enc sz re xs i x hi j v hj)
theorem iS.addr {h:aj} {p:bV} {len cap sz:Nat} {cs:List Value} (own:iS h p len cap sz cs) (hl:0<len): ∃b off,p=.some (AA b off):=by
 cases own with
 |nil _ h2 _ _=>omega
 |row b off c t hp _ _ _ _ _=>exact⟨b,off,hp⟩
theorem iS.pre {h:aj} {p:bV} {len cap sz:Nat} {cs:List Value} (own:iS h p len cap sz cs) {i:Nat} (hi:i<=len):iS h p i cap sz (cs.take (i*sz)):=by
 have:=own.sub (l:=0) (u:=i) (cp _) hi;rwa[sy,Nat.zero_mul,jU] at this
theorem wu {α:Type} (enc:α->List Value) (sz:Nat) (re: ∀x,(enc x).length=sz): ∀(xs:List α) (i:Nat),(xs.flatMap enc).take (i*sz)=(xs.take i).flatMap enc
 | [],i=>by simp
 |x::xs,0=>by simp
 |x::xs,i+1=>by
  rw[iT,jb,iT,List.take_append,re,bT (by rw[re,gk];omega),show(i+1)*sz - sz=i*sz by rw[gk];omega,wu enc sz re xs i]
theorem y8 {α:Type} (enc:α->List Value) (sz:Nat) (re: ∀x,(enc x).length=sz): ∀(xs:List α) (i:Nat),(xs.flatMap enc).drop (i*sz)=(xs.drop i).flatMap enc
 | [],i=>by simp
 |x::xs,0=>by simp
 |x::xs,i+1=>by
  rw[iT,List.drop_succ_cons,List.drop_append,re,fM (by rw[re,gk];omega),ft,show(i+1)*sz - sz=i*sz by rw[gk];omega,y8 enc sz re xs i]
theorem abR {α:Type} (enc:α->List Value) (sz:Nat) (re: ∀x,(enc x).length=sz): ∀(xs:List α) (i:Nat) (y:α),i<xs.length->∀(cs:List Value),cs.length=(xs.flatMap enc).length->(∀j,j/sz≠i\/sz=0->cs[j]? =(xs.flatMap enc)[j]?)->(∀j v,j<sz->(enc y)[j]? =some v->cs[i*sz+j]? =some v)->cs=(xs.set i y).flatMap enc:=by
 intro xs i y hi cs hl h1 h2;apply im
 intro j;by_cases JB:sz=0
 ·rw[h1 j (.inr JB)];have e1: ∀zs:List α,zs.flatMap enc= []:=λzs=>by
   have:=gW enc sz re zs;rw[JB,Nat.mul_zero] at this;exact List.eq_nil_of_length_eq_zero this
  rw[e1,e1]
 have Ud:0<sz:=by omega
 by_cases hj:j/sz=i
 ·have hjm:j=i*sz+j%sz:=by rw[<-hj,je];exact(Nat.div_add_mod j sz).symm
  have hm:=Nat.mod_lt j Ud;have hy:(enc y)[j%sz]? =some ((enc y)[j%sz]'(by rw[re];exact hm)):=au _;have a:=h2 _ _ hm hy;have b:=Dk enc sz re (xs.set i y) i y (by simp[hi]) _ _ hy;rw[<-hjm] at a b;rw[a,b]
 ·rw[h1 j (.inl hj)];by_cases Cg:j/sz<xs.length
  ·have hjm:j=(j/sz)*sz+j%sz:=by rw[je];exact(Nat.div_add_mod j sz).symm
   have hm:=Nat.mod_lt j Ud;have hx:xs[j/sz]? =some (xs[j/sz]):=au Cg;have hx':(xs.set i y)[j/sz]? =some (xs[j/sz]):=by rw[eJ,ai (λe=>hj e.symm)];exact hx
   have hy:(enc xs[j/sz])[j%sz]? =some ((enc xs[j/sz])[j%sz]'(by rw[re];exact hm)):=au _;have a:=Dk enc sz re xs _ _ hx _ _ hy;have b:=Dk enc sz re (xs.set i y) _ _ hx' _ _ hy;rw[<-hjm] at a b;rw[a,b]
  ·have hge:xs.length*sz<=j:=by
    have:=(Nat.le_div_iff_mul_le Ud).1 (Nat.le_of_not_lt Cg);exact this
   rw[eH (by rw[gW enc sz re];exact hge),eH (by rw[gW enc sz re,eX];exact hge)]
section
variable {P : Program}
theorem MJ {sT elem ty:TypeId} {sz bytes:Nat} {z:Value} {h:aj} {p:bV} {len cap i:Nat} {cs:List Value} {K:iI} (T:Ap P sT elem sz bytes z) (OS: ∀v∈z.cells.toList,jg v=true)
  (own:iS h p len cap sz cs) (hi:i<=len) (hk: ∀h',iS h' p i cap sz (cs.take (i*sz))->Fr (aQ p) h h'->K (.tuple #[]) h'):aX P (Builtin.clear_ #[sT] ty #[.slice (da p cap i sz) (len - i) (cap - i)]) h K:=by
 have fin:K (.tuple #[]) h:=hk h (own.pre hi) (Fr.refl _ _);obtain⟨inf,apR,JB,_,hz⟩:=T.i;unfold Builtin.clear_;show aX P (underlying sT>>=_) h K;refine bY (s:=underlying sT) (bE T.u) ?_;cases own with
 |nil hp hl hc BG=>
  subst hp;have:da none cap i sz=none:=by unfold da;split<;>rfl
  rw[this];exact fin
 |row b off c t hp hb hl hc hlen BG=>
  subst hp;by_cases MK:len - i=0
  ·rw[MK];cases hq:da (some (AA b off)) cap i sz with
   |none=>exact fin
   |some a=>exact fin
  ·obtain⟨n,hn⟩: ∃n,len - i=n+1:=⟨len - i - 1,by omega⟩;have hci:cap≠i:=by omega
   have hb0:da (some (AA b off)) cap i sz=some ⟨b,off+i*sz,none⟩:=by
    unfold da;rw[ai hci];show some (((AA b off):Addr).add (i*sz))=_;rw[kC]
   rw[hb0,hn];show aX P (zeroValue elem>>=λz=>storeCells ⟨b,off+i*sz,none⟩ (Builtin.zeroCells z.cells (n+1)).toList>>=λ_=>pure (Value.tuple #[])) h K;refine bY (s:=zeroValue elem) (oM apR hz) ?_;rw[fa];have hzs:=T.zs;have hzl:(Builtin.zeroCells z.cells (n+1)).toList.length=(n+1)*sz:=by simp[Builtin.zeroCells,hzs]
   have nR:off+i*sz+(n+1)*sz<=off+cap*sz:=by
    rw[<-hn,Nat.sub_mul];have m1:i*sz<=len*sz:=df _ hi;have m2:len*sz<=cap*sz:=df _ hl;omega
   refine Eu (c:=c) (off:=off+i*sz) _ 0 h b t _ ?_ hb (by rw[hzl];omega) ?_
   ·intro v hv;simp only[Builtin.zeroCells,Array.toList_map,bn] at hv;obtain⟨k,QL,rfl⟩:=hv;have Ud:0<z.cells.size:=by
     rcases Nat.eq_zero_or_pos z.cells.size with e|e
     ·simp[e] at QL
     ·exact e
    have hm:=Nat.mod_lt k Ud;rw[getElem!_pos z.cells _ hm];exact OS _ (by simp)
   ·intro h' c' wG DD TE hn' apS abK;refine hk h' (.row b off c' t rfl wG (by omega) (by omega) ?_ ?_) (Fr.of_eq apS λx hx=>abK x (λe=>hx ⟨_,rfl,e.symm⟩))
    ·rw[bR,hlen];have m1:i*sz<=len*sz:=df _ hi;omega
    ·intro j v hj;rw[dt] at hj;split at hj
     ·rename_i BE;rw[TE (off+j) (by omega)];exact BG j v hj
     ·cases hj
theorem GA {sT xT ty elem eT t:TypeId} {sz bytes:Nat} {z:Value} {h:aj} {q:bV} {n cq:Nat} {ds:List Value} {K:iI}
  (T:Ap P sT elem sz bytes z) (hx:P.underlying xT=some (.slice eT)) (hq:Row h q ds) (hd:ds.length=n*sz) (OS: ∀v∈ds,jg v=true) (hb:n*bytes<=70368744177664) (fJ:n<=9223372036854775807)
  (hk: ∀p' nm h',iS h' p' n nm sz ds->Fr (λ_=>False) h h'->(∀c,aQ p' c->h.size<=c)->K (.slice p' n nm) h'):
  aV h (.cells #[] t) λb h1=>aX P (Builtin.append_ #[sT,xT] ty #[.slice (some (AA b 0)) 0 0,.slice q n cq]) h1 K:=by
 refine cY ?_;have f1:Fr (λ_=>False) h (h.push (.cells #[] t)):=Fr.push _ _;refine fR (cs:= []) T hx (.row h.size 0 #[] t rfl cA (bh _) (by simp) (by simp) (λj v hj=>by cases hj)) (hq.frame f1 (λ_ _=>id)) hd OS (by simpa using hb) (by omega) ?_;intro p' c' h' o1 _ f2 g;rw[cf,ft] at o1;rw[cf];refine hk p' c' h' o1 (f1.step f2 (λc hc ⟨a,e,e2⟩=>by cases e;simp at e2;omega)) (λx hx=> ?_);rcases g x hx with⟨a,e,rfl⟩|h2
 ·cases e;exact bh _
 ·simp at h2;omega
end
theorem aae {α:Type} {enc:α->List Value} (re: ∀x,(enc x).length=2) {xs:List α} {i:Nat} {y:α} {v0 v1:Value} (hi:i<xs.length) (hy:enc y= [v0,v1]):((xs.flatMap enc).set (i*2) v0).set (i*2+1) v1=(xs.set i y).flatMap enc:=by
 have hl:=gW enc 2 re xs;refine abR enc 2 re xs i y hi _ (by simp) (λj hj=> ?_) (λj v hj hv=> ?_)
 ·have hj:j/2≠i:=by omega
  rw[eJ,eJ,dM,dM]
 ·rw[hy] at hv
  match j,hj with
  |0,_=>
   simp only[eU,bF] at hv;rw[eJ,dM,eJ,jy,jy,hv]
  |1,_=>
   simp only[eO,eU,bF] at hv;rw[eJ,ag rfl,ag (by rw[eX];omega),hv]
end Go.Den
namespace Go.Proofs.YtlenamcfacpheaaGreatDoor
open Go.Den
open IntKind (wrap)
open Int (toNat)
section
namespace Cb
inductive Tr where
 |mk (k:Int) (n:Nat) (b:List UInt8) (l:List Tr)
namespace Tr
def k:Tr->Int| .mk k _ _ _=>k
def n:Tr->Nat| .mk _ n _ _=>n
def b:Tr->List UInt8| .mk _ _ b _=>b
def l:Tr->List Tr| .mk _ _ _ l=>l
end Tr
abbrev num (n:Nat):Tr:=.mk 0 n [] []
abbrev BH (b:List UInt8):Tr:=.mk 2 0 b []
abbrev DF (l:List Tr):Tr:=.mk 4 0 [] l
def V5:Tr:=.mk 0 0 [] []
mutual
def yW:Tr->Tr->Bool
 | .mk k n b l,.mk k' n' b' l'=>decide (k=k') && decide (n=n') && decide (b=b') && DG l l'
def DG:List Tr->List Tr->Bool
 | [], []=>true
 |t::ts,u::us=>yW t u && DG ts us
 |_,_=>false
end
mutual
theorem afm: ∀(a b:Tr),yW a b=true↔a=b
 | .mk k n b l,.mk k' n' b' l'=>by
  simp only[yW,Bool.and_eq_true,decide_eq_true_eq,JO,Tr.mk.injEq,and_assoc]
theorem JO: ∀(a b:List Tr),DG a b=true↔a=b
 | [], []=>by simp[DG]
 |t::ts,u::us=>by simp only[DG,Bool.and_eq_true,afm t u,JO ts us,List.cons.injEq]
 | [],u::us=>by simp[DG]
 |t::ts, []=>by simp[DG]
end
def abS (V:List UInt8->Bool) (k:Int) (n:Nat) (b:List UInt8) (l:List Tr):Bool:=
 if k=0 then b.isEmpty && l.isEmpty else if k=2 then decide (n=0) && l.isEmpty else if k=3 then decide (n=0) && l.isEmpty && V b else if k=4 then decide (n=0) && b.isEmpty else false
mutual
def x4 (V:List UInt8->Bool):Tr->Int->Int->Int
 | .mk k n b l,d,left=>if d>6\/left<1 then -1 else if abS V k n b l=true then wN V l (d+1) (left - 1) else -1
def wN (V:List UInt8->Bool):List Tr->Int->Int->Int
 | [],_,left=>left
 |t::ts,d,left=>if x4 V t d left<0 then -1 else wN V ts d (x4 V t d left)
end
mutual
theorem Rk {V:List UInt8->Bool} : ∀ {t:Tr} {d left:Int},x4 V t d left= -1\/0<=x4 V t d left/\x4 V t d left<left
 | .mk k n b l,d,left=>by
  unfold x4;split
  ·exact .inl rfl
  ·split
   ·rcases ML (V:=V) (ts:=l) (d:=d+1) (left:=left - 1) (by omega) with h|h
    ·exact .inl h
    ·exact .inr (by omega)
   ·exact .inl rfl
theorem ML {V:List UInt8->Bool} : ∀ {ts:List Tr} {d left:Int},0<=left->wN V ts d left= -1\/0<=wN V ts d left/\wN V ts d left<=left
 | [],d,left,hl=>by unfold wN;exact .inr ⟨hl,Int.le_refl _⟩
 |t::ts,d,left,hl=>by
  unfold wN;split
  ·exact .inl rfl
  ·rcases Rk (V:=V) (t:=t) (d:=d) (left:=left) with h1|h1
   ·omega
   ·rcases ML (V:=V) (ts:=ts) (d:=d) (left:=x4 V t d left) (by omega) with h|h
    ·exact .inl h
    ·exact .inr (by omega)
end
def lB (V:List UInt8->Bool) (t:Tr):Bool:=decide (x4 V t 1 256≥0)
def Rl (n:Nat):Nat:=if n<24 then 0 else if n<256 then 1 else if n<65536 then 2 else if n<4294967296 then 4 else 8
def Iz (n:Nat):Nat:=if n<24 then n else if n<256 then 24 else if n<65536 then 25 else if n<4294967296 then 26 else 27
def beB (k n:Nat):List UInt8:=(List.range k).map λi=>UInt8.ofNat (n/2 ^ (8*(k - 1 - i)))
def hdB (m:Int) (n:Nat):List UInt8:=if 0<=m/\m<=7 then UInt8.ofNat (32*m.toNat+Iz n)::beB (Rl n) n else []
theorem V6 (n:Nat):Rl n<=8:=by unfold Rl;repeat (first|omega|split)
theorem I8 (k n:Nat):(beB k n).length=k:=by simp[beB]
theorem V7 (m:Int) (n:Nat):(hdB m n).length<=9:=by
 unfold hdB;split
 ·rw[bj,I8];have:=V6 n;omega
 ·simp
def beN (l:List UInt8):Nat:=l.foldl (λv b=>v*256+b.toNat) 0
theorem Rm (l:List UInt8) (b:UInt8):beN (l++ [b])=beN l*256+b.toNat:=by simp[beN]
theorem abT (l:List UInt8):beN l<256 ^ l.length:=by
 suffices h: ∀(n:Nat) (l:List UInt8),l.length=n->beN l<256 ^ n from h _ l rfl
 intro n;induction n with
 |zero=>intro l hl;rw[List.length_eq_zero_iff.1 hl];simp[beN]
 |succ n ih=>
  intro l hl;obtain⟨a,b,rfl⟩: ∃a b,l=a++ [b]:=⟨l.dropLast,l.getLast (by intro e;rw[e] at hl;simp at hl),(List.dropLast_concat_getLast _).symm⟩;rw[aF] at hl;have:=ih a (by simpa using hl);rw[Rm,Nat.pow_succ];have:=b.toNat_lt;omega
def Cj (m:Nat):Bool:=decide (2<=m/\m<=5)||decide (m=7)
def QM (bs:List UInt8) (pos:Nat):Except Int (Nat×Nat×Bool×Nat):=
 match bs[pos]? with
 |none=> .error 8
 |some x=>
  if x.toNat%32<24 then .ok (x.toNat/32,x.toNat%32,false,pos+1)
  else if x.toNat%32=31/\Cj (x.toNat/32)=true then .ok (x.toNat/32,0,true,pos+1)
  else if x.toNat%32>27 then .error 3
  else if pos+1+2 ^ (x.toNat%32 - 24)>bs.length then .error 8
  else .ok (x.toNat/32,beN ((bs.drop (pos+1)).take (2 ^ (x.toNat%32 - 24))),false,pos+1+2 ^ (x.toNat%32 - 24))
theorem JP {bs:List UInt8} {pos m n nx:Nat} {o:Bool} (h:QM bs pos=.ok (m,n,o,nx)):pos<nx/\nx<=bs.length/\n<18446744073709551616/\m<8/\pos<bs.length:=by
 unfold QM at h;split at h
 ·cases h
 ·rename_i x hx;have hp:=(aG.1 hx).1;have:=x.toNat_lt;split at h
  ·cases h;omega
  ·split at h
   ·cases h;omega
   ·split at h
    ·cases h
    ·split at h
     ·cases h
     ·rename_i h1 h2 h3 h4;cases h;have hl:=abT ((bs.drop (pos+1)).take (2 ^ (x.toNat%32 - 24)));have:((bs.drop (pos+1)).take (2 ^ (x.toNat%32 - 24))).length<=8:=by
       rw[bR];have:x.toNat%32 - 24=0\/x.toNat%32 - 24=1\/x.toNat%32 - 24=2\/x.toNat%32 - 24=3:=by omega
       rcases this with e|e|e|e<;>rw[e]<;>omega
      have:=iO (n:=256) (by omega) this;have h1:1<=2 ^ (x.toNat%32 - 24):=Nat.one_le_two_pow;refine⟨by omega,by omega,?_,by omega,hp⟩
      calc _<_:=hl
       _<=_:=this
       _=18446744073709551616:=by decide
def wO (V:List UInt8->Bool) (bs:List UInt8) (pos m n:Nat):Except Int (List UInt8):=
 if n<=bs.length - pos then(if m≠3\/V ((bs.drop pos).take n)=true then .ok ((bs.drop pos).take n) else .error 3) else .error 8
def Fa (bs:List UInt8) (pos:Nat):Bool:=match bs[pos]? with|some x=>decide (x.toNat=255)|none=>false
def Rn (V:List UInt8->Bool) (bs:List UInt8) (m:Nat):Nat->Nat->List UInt8->Except Int (List UInt8×Nat)
 |0,_,_=> .error 8
 |k+1,pos,acc=>if Fa bs pos=true then .ok (acc,pos+1) else match QM bs pos with
  | .error e=> .error e
  | .ok (m',n',o',nx)=>if m'=m/\o'=false then(match wO V bs nx m' n' with| .error e=> .error e| .ok w=>Rn V bs m k (nx+n') (acc++w)) else .error 3
def OU (V:List UInt8->Bool) (bs:List UInt8) (pos m n:Nat) (o:Bool):Except Int (List UInt8×Nat):=
 match o with
 |true=>Rn V bs m (bs.length+1) pos []
 |false=>match wO V bs pos m n with| .error e=> .error e| .ok w=> .ok (w,pos+n)
abbrev RF:=Nat->Nat->Except Int (Tr×Nat×Nat)
def HF (bs:List UInt8) (f:RF):Nat->Nat->Nat->List Tr->Except Int (List Tr×Nat×Nat)
 |0,_,_,_=> .error 8
 |k+1,pos,left,ts=>if Fa bs pos=true then .ok (ts,pos+1,left) else match f pos left with
  | .error e=> .error e
  | .ok (t,nx,lf)=>HF bs f k nx lf (ts++ [t])
def Fb (f:RF):Nat->Nat->Nat->List Tr->Except Int (List Tr×Nat×Nat)
 |0,pos,left,ts=> .ok (ts,pos,left)
 |k+1,pos,left,ts=>match f pos left with
  | .error e=> .error e
  | .ok (t,nx,lf)=>Fb f k nx lf (ts++ [t])
def x5 (bs:List UInt8) (f:RF) (pos left n:Nat) (o:Bool):Except Int (List Tr×Nat×Nat):=
 match o with
 |true=>HF bs f (bs.length+1) pos left []
 |false=>if n<=bs.length - pos then Fb f n pos left [] else .error 8
def lM (V : List UInt8 -> Bool) (bs : List UInt8) : Nat -> RF
  | lv, pos, left => match QM bs pos with
    | .error e => .error e
    | .ok (m, n, o, nx) => if m = 0 \/ m = 2 \/ m = 3 \/ m = 4 then (match lv with
      | 0 => .error 9
      | lv + 1 => if left = 0 then .error 2 else if m = 0 then .ok (num n, nx, left - 1)
        else if m = 4 then (match x5 bs (lM V bs lv) nx (left - 1) n o with | .error e => .error e | .ok (ts, p, lf) => .ok (DF ts, p, lf))
        else (match OU V bs nx m n o with | .error e => .error e | .ok (w, p) => .ok (.mk m 0 w [], p, left - 1))) else .error 3
def Ba (V:List UInt8->Bool) (bs:List UInt8):Except Int (Tr×Nat):=match lM V bs 6 0 256 with| .error e=> .error e| .ok (t,nx,_)=> .ok (t,nx)
mutual
def room:Tr->Nat
 | .mk _ _ b l=>9+b.length+dZ l
def dZ:List Tr->Nat
 | []=>0
 |t::ts=>room t+dZ ts
end
-- how deep an item is
mutual
def deep:Tr->Nat
 | .mk _ _ _ l=>1+V8 l
def V8:List Tr->Nat
 | []=>0
 |t::ts=>max (deep t) (V8 ts)
end
theorem mQ {a b:List Tr} :dZ (a++b)=dZ a+dZ b:=by
 induction a with
 |nil=>simp[dZ]
 |cons t a ih=>simp only[fw,dZ,ih];omega
theorem Dm {t:Tr} {l:List Tr} (h:t∈l):deep t<=V8 l:=by
 induction l with
 |nil=>cases h
 |cons u l ih=>
  simp only[V8];rcases bQ.1 h with rfl|h
  ·omega
  ·have:=ih h;omega
def HG (k:Int) (n:Nat) (b:List UInt8) (l:List Tr):Nat:=if k=2\/k=3 then b.length else if k=4 then l.length else n
mutual
def enc:Tr->List UInt8
 | .mk k n b l=>hdB k (HG k n b l)++b++IA l
def IA:List Tr->List UInt8
 | []=> []
 |t::ts=>enc t++IA ts
end
mutual
theorem rX: ∀(t:Tr),(enc t).length<=room t
 | .mk k n b l=>by
  simp only[enc,room,List.length_append];have:=V7 k (HG k n b l);have:=JQ l;omega
theorem JQ: ∀(l:List Tr),(IA l).length<=dZ l
 | []=>Nat.zero_le _
 |t::ts=>by
  simp only[IA,dZ,List.length_append];have:=rX t;have:=JQ ts;omega
end
theorem aaf (l:List Tr) (t:Tr):IA (l++ [t])=IA l++enc t:=by
 induction l with
 |nil=>simp[IA]
 |cons u l ih=>simp only[fw,IA,ih,dV]
theorem afn {V:List UInt8->Bool} {bs:List UInt8} {m:Nat} : ∀(k pos:Nat) (acc w:List UInt8) (nx:Nat),pos<=bs.length->Rn V bs m k pos acc=.ok (w,nx)->w.length+pos<=acc.length+nx/\pos<nx/\nx<=bs.length:=by
 intro k;induction k with
 |zero=>intro pos acc w nx _ h;cases h
 |succ k ih=>
  intro pos acc w nx hp h;unfold Rn at h;split at h
  ·rename_i he;cases h;unfold Fa at he;split at he
   ·rename_i x hx;have:=(aG.1 hx).1;omega
   ·cases he
  ·split at h
   ·cases h
   ·rename_i m' n' o' nx' hh;have h1:=JP hh;split at h
    ·split at h
     ·cases h
     ·rename_i v hv;unfold wO at hv;split at hv
      ·split at hv
       ·cases hv;have:=ih _ _ _ _ (by omega) h;rw[aF,bR,cg] at this;omega
       ·cases hv
      ·cases hv
    ·cases h
def ajG (bs:List UInt8) (f:RF):Prop:= ∀pos left t nx lf,pos<=bs.length->f pos left=.ok (t,nx,lf)->room t<=10*(nx - pos)/\pos<nx/\nx<=bs.length/\lf<=left
theorem abU {bs:List UInt8} {f:RF} (hf:ajG bs f): ∀(k pos left:Nat) (ts us:List Tr) (nx lf:Nat),pos<=bs.length->HF bs f k pos left ts=.ok (us,nx,lf)->dZ us+10*pos<=dZ ts+10*nx/\pos<=nx/\nx<=bs.length/\lf<=left:=by
 intro k;induction k with
 |zero=>intro pos left ts us nx lf _ h;cases h
 |succ k ih=>
  intro pos left ts us nx lf hp h;unfold HF at h;split at h
  ·rename_i he;cases h;unfold Fa at he;split at he
   ·rename_i x hx;have:=(aG.1 hx).1;omega
   ·cases he
  ·split at h
   ·cases h
   ·rename_i t nx' lf' hh;have h1:=hf _ _ _ _ _ hp hh;have h2:=ih _ _ _ _ _ _ (by omega) h;rw[mQ] at h2;simp only[dZ] at h2;omega
theorem abV {bs:List UInt8} {f:RF} (hf:ajG bs f): ∀(k pos left:Nat) (ts us:List Tr) (nx lf:Nat),pos<=bs.length->Fb f k pos left ts=.ok (us,nx,lf)->dZ us+10*pos<=dZ ts+10*nx/\pos<=nx/\nx<=bs.length/\lf<=left:=by
 intro k;induction k with
 |zero=>intro pos left ts us nx lf _ h;cases h;omega
 |succ k ih=>
  intro pos left ts us nx lf hp h;unfold Fb at h;split at h
  ·cases h
  ·rename_i t nx' lf' hh;have h1:=hf _ _ _ _ _ hp hh;have h2:=ih _ _ _ _ _ _ (by omega) h;rw[mQ] at h2;simp only[dZ] at h2;omega
theorem Ro {V:List UInt8->Bool} {bs:List UInt8} : ∀lv,ajG bs (lM V bs lv):=by
 intro lv;induction lv with
 |zero=>
  intro pos left t nx lf hp h;unfold lM at h;split at h
  ·cases h
  ·split at h<;>cases h
 |succ lv ih=>
  intro pos left t nx lf hp h;unfold lM at h;split at h
  ·cases h
  ·rename_i m n o nx' hh;have h1:=JP hh;split at h
   ·dsimp only at h;split at h
    ·cases h
    ·split at h
     ·cases h;simp only[room,dZ,bD];omega
     ·split at h
      ·split at h
       ·cases h
       ·rename_i ts p lf' hl;cases h;have:dZ ts+10*nx'<=10*nx/\nx'<=nx/\nx<=bs.length/\lf<=left - 1:=by
         unfold x5 at hl;split at hl
         ·have:=abU ih _ _ _ _ _ _ _ (by omega) hl;simpa[dZ] using this
         ·split at hl
          ·have:=abV ih _ _ _ _ _ _ _ (by omega) hl;simpa[dZ] using this
          ·cases hl
        simp only[room,bD];omega
      ·split at h
       ·cases h
       ·rename_i w p hs;cases h;have:w.length+nx'<=nx/\nx'<=nx/\nx<=bs.length:=by
         unfold OU at hs;split at hs
         ·have:=afn _ _ _ _ _ (by omega) hs;simp only[bD] at this;omega
         ·split at hs
          ·cases hs
          ·rename_i v hv;cases hs;unfold wO at hv;split at hv
           ·split at hv
            ·cases hv;rw[bR,cg];omega
            ·cases hv
           ·cases hv
        simp only[room,dZ];omega
   ·cases h
theorem OV {bs:List UInt8} {pos:Nat} {e:Int} (h:QM bs pos=.error e):e≠0:=by
 unfold QM at h;repeat (first|decide|cases h|split at h)
theorem JR {V:List UInt8->Bool} {bs:List UInt8} {pos m n:Nat} {e:Int} (h:wO V bs pos m n=.error e):e≠0:=by
 unfold wO at h;repeat (first|decide|cases h|split at h)
theorem abW {V:List UInt8->Bool} {bs:List UInt8} {m:Nat} {e:Int} : ∀(k pos:Nat) (acc:List UInt8),Rn V bs m k pos acc=.error e->e≠0:=by
 intro k;induction k with
 |zero=>intro pos acc h;cases h;decide
 |succ k ih=>
  intro pos acc h;unfold Rn at h;split at h
  ·cases h
  ·split at h
   ·rename_i hh;cases h;exact OV hh
   ·split at h
    ·split at h
     ·rename_i hh;cases h;exact JR hh
     ·exact ih _ _ h
    ·cases h;decide
def RFe (f:RF):Prop:= ∀pos left e,f pos left=.error e->e≠0
theorem aag {bs:List UInt8} {f:RF} (hf:RFe f) {pos left n:Nat} {o:Bool} {e:Int} (h:x5 bs f pos left n o=.error e):e≠0:=by
 have op: ∀(k pos left:Nat) (ts:List Tr),HF bs f k pos left ts=.error e->e≠0:=by
  intro k;induction k with
  |zero=>intro pos left ts h;cases h;decide
  |succ k ih=>
   intro pos left ts h;unfold HF at h;split at h
   ·cases h
   ·split at h
    ·rename_i hh;cases h;exact hf _ _ _ hh
    ·exact ih _ _ _ h
 have mn: ∀(k pos left:Nat) (ts:List Tr),Fb f k pos left ts=.error e->e≠0:=by
  intro k;induction k with
  |zero=>intro pos left ts h;cases h
  |succ k ih=>
   intro pos left ts h;unfold Fb at h;split at h
   ·rename_i hh;cases h;exact hf _ _ _ hh
   ·exact ih _ _ _ h
 unfold x5 at h;split at h
 ·exact op _ _ _ _ h
 ·split at h
  ·exact mn _ _ _ _ h
  ·cases h;decide
theorem aah {V:List UInt8->Bool} {bs:List UInt8} : ∀lv,RFe (lM V bs lv):=by
 intro lv;induction lv with
 |zero=>
  intro pos left e h;unfold lM at h;split at h
  ·rename_i hh;cases h;exact OV hh
  ·split at h<;>(cases h;decide)
 |succ lv ih=>
  intro pos left e h;unfold lM at h;split at h
  ·rename_i hh;cases h;exact OV hh
  ·split at h
   ·dsimp only at h;split at h
    ·cases h;decide
    ·split at h
     ·cases h
     ·split at h
      ·split at h
       ·rename_i hh;cases h;exact aag ih hh
       ·cases h
      ·split at h
       ·rename_i hh;cases h;unfold OU at hh;split at hh
        ·exact abW _ _ _ hh
        ·split at hh
         ·rename_i h2;cases hh;exact JR h2
         ·cases hh
       ·cases h
   ·cases h;decide
theorem Dn {V:List UInt8->Bool} {bs:List UInt8} {e:Int} (h:Ba V bs=.error e):e≠0:=by
 unfold Ba at h;split at h
 ·rename_i hh;cases h;exact aah 6 _ _ _ hh
 ·cases h
theorem JS {V:List UInt8->Bool} {bs:List UInt8} {t:Tr} {nx:Nat} (h:Ba V bs=.ok (t,nx)):room t<=10*bs.length/\nx<=bs.length:=by
 unfold Ba at h;split at h
 ·cases h
 ·rename_i t nx' lf hh;cases h;have:=Ro 6 _ _ _ _ _ (cp _) hh;omega
end Cb
end
end Go.Proofs.YtlenamcfacpheaaGreatDoor
