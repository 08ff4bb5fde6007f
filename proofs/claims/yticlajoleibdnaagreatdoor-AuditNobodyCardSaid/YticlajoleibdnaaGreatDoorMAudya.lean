/-
  What is proved here: parts of the proof, one behind the other (texts of this work, merged by a program; what the theorem does not use is left out). No condition.
-/
import Derived.OrdersHeld
import Derived.Scope
import Derived.KernelRfl
import Derived.IntWalk
import Derived.ProofKit
import Derived.ChangeOld
import Derived.Below
import Derived.Carry
import Derived.OpenShut
set_option linter.defProp false
set_option maxRecDepth 100000
set_option maxHeartbeats 4000000
namespace Go
section
variable {c p q r:Prop}
abbrev TyO := Option Addr
abbrev TyL := List UInt8
abbrev TyP := Value → Array Obj → Prop
abbrev TyH := Array Obj → Prop
abbrev TyN := Nat → Prop
abbrev TyV := List UInt8 → Bool
abbrev TyI := Int → Array Obj → Prop
abbrev TyM := Int → Array Obj → Nat
abbrev TyE := Exit → Act → World → Prop
abbrev TyB := ByteArray
abbrev BzE : ByteArray := ⟨#[]⟩
abbrev wI (x : Int) : Int := IntKind.wrap .i64 x
abbrev wU (x : Int) : Int := IntKind.wrap .u64 x
abbrev AA (b i : Nat) : Addr := ⟨b, i, none⟩
abbrev Sa (b i : Nat) : Option Addr := some ⟨b, i, none⟩
abbrev Value.I (x : Int) : Value := .int .i64 x
abbrev Value.U (x : Int) : Value := .int .u64 x
abbrev Value.Q (p : Option Addr) : Value := .pointer p
abbrev Value.P (b i : Nat) : Value := .pointer (some ⟨b, i, none⟩)
abbrev Value.L (p : Option Addr) (l c : Nat) : Value := .slice p l c
abbrev Value.B (b : Bool) : Value := .bool b
abbrev Value.S (s : ByteArray) : Value := .string s
abbrev Value.T (vs : Array Value) : Value := .tuple vs
abbrev Obj.C (c : Array Value) (t : TypeId) (f : Nat × Nat := (0, 0)) : Obj := .cells c t f
abbrev Value.Z : Value := .slice none 0 0
theorem nfD {i : Decidable c} {α : Sort _} {t e : α} (h : ¬c := by first|decide|omega|(simp only [decide_eq_true_eq];omega)) : ite c t e = e := if_neg h
theorem pfD {i : Decidable c} {α : Sort _} {t e : α} (h : c := by first|decide|omega|exact decide_eq_true (by omega)) : ite c t e = t := if_pos h
theorem zzii {α : Sort _} {β : α → Sort _} {γ : (a : α) → β a → Prop} : ∀ a b, γ a b → γ a b := fun _ _ => id
theorem zzom (h : p := by omega) : p := h
theorem zzde (h : p := by decide) : p := h
theorem zzsi (h : p := by simp) : p := h
theorem zzkr (h : p := by kernel_rfl) : p := h
theorem zzoh (h : q) (g : q → p := by intro; omega) : p := g h
theorem zzoi (h : q) (k : r) (g : q → r → p := by intro _ _; omega) : p := g h k
theorem zzoj {s:Prop} (h : q) (k : r) (l : s) (g : q → r → s → p := by intro _ _ _; omega) : p := g h k l
theorem zzsu (h : q) (g : q → p := by intro h; simpa using h) : p := g h
theorem zzArray_getElem__append_left_q:type_of% @Array.getElem?_append_left:=@Array.getElem?_append_left
theorem zzArray_getElem__eq_none_q:type_of% @Array.getElem?_eq_none:=@Array.getElem?_eq_none
theorem zzArray_getElem__eq_some_iff_q:type_of% @Array.getElem?_eq_some_iff:=@Array.getElem?_eq_some_iff
theorem zzArray_getElem__modify_q:type_of% @Array.getElem?_modify:=@Array.getElem?_modify
theorem zzArray_size_push:type_of% @Array.size_push:=@Array.size_push
theorem zzBool_and_eq_true:type_of% @Bool.and_eq_true:=@Bool.and_eq_true
theorem zzBool_eq_iff_iff:type_of% @Bool.eq_iff_iff:=@Bool.eq_iff_iff
theorem zzBool_false_eq_true:type_of% @Bool.false_eq_true:=@Bool.false_eq_true
theorem zzBool_false_ne_true:type_of% @Bool.false_ne_true:=@Bool.false_ne_true
theorem zzIff_rfl:type_of% @Iff.rfl:=@Iff.rfl
theorem zzInt_toNat_natCast:type_of% @Int.toNat_natCast:=@Int.toNat_natCast
theorem zzList_all_eq_true:type_of% @List.all_eq_true:=@List.all_eq_true
theorem zzList_filter_eq_self:type_of% @List.filter_eq_self:=@List.filter_eq_self
theorem zzList_getD_eq_getElem__getD_q:type_of% @List.getD_eq_getElem?_getD:=@List.getD_eq_getElem?_getD
theorem zzList_getElem__eq_getElem_q:type_of% @List.getElem?_eq_getElem:=@List.getElem?_eq_getElem
theorem zzList_getElem__eq_some_iff_q:type_of% @List.getElem?_eq_some_iff:=@List.getElem?_eq_some_iff
theorem zzList_getElem__map_q:type_of% @List.getElem?_map:=@List.getElem?_map
theorem zzList_getElem_mem:type_of% @List.getElem_mem:=@List.getElem_mem
theorem zzList_length_append:type_of% @List.length_append:=@List.length_append
theorem zzList_length_cons:type_of% @List.length_cons:=@List.length_cons
theorem zzList_length_drop:type_of% @List.length_drop:=@List.length_drop
theorem zzList_length_map:type_of% @List.length_map:=@List.length_map
theorem zzList_length_take:type_of% @List.length_take:=@List.length_take
theorem zzList_map_append:type_of% @List.map_append:=@List.map_append
theorem zzList_map_cons:type_of% @List.map_cons:=@List.map_cons
theorem zzList_mem_append:type_of% @List.mem_append:=@List.mem_append
theorem zzList_mem_append_left:type_of% @List.mem_append_left:=@List.mem_append_left
theorem zzList_mem_append_right:type_of% @List.mem_append_right:=@List.mem_append_right
theorem zzList_mem_cons:type_of% @List.mem_cons:=@List.mem_cons
theorem zzList_mem_cons_of_mem:type_of% @List.mem_cons_of_mem:=@List.mem_cons_of_mem
theorem zzList_mem_cons_self:type_of% @List.mem_cons_self:=@List.mem_cons_self
theorem zzList_mem_filter:type_of% @List.mem_filter:=@List.mem_filter
theorem zzList_mem_map:type_of% @List.mem_map:=@List.mem_map
theorem zzList_mem_of_getElem__q:type_of% @List.mem_of_getElem?:=@List.mem_of_getElem?
theorem zzList_mem_singleton:type_of% @List.mem_singleton:=@List.mem_singleton
theorem zzList_take_add_one:type_of% @List.take_add_one:=@List.take_add_one
theorem zzList_take_of_length_le:type_of% @List.take_of_length_le:=@List.take_of_length_le
theorem zzNat_add_mul:type_of% @Nat.add_mul:=@Nat.add_mul
theorem zzNat_eq_of_beq_eq_true:type_of% @Nat.eq_of_beq_eq_true:=@Nat.eq_of_beq_eq_true
theorem zzNat_le_refl:type_of% @Nat.le_refl:=@Nat.le_refl
theorem zzNat_lt_of_lt_of_le:type_of% @Nat.lt_of_lt_of_le:=@Nat.lt_of_lt_of_le
theorem zzNat_mul_le_mul_right:type_of% @Nat.mul_le_mul_right:=@Nat.mul_le_mul_right
theorem zzNat_mul_one:type_of% @Nat.mul_one:=@Nat.mul_one
theorem zzNat_zero_add:type_of% @Nat.zero_add:=@Nat.zero_add
theorem zzNat_zero_le:type_of% @Nat.zero_le:=@Nat.zero_le
theorem zzOption_some_inj:type_of% @Option.some.inj:=@Option.some.inj
theorem zzOption_some_injEq:type_of% @Option.some.injEq:=@Option.some.injEq
theorem zzcongrArg:type_of% @congrArg:=@congrArg
theorem zzdecide_eq_false:type_of% @decide_eq_false:=@decide_eq_false
theorem zzdecide_eq_true:type_of% @decide_eq_true:=@decide_eq_true
theorem zzdecide_eq_true_eq:type_of% @decide_eq_true_eq:=@decide_eq_true_eq
theorem zzif_false:type_of% @if_false:=@if_false
theorem zzif_neg:type_of% @if_neg:=@if_neg
theorem zzif_pos:type_of% @if_pos:=@if_pos
theorem zzof_decide_eq_true:type_of% @of_decide_eq_true:=@of_decide_eq_true

end
end Go
namespace Go.Den
section
variable {P:Program} {F:Value→Prop} {t:TypeId}
abbrev Heap := Array Obj
abbrev Env := Nat → Option Value
def hcell (h : Heap) (a : Addr) : Option Value :=
  match h[a.block]? with
  | some (.cells c _ _) => if a.spot.isSome then none else c[a.off]?
  | _ => none
def hshape (h : Heap) (r : Nat) : Option (TypeId × Nat) :=
  match h[r]? with
  | some (.cells c elem _) => some (elem, c.size)
  | _ => none
def hfrozen (h : Heap) (a : Addr) : Bool :=
  match h[a.block]? with
  | some (.cells _ _ (lo, hi)) => lo ≤ a.off && a.off < hi
  | _ => false
def hfreeze (h : Heap) (a : Addr) (n : Nat) : Heap :=
  if n = 0 then h else
  h.modify a.block fun
      | .cells c elem (lo, hi) => .cells c elem (if lo == hi then (a.off, a.off + n) else (min lo a.off, max hi (a.off + n)))
      | o => o
def hset (h : Heap) (a : Addr) (v : Value) : Heap :=
  h.modify a.block fun
      | .cells c elem frozen => .cells (if a.spot.isSome then c else c.setIfInBounds a.off v) elem frozen
      | o => o
theorem cell_eq (w : World) (a : Addr) : w.cell? a = hcell w.heap a := rfl
theorem shape_eq (w : World) (r : Nat) : w.shape? r = hshape w.heap r := rfl
theorem frozen_eq (w : World) (a : Addr) : w.frozen? a = hfrozen w.heap a := rfl
theorem set_eq (w : World) (a : Addr) (v : Value) : (w.setCell a v).heap = hset w.heap a v := rfl
theorem freeze_eq (w : World) (a : Addr) (n : Nat) : (w.freeze a n).heap = hfreeze w.heap a n := by
  unfold World.freeze hfreeze; split <;> rfl
def Same (w w' : World) : Prop := w'.os = w.os ∧ w'.output = w.output ∧ w'.tape = w.tape
theorem Same.refl (w : World) : Same w w := ⟨rfl, rfl, rfl⟩
theorem Same.trans {a b c : World} (h : Same a b) (h' : Same b c) : Same a c := ⟨h'.1.trans h.1, h'.2.1.trans h.2.1, h'.2.2.trans h.2.2⟩
def oneCell : Value → Bool
  | .agg _ | .tuple _ => false
  | _ => true
def denSem (P : Program) {α : Type} : Sem α → Heap → (α → Heap → Prop) → Prop
  | .pure a, h, K => K a h
  | .load _ a k, h, K => ∃ v, hcell h a = some v ∧ denSem P (k v) h K
  | .store _ a v k, h, K => oneCell v = true ∧ (hcell h a).isSome = true ∧ hfrozen h a = false ∧ denSem P k (hset h a v) K
  | .new o k, h, K => denSem P (k h.size) (h.push o) K
  | .shape r k, h, K => denSem P (k (hshape h r)) h K
  | .freeze a n k, h, K => denSem P k (hfreeze h a n) K
  | .frozen a k, h, K => denSem P (k (hfrozen h a)) h K
  | .getObj r k, h, K => ∃ o, h[r]? = some o ∧ (∀ c e f, o ≠ .cells c e f) ∧ denSem P (k o) h K
  | .setObj r o k, h, K => (∃ o', h[r]? = some o' ∧ (∀ c e f, o' ≠ .cells c e f)) ∧ denSem P k (h.setIfInBounds r o) K
  | .choose q k, h, K => if q.forced = true then denSem P (k 0) h K else ∀ t, denSem P (k (q.cut t)) h K
  | .sys _ _, _, _ => False
  | .program k, h, K => denSem P (k P) h K
  | .mark _ k, h, K => denSem P k h K
  | .halt _, _, _ => False
theorem denSem_mono {α : Type} (s : Sem α) : ∀ (h : Heap) {K K' : α → Heap → Prop}, (∀ a h, K a h → K' a h) → denSem P s h K → denSem P s h K' := by
  induction s with
  | pure a => intro h K K' hk hh; exact hk _ _ hh
  | load m a k ih => intro h K K' hk hh; have ⟨v, h1, h2⟩ := hh; exact ⟨v, h1, ih v h hk h2⟩
  | store m a v k ih => intro h K K' hk hh; have ⟨h1, h2, h3, h4⟩ := hh; exact ⟨h1, h2, h3, ih _ hk h4⟩
  | new o k ih => intro h K K' hk hh; exact ih _ _ hk hh
  | shape r k ih => intro h K K' hk hh; exact ih _ _ hk hh
  | freeze a n k ih => intro h K K' hk hh; exact ih _ hk hh
  | frozen a k ih => intro h K K' hk hh; exact ih _ _ hk hh
  | getObj r k ih => intro h K K' hk hh; have ⟨o, h1, h2, h3⟩ := hh; exact ⟨o, h1, h2, ih _ _ hk h3⟩
  | setObj r o k ih => intro h K K' hk hh; exact ⟨hh.1, ih _ hk hh.2⟩
  | choose q k ih =>
    intro h K K' hk hh
    unfold denSem at hh ⊢
    split
    · grind
    · grind
  | sys c k ih => intro h K K' hk hh; exact hh
  | program k ih => intro h K K' hk hh; exact ih _ _ hk hh
  | mark m k ih => intro h K K' hk hh; exact ih _ hk hh
  | halt x => intro h K K' hk hh; exact hh
theorem denSem_bind {α β : Type} (s : Sem α) (f : α → Sem β) : ∀ (h : Heap) (K : β → Heap → Prop), denSem P (s.bind f) h K ↔ denSem P s h (fun a h' => denSem P (f a) h' K) := by
  induction s with
  | pure a => intro h K; exact Iff.rfl
  | load m a k ih => intro h K; simp only [Sem.bind, denSem, ih]
  | store m a v k ih => intro h K; simp only [Sem.bind, denSem, ih]
  | new o k ih => intro h K; simp only [Sem.bind, denSem, ih]
  | shape r k ih => intro h K; simp only [Sem.bind, denSem, ih]
  | freeze a n k ih => intro h K; simp only [Sem.bind, denSem, ih]
  | frozen a k ih => intro h K; simp only [Sem.bind, denSem, ih]
  | getObj r k ih => intro h K; simp only [Sem.bind, denSem, ih]
  | setObj r o k ih => intro h K; simp only [Sem.bind, denSem, ih]
  | choose q k ih => intro h K; simp only [Sem.bind, denSem, ih]
  | sys c k ih => intro h K; simp only [Sem.bind, denSem]
  | program k ih => intro h K; simp only [Sem.bind, denSem, ih]
  | mark m k ih => intro h K; simp only [Sem.bind, denSem, ih]
  | halt x => intro h K; simp only [Sem.bind, denSem]
theorem denSem_sound {α : Type} (s : Sem α) : ∀ (h : Heap) (K : α → Heap → Prop), denSem P s h K →
    ∀ w : World, w.heap = h → ∃ a w', s.run P w = .ok a w' ∧ K a w'.heap ∧ Same w w' := by
  induction s with
  | pure a => intro h K hh w hw; subst hw; exact ⟨a, w, rfl, hh, Same.refl w⟩
  | load m a k ih =>
    intro h K hh w hw; subst hw
    obtain ⟨v, h1, h2⟩ := hh
    obtain ⟨x, w', r1, r2⟩ := ih v _ _ h2 w rfl
    exact ⟨x, w', by simp [Sem.run, cell_eq, h1, r1], r2⟩
  | store m a v k ih =>
    intro h K hh w hw; subst hw
    obtain ⟨h1, h2, h3, h4⟩ := hh
    obtain ⟨u, hu⟩ := Option.isSome_iff_exists.1 h2
    obtain ⟨x, w', r1, r2, r3⟩ := ih _ _ h4 (w.setCell a v) (set_eq w a v)
    refine ⟨x, w', ?_, r2, r3⟩
    rw [← cell_eq] at hu
    rw [← frozen_eq] at h3
    cases v <;> simp [oneCell] at h1 <;> simp [Sem.run, hu, h3, r1]
  | new o k ih =>
    intro h K hh w hw; subst hw
    obtain ⟨x, w', r1, r2, r3⟩ := ih _ _ _ hh { w with heap := w.heap.push o } rfl
    exact ⟨x, w', r1, r2, r3⟩
  | shape r k ih =>
    intro h K hh w hw; subst hw
    obtain ⟨x, w', r1, r2⟩ := ih _ _ _ hh w rfl
    exact ⟨x, w', by rw [← shape_eq] at r1; simp [Sem.run, r1], r2⟩
  | freeze a n k ih =>
    intro h K hh w hw; subst hw
    obtain ⟨x, w', r1, r2, r3⟩ := ih _ _ hh (w.freeze a n) (freeze_eq w a n)
    refine ⟨x, w', by simp [Sem.run, r1], r2, ?_⟩
    refine Same.trans ?_ r3
    unfold World.freeze; split <;> exact ⟨rfl, rfl, rfl⟩
  | frozen a k ih =>
    intro h K hh w hw; subst hw
    obtain ⟨x, w', r1, r2⟩ := ih _ _ _ hh w rfl
    exact ⟨x, w', by rw [← frozen_eq] at r1; simp [Sem.run, r1], r2⟩
  | getObj r k ih =>
    intro h K hh w hw; subst hw
    obtain ⟨o, h1, h2, h3⟩ := hh
    obtain ⟨x, w', r1, r2⟩ := ih _ _ _ h3 w rfl
    refine ⟨x, w', ?_, r2⟩
    cases o <;> first | exact absurd rfl (h2 _ _ _) | simp [Sem.run, h1, r1]
  | setObj r o k ih =>
    intro h K hh w hw; subst hw
    obtain ⟨⟨o', h1, h2⟩, h3⟩ := hh
    obtain ⟨x, w', r1, r2, r3⟩ := ih _ _ h3 { w with heap := w.heap.setIfInBounds r o } rfl
    refine ⟨x, w', ?_, r2, r3⟩
    cases o' <;> first | grind | simp [Sem.run, h1, r1]
  | choose q k ih =>
    intro h K hh w hw; subst hw
    unfold denSem at hh
    split at hh
    · rename_i hq
      obtain ⟨x, w', r1, r2⟩ := ih _ _ _ hh w rfl
      exact ⟨x, w', by simp [Sem.run, hq, r1], r2⟩
    · rename_i hq
      obtain ⟨x, w', r1, r2, r3⟩ := ih _ _ _ (hh (w.tape w.drawn q)) { w with drawn := w.drawn + 1 } rfl
      exact ⟨x, w', by simp only [Sem.run, if_neg hq]; exact r1, r2, r3⟩
  | sys c k ih => intro h K hh; exact hh.elim
  | program k ih =>
    intro h K hh w hw; subst hw
    obtain ⟨x, w', r1, r2⟩ := ih _ _ _ hh w rfl
    exact ⟨x, w', by simp [Sem.run, r1], r2⟩
  | mark m k ih =>
    intro h K hh w hw; subst hw
    obtain ⟨x, w', r1, r2⟩ := ih _ _ hh w rfl
    exact ⟨x, w', by simp [Sem.run, r1], r2⟩
  | halt x => intro h K hh; exact hh.elim
def rd (P : Program) {α : Type} : Sem α → Heap → Option α
  | .pure a, _ => some a
  | .load _ a k, h => (match hcell h a with | some v => rd P (k v) h | none => none)
  | .shape r k, h => rd P (k (hshape h r)) h
  | .frozen a k, h => rd P (k (hfrozen h a)) h
  | .getObj r k, h => (match h[r]? with | some (.cells _ _ _) => none | some o => rd P (k o) h | none => none)
  | .program k, h => rd P (k P) h
  | .mark _ k, h => rd P k h
  | _, _ => none
theorem rd_den {α : Type} (s : Sem α) : ∀ (h : Heap) (a : α), rd P s h = some a → ∀ K : α → Heap → Prop, K a h → denSem P s h K := by
  induction s with
  | pure b => intro h a e K hk; simp only [rd, Option.some.injEq] at e; subst e; exact hk
  | load m b k ih =>
    intro h a e K hk
    simp only [rd] at e
    split at e
    · rename_i v hv; exact ⟨v, hv, ih v h a e K hk⟩
    · cases e
  | shape r k ih => intro h a e K hk; exact ih _ h a e K hk
  | frozen b k ih => intro h a e K hk; exact ih _ h a e K hk
  | getObj r k ih =>
    intro h a e K hk
    simp only [rd] at e
    split at e
    · cases e
    · rename_i o hne ho
      exact ⟨o, ho, fun c e f hc => hne c e f (hc ▸ rfl), ih _ h a e K hk⟩
    · cases e
  | program k ih => intro h a e K hk; exact ih _ h a e K hk
  | mark m k ih => intro h a e K hk; exact ih h a e K hk
  | _ => intro h a e; simp [rd] at e
theorem rd_run {α : Type} (s : Sem α) : ∀ (w : World) (a : α), rd P s w.heap = some a → s.run P w = .ok a w := by
  induction s with
  | pure b => intro w a e; simp only [rd, Option.some.injEq] at e; subst e; rfl
  | load m b k ih =>
    intro w a e
    simp only [rd] at e
    split at e
    · rename_i v hv; rw [← cell_eq] at hv; simp only [Sem.run, hv]; exact ih v w a e
    · cases e
  | shape r k ih => intro w a e; exact ih _ w a e
  | frozen b k ih => intro w a e; exact ih _ w a e
  | getObj r k ih =>
    intro w a e
    simp only [rd] at e
    split at e
    · cases e
    · rename_i o hne ho
      cases o <;> first | grind | (simp only [Sem.run, ho]; exact ih _ w a e)
    · cases e
  | program k ih => intro w a e; exact ih _ w a e
  | mark m k ih => intro w a e; exact ih w a e
  | _ => intro w a e; simp [rd] at e
theorem rd_bind {α β : Type} (s : Sem α) (f : α → Sem β) : ∀ (h : Heap) (a : α), rd P s h = some a → rd P (s >>= f) h = rd P (f a) h := by
  show ∀ (h : Heap) (a : α), rd P s h = some a → rd P (s.bind f) h = rd P (f a) h
  induction s with
  | pure b => intro h a e; simp only [rd, Option.some.injEq] at e; subst e; rfl
  | load m b k ih =>
    intro h a e
    simp only [rd] at e
    split at e
    · rename_i v hv; simp only [Sem.bind, rd, hv]; exact ih v h a e
    · cases e
  | shape r k ih => intro h a e; exact ih _ h a e
  | frozen b k ih => intro h a e; exact ih _ h a e
  | getObj r k ih =>
    intro h a e
    simp only [rd] at e
    split at e
    · cases e
    · rename_i o hne ho
      cases o <;> first | grind | (simp only [Sem.bind, rd, ho]; exact ih _ h a e)
    · cases e
  | program k ih => intro h a e; exact ih _ h a e
  | mark m k ih => intro h a e; exact ih h a e
  | _ => intro h a e; simp [rd] at e
def CallsH (P : Program) (f : FuncId) (args : Array Value) (h : Heap) (R : Value → Heap → Prop) : Prop :=
  ∀ w : World, w.heap = h → Calls P f args w (fun e w' => ∃ v, e = .returned v ∧ R v w'.heap ∧ Same w w')
theorem CallsH.mono {f : FuncId} {args : Array Value} {h : Heap} {R R' : Value → Heap → Prop} (hh : CallsH P f args h R) (hr : ∀ v h', R v h' → R' v h') : CallsH P f args h R' :=
  fun w hw => (hh w hw).mono fun _ _ ⟨v, he, hR, hs⟩ => ⟨v, he, hr _ _ hR, hs⟩
def nextK (P : Program) (K : Value → Heap → Prop) : Next → Heap → Prop
  | .value v, h => K v h
  | .skip, h => K undef h
  | .enter f args, h => CallsH P f args h K
  | _, _ => False
def OpWp (P : Program) (o : Oper) (ρ : Operand → Value) (h : Heap) (K : Value → Heap → Prop) : Prop :=
  denSem P (execOp ρ o) h (nextK P K)
theorem OpWp.wp {o : Oper} {a : Act} {w : World} {K : Value → Heap → Prop} {next : Act → World → Prop} {Q : Exit → Act → World → Prop}
    (hh : OpWp P o a.eval w.heap K) (hn : ∀ v w', K v w'.heap → Same w w' → next (a.put o.dst v) w') : o.wp P a w next Q := by
  have ⟨x, w', r1, r2, r3⟩ := denSem_sound _ _ _ hh w rfl
  unfold Oper.wp
  rw [r1]
  cases x with
  | value v => exact hn _ _ r2 r3
  | skip => exact hn _ _ r2 r3
  | enter f args =>
    refine (r2 w' rfl).mono ?_
    rintro e w'' ⟨v, rfl, hR, hs⟩
    exact hn _ _ hR (r3.trans hs)
  | _ => exact r2.elim
inductive Leaf where
  | int (k : IntKind)
  | bool
  | str
  | ptr
  | slice
  | map
  | raw
inductive Sh where
  | one (l : Leaf)
  | agg (ls : List Leaf)
def Leaf.ex : Leaf → (Value → Prop) → Prop
  | .int k, F => ∃ n : Int, F (.int k n)
  | .bool, F => ∃ b : Bool, F (.bool b)
  | .str, F => ∃ s : ByteArray, F (.string s)
  | .ptr, F => ∃ p : Option Addr, F (.pointer p)
  | .slice, F => ∃ (p : Option Addr) (l c : Nat), F (.slice p l c)
  | .map, F => ∃ m : Option Nat, F (.map m)
  | .raw, F => ∃ v : Value, F v
def exs : List Leaf → (List Value → Prop) → Prop
  | [], F => F []
  | l :: ls, F => l.ex fun v => exs ls fun vs => F (v :: vs)
def Sh.ex : Sh → (Value → Prop) → Prop
  | .one l, F => l.ex F
  | .agg ls, F => exs ls fun vs => F (.agg vs.toArray)
def exShs : List Sh → (List Value → Prop) → Prop
  | [], F => F []
  | s :: ss, F => s.ex fun v => exShs ss fun vs => F (v :: vs)
theorem Leaf.ex_some {l : Leaf} (h : l.ex F) : ∃ v, F v := by
  cases l <;> simp only [Leaf.ex] at h
  all_goals grind
theorem exs_some : ∀ {ls : List Leaf} {F : List Value → Prop}, exs ls F → ∃ vs, vs.length = ls.length ∧ F vs
  | [], _, h => ⟨[], rfl, h⟩
  | _ :: _, _, h => by
    have ⟨v, h⟩ := Leaf.ex_some h
    have ⟨vs, hl, h⟩ := exs_some h
    exact ⟨v :: vs, by simp [hl], h⟩
theorem Sh.ex_some {s : Sh} (h : s.ex F) : ∃ v, F v := by
  cases s with
  | one l => exact Leaf.ex_some h
  | agg ls => have ⟨vs, _, h⟩ := exs_some h; exact ⟨_, h⟩
theorem exShs_some : ∀ {ls : List Sh} {F : List Value → Prop}, exShs ls F → ∃ vs, F vs
  | [], _, h => ⟨[], h⟩
  | _ :: _, _, h => by
    have ⟨v, h⟩ := Sh.ex_some h
    have ⟨vs, h⟩ := exShs_some h
    exact ⟨v :: vs, h⟩
def leafOf (P : Program) (t : TypeId) : Option Leaf :=
  match P.underlying t with
  | some .bool => some .bool
  | some (.int k) => some (.int k)
  | some .string => some .str
  | some (.pointer _) => some .ptr
  | some (.slice _) => some .slice
  | some (.map _ _) => some .map
  | some (.struct _) => none
  | some (.array _ _) => none
  | some (.tuple _) => none
  | some _ => some .raw
  | none => none
def leavesOf (P : Program) : Nat → TypeId → Option (List Leaf)
  | 0, _ => none
  | n + 1, t =>
    match P.underlying t with
    | some (.struct fs) => fs.toList.foldr (fun f acc => match leavesOf P n f.type, acc with | some a, some b => some (a ++ b) | _, _ => none) (some [])
    | some (.array m e) => (leavesOf P n e).map fun l => (List.replicate m l).flatten
    | _ => (leafOf P t).map ([·])
def isAggB (P : Program) (t : TypeId) : Bool :=
  match P.underlying t with
  | some (.struct _) => true
  | some (.array _ _) => true
  | _ => false
def shOf (P : Program) (t : TypeId) : Option Sh :=
  match isAggB P t with
  | true => (leavesOf P 20 t).map .agg
  | false => (leafOf P t).map .one
def shsOf (P : Program) : List TypeId → Option (List Sh)
  | [] => some []
  | t :: ts => match shOf P t, shsOf P ts with
    | some s, some ss => some (s :: ss)
    | _, _ => none
def retEx (P : Program) (t : TypeId) (F : Value → Prop) : Prop :=
  match P.underlying t with
  | some (.tuple ts) => (match shsOf P ts.toList with | some l => exShs l fun vs => F (.tuple vs.toArray) | none => False)
  | _ => (match shOf P t with | some s => s.ex F | none => False)
theorem retEx_some (h : retEx P t F) : ∃ v, F v := by
  unfold retEx at h
  split at h
  · split at h
    · have ⟨_, h⟩ := exShs_some h; exact ⟨_, h⟩
    · exact h.elim
  · split at h
    · exact Sh.ex_some h
    · grind
theorem retEx_eq {v : Value} {K : Value → Prop} (h : retEx P t fun v' => v = v' ∧ K v') : K v := by
  obtain ⟨v', rfl, h⟩ := retEx_some h
  exact h
def onSome {α : Type} (p : Option α) (F : α → Prop) : Prop :=
  match p with
  | some a => F a
  | none => False
theorem onSome_iff {α : Type} {p : Option α} {F : α → Prop} : onSome p F ↔ ∃ a, p = some a ∧ F a := by
  cases p <;> simp [onSome]
@[simp] theorem onSome_some {α : Type} {a : α} {F : α → Prop} : onSome (some a) F ↔ F a := Iff.rfl
def Env.set (σ : Env) (d : Nat) (v : Value) : Env := fun t => bif Nat.beq t d then some v else σ t
def Env.ev (σ : Env) : Operand → Option Value
  | .tmp t => σ t
  | .const v => some v
  | .global g => some (.pointer (some ⟨g, 0, none⟩))
  | .func f => some (.func (.func f) #[] #[])
def Env.tot (σ : Env) : Operand → Value := fun x => (σ.ev x).getD undef
def defd (σ : Env) (o : Oper) : Bool := o.op.operands.toList.all fun x => (σ.ev x).isSome
def Fits (σ : Env) (ρ : Operand → Value) : Prop := ∀ x v, σ.ev x = some v → ρ x = v
def runPure (P : Program) {α : Type} : Sem α → Option α
  | .pure a => some a
  | .program k => runPure P (k P)
  | .mark _ k => runPure P k
  | _ => none
theorem runPure_den {α : Type} (s : Sem α) : ∀ (a : α), runPure P s = some a → ∀ (h : Heap) (K : α → Heap → Prop), K a h → denSem P s h K := by
  induction s with
  | pure b => intro a e h K hk; simp only [runPure, Option.some.injEq] at e; subst e; exact hk
  | program k ih => intro a e h K hk; exact ih P a e h K hk
  | mark m k ih => intro a e h K hk; exact ih a e h K hk
  | _ => intro a e; simp [runPure] at e
theorem runPure_rd {α : Type} (s : Sem α) : ∀ (a : α), runPure P s = some a → ∀ (h : Heap), rd P s h = some a := by
  induction s with
  | pure b => intro a e h; exact e
  | program k ih => intro a e h; exact ih P a e h
  | mark m k ih => intro a e h; exact ih a e h
  | _ => intro a e; simp [runPure] at e
def runNew (P : Program) {α : Type} : Sem α → Option (Obj × (Nat → Sem α))
  | .new o k => some (o, k)
  | .program k => runNew P (k P)
  | .mark _ k => runNew P k
  | _ => none
theorem runNew_den {α : Type} (s : Sem α) : ∀ (o : Obj) (f : Nat → Sem α), runNew P s = some (o, f) → ∀ (h : Heap) (K : α → Heap → Prop), denSem P (f h.size) (h.push o) K → denSem P s h K := by
  induction s with
  | new b k ih => intro o f e h K hk; obtain ⟨rfl, rfl⟩ := e; exact hk
  | program k ih => intro o f e h K hk; exact ih P o f e h K hk
  | mark m k ih => intro o f e h K hk; exact ih o f e h K hk
  | _ => intro o f e; simp [runNew] at e
theorem exec_tot {σ : Env} {ρ : Operand → Value} (hf : Fits σ ρ) (o : Oper) (hd : defd σ o = true) (hs : ∀ cs b, o.op ≠ .select cs b) : execOp σ.tot o = execOp ρ o := by
  refine execOp_congr o hs fun x hx => ?_
  have ⟨v, hv⟩ := Option.isSome_iff_exists.1 (List.all_eq_true.1 hd x (by grind))
  rw [hf x v hv]
  simp [Env.tot, hv]
def NewP (h : Heap) (o : Obj) (K : Nat → Heap → Prop) : Prop := ∀ b h', b = h.size → h' = h.push o → K b h'
def StoreP (h : Heap) (a : Addr) (v : Value) (K : Heap → Prop) : Prop :=
  (hcell h a).isSome = true ∧ hfrozen h a = false ∧ ∀ h', h' = hset h a v → K h'
def storeL (a : Addr) : List Value → Nat → Heap → (Heap → Prop) → Prop
  | [], _, h, K => K h
  | v :: vs, i, h, K => (match oneCell v with | true => StoreP h (a.add i) v fun h' => storeL a vs (i + 1) h' K | false => False)
def loadL (h : Heap) (a : Addr) : List Leaf → Nat → (List Value → Prop) → Prop
  | [], _, F => F []
  | l :: ls, i, F => l.ex fun v => hcell h (a.add i) = some v ∧ loadL h a ls (i + 1) fun vs => F (v :: vs)
def heldL (a : Addr) : List Value → Nat → Heap → Prop
  | [], _, _ => True
  | v :: vs, i, h => hcell h (a.add i) = some v ∧ heldL a vs (i + 1) h
structure LoadB (h : Heap) (a : Addr) (ls : List Leaf) (F : List Value → Prop) : Prop where
  run : loadL h a ls 0 F
def denLoad (P : Program) (t : TypeId) (h : Heap) (a : Addr) (K : Value → Option (Heap → Prop) → Prop) : Prop :=
  match isAggB P t with
  | true => (match leavesOf P 20 t, P.info? t with
    | some ls, some i => (match Nat.beq i.size ls.length with
      | true => (match Nat.ble 100 i.size with
        | true => LoadB h a ls fun vs => K (.agg vs.toArray) (some (heldL a vs 0))
        | false => loadL h a ls 0 fun vs => K (.agg vs.toArray) (some (heldL a vs 0)))
      | false => False)
    | _, _ => False)
  | false => (match leafOf P t with
    | some l => l.ex fun v => hcell h a = some v ∧ K v (some fun h' => hcell h' a = some v)
    | none => False)
def nilCmp (P : Program) (t : TypeId) (u v : Value) : Option Bool :=
  match v with
  | .pointer none => (match u, P.underlying t with | .pointer p, some (.pointer _) => some p.isNone | _, _ => none)
  | .map none => (match u, P.underlying t with | .map m, some (.map _ _) => some m.isNone | _, _ => none)
  | .slice none _ _ => (match u, P.underlying t with | .slice p _ _, some (.slice _) => some p.isNone | _, _ => none)
  | _ => none
def pureK (P : Program) (o : Oper) (σ : Env) (K : Value → Option (Heap → Prop) → Prop) : Prop :=
  match defd σ o with
  | true => (match runPure P (execOp σ.tot o) with | some (.value v) => K v none | _ => False)
  | false => False
def EqV (P : Program) (t : TypeId) (u v : Value) (b : Bool) : Prop := ∀ h, rd P (Op.equal t u v) h = some b
def constY (o : Oper) : Bool :=
  match o.op with
  | .binOp _ _ _ (.const _) _ => true
  | _ => false
def eqForm (P : Program) (o : Oper) (t : TypeId) (u v : Value) : Bool :=
  match v with
  | .nilIface => constY o
  | .agg _ => (match u with | .agg _ => !P.eqGuardType P.depth t | _ => false)
  | .pointer _ => (match u with | .pointer _ => !constY o | _ => false)
  | _ => false
def denBin (P : Program) (o : Oper) (op : BinOp) (t : TypeId) (u v : Value) (σ : Env) (K : Value → Option (Heap → Prop) → Prop) : Prop :=
  match op with
  | .eql => (match eqForm P o t u v with
    | true => ∃ b : Bool, EqV P t u v b ∧ K (.bool b) none
    | false => (match nilCmp P t u v with | some b => K (.bool b) none | none => pureK P o σ K))
  | .neq => (match eqForm P o t u v with
    | true => ∃ b : Bool, EqV P t u v b ∧ K (.bool (!b)) none
    | false => (match nilCmp P t u v with | some b => K (.bool (!b)) none | none => pureK P o σ K))
  | .quo => (match u, v with
    | .int k a, .int k' b => (match decide (k = k') with | true => if b = 0 then False else K (.int k (k.wrap (a.tdiv b))) none | false => False)
    | _, _ => False)
  | .rem => (match u, v with
    | .int k a, .int k' b => (match decide (k = k') with | true => if b = 0 then False else K (.int k (a.tmod b)) none | false => False)
    | _, _ => False)
  | .shl => (match u, v with
    | .int k a, .int _ b => if b < 0 then False else K (.int k (k.wrap (a * 2 ^ min b.toNat k.bits))) none
    | _, _ => False)
  | .shr => (match u, v with
    | .int k a, .int _ b => if b < 0 then False else K (.int k (a.fdiv (2 ^ min b.toNat k.bits))) none
    | _, _ => False)
  | .add => (match u, v with
    | .string a, .string b => ((a.size + b.size : Nat) : Int) ≤ IntKind.i64.max ∧ K (.string (a ++ b)) none
    | _, _ => pureK P o σ K)
  | _ => pureK P o σ K
def fieldOff (P : Program) (s : TypeId) (f : Nat) : Option Nat :=
  match P.underlying s with
  | some (.struct fs) => (match fs[f]? with
    | some fl => (match P.info? fl.type with | some i => (match Nat.beq i.size 0 with | true => none | false => some fl.offset) | none => none)
    | none => none)
  | _ => none
def idxAll (n : Int) : List Value → Nat → (Value → Prop) → Prop
  | [], _, _ => True
  | v :: vs, i, F => (n = (i : Int) → F v) ∧ idxAll n vs (i + 1) F
def bigT (P : Program) (t : TypeId) : Bool :=
  match P.info? t with
  | some i => Nat.ble 100 i.size
  | none => false
def bigSl (P : Program) (t : TypeId) : Bool :=
  match P.underlying t with
  | some (.slice e) => bigT P e
  | _ => false
def partsV (σ : Env) : List (Nat × Operand) → Option (List (Nat × Value))
  | [] => some []
  | (i, x) :: r => match σ.ev x, partsV σ r with
    | some v, some l => some ((i, v) :: l)
    | _, _ => none
def onVal (nx : Next) (F : Value → Prop) : Prop := match nx with | .value v => F v | _ => False
def FieldV (P : Program) (s : TypeId) (v : Value) (f : Nat) (u : Value) : Prop := ∀ h', rd P (Instr.field s v f) h' = some u
def BuildV (P : Program) (t : TypeId) (l : Array (Nat × Value)) (u : Value) : Prop := ∀ h', rd P (Instr.build t l) h' = some u
def optInt (σ : Env) : Option Operand → Option (Option Int)
  | none => some none
  | some x => match σ.ev x with
    | some (.int _ n) => some (some n)
    | _ => none
def sliceK (len cap : Nat) : Option Int → Option Int → (Nat → Nat → Prop) → Prop
  | none, none, F => F 0 len
  | none, some b, F => (0 ≤ b ∧ b ≤ (cap : Int)) ∧ F 0 b.toNat
  | some a, none, F => (0 ≤ a ∧ a ≤ (len : Int)) ∧ F a.toNat len
  | some a, some b, F => (0 ≤ b ∧ b ≤ (cap : Int)) ∧ (0 ≤ a ∧ a ≤ b) ∧ F a.toNat b.toNat
def slBase (p : Option Addr) (m l size : Nat) : Option Addr := if m = l then p else p.map (·.add (l * size))
def mapSame (m : Value) (h h' : Heap) : Prop :=
  match m with
  | .map (some r) => h'[r]? = h[r]?
  | _ => True
def LookV (P : Program) (t : TypeId) (m k : Value) (ok : Bool) (h : Heap) (v : Value) : Prop :=
  ∀ h', mapSame m h h' → rd P (Instr.lookup t m k ok) h' = some v
def LenV (P : Program) (tys : Array TypeId) (ty : TypeId) (m : Value) (h : Heap) (v : Value) : Prop :=
  ∀ h', mapSame m h h' → rd P (Builtin.len_ tys ty #[m]) h' = some v
def ConvV (P : Program) (s d : TypeId) (v : Value) (h : Heap) (b : ByteArray) : Prop := rd P (convert s d v) h = some (.string b)
def isMapV : Value → Bool
  | .map _ => true
  | _ => false
def denRead (P : Program) (o : Oper) (σ : Env) (h : Heap) (K : Value → Option (Heap → Prop) → Prop) : Prop :=
  match o.op with
  | .pick c a b => (match σ.ev c, σ.ev a, σ.ev b with
    | some (.bool q), some va, some vb => if q = true then K va none else K vb none
    | _, _, _ => False)
  | .load t x => (match σ.ev x with
    | some (.pointer p) => onSome p fun a => denLoad P t h a K
    | _ => False)
  | .nilCheck x => (match σ.ev x with
    | some (.pointer p) => onSome p fun a => K (.pointer (some a)) none
    | _ => pureK P o σ K)
  | .binOp op t x y _ => (match σ.ev x, σ.ev y with
    | some u, some v => denBin P o op t u v σ K
    | _, _ => False)
  | .fieldAddr s x f => (match σ.ev x, fieldOff P s f with
    | some (.pointer p), some off => onSome p fun a => K (.pointer (some (a.add off))) none
    | _, _ => False)
  | .indexAddr t x i => (match P.underlying t, σ.ev x, σ.ev i with
    | some (.slice e), some (.slice base len _), some (.int _ n) => (match P.info? e with
      | some i => (0 ≤ n ∧ n < (len : Int)) ∧ onSome base fun a => K (.pointer (some (a.add (n.toNat * i.size)))) none
      | none => False)
    | some (.array len e), some (.pointer base), some (.int _ n) => (match P.info? e with
      | some i => (0 ≤ n ∧ n < (len : Int)) ∧ onSome base fun a => K (.pointer (some (a.add (n.toNat * i.size)))) none
      | none => False)
    | _, _, _ => False)
  | .index t x i => (match P.underlying t, σ.ev x, σ.ev i with
    | some .string, some (.string s), some (.int _ n) => (0 ≤ n ∧ n < (s.size : Int)) ∧ K (.int .u8 (s.data.toList.getD n.toNat 0).toNat) none
    | some (.array len e), some (.agg cs), some (.int _ n) => (match leafOf P e, P.info? e, Nat.beq len cs.toList.length with
      | some _, some i, true => (match Nat.beq i.size 1 with
        | true => (0 ≤ n ∧ n < (len : Int)) ∧ idxAll n cs.toList 0 fun v => K v none
        | false => False)
      | _, _, _ => False)
    | _, _, _ => False)
  | .slice t x lo hi mx => (match mx, P.underlying t, σ.ev x, optInt σ lo, optInt σ hi with
    | none, some (.slice e), some (.slice p len cap), some l, some hh => (match P.info? e with
      | some i => sliceK len cap l hh fun a b => K (.slice (slBase p cap a i.size) (b - a) (cap - a)) none
      | none => False)
    | none, some .string, some (.string s), some l, some hh => sliceK s.size s.size l hh fun a b => K (.string (s.extract a b)) none
    | none, some (.array n e), some (.pointer p), some l, some hh => (match P.info? e with
      | some i => onSome p fun ad => sliceK n n l hh fun a b => K (.slice (slBase (some ad) n a i.size) (b - a) (n - a)) none
      | none => False)
    | some mo, some (.slice e), some (.slice p _ cap), some none, some (some b) => (match σ.ev mo, P.info? e with
      | some (.int _ m), some i => (0 ≤ m ∧ m ≤ (cap : Int)) ∧ (0 ≤ b ∧ b ≤ m) ∧ K (.slice (slBase p m.toNat 0 i.size) b.toNat m.toNat) none
      | _, _ => False)
    | some mo, some (.slice e), some (.slice p _ cap), some (some a), some (some b) => (match σ.ev mo, P.info? e with
      | some (.int _ m), some i => (0 ≤ m ∧ m ≤ (cap : Int)) ∧ (0 ≤ b ∧ b ≤ m) ∧ (0 ≤ a ∧ a ≤ b) ∧ K (.slice (slBase p m.toNat a.toNat i.size) (b.toNat - a.toNat) (m.toNat - a.toNat)) none
      | _, _ => False)
    | _, _, _, _, _ => False)
  | .lookup t x i ok => (match σ.ev x, σ.ev i with
    | some m, some k => retEx P o.type fun v => LookV P t m k ok h v ∧ K v (some (mapSame m h))
    | _, _ => False)
  | .call { callee := .builtin .len, args := args, argTypes := tys } => (match args.toList with
    | [x] => (match σ.ev x with
      | some m => (match isMapV m with
        | true => ∃ n : Int, LenV P tys o.type m h (.int .i64 n) ∧ K (.int .i64 n) (some (mapSame m h))
        | false => pureK P o σ K)
      | none => False)
    | _ => False)
  | .convert s d x => (match P.underlying d with
    | some .string => (match σ.ev x with
      | some v => ∃ b : ByteArray, ConvV P s d v h b ∧ K (.string b) (some fun h' => ConvV P s d v h' b)
      | none => False)
    | _ => pureK P o σ K)
  | .field s x f => (match bigT P s with
    | true => (match σ.ev x with
      | some v => retEx P o.type fun u => FieldV P s v f u ∧ K u none
      | none => False)
    | false => pureK P o σ K)
  | .build t parts => (match bigT P t with
    | true => (match partsV σ parts.toList with
      | some l => retEx P o.type fun u => BuildV P t l.toArray u ∧ K u none
      | none => False)
    | false => pureK P o σ K)
  | .sliceToArrayPointer t x => (match P.underlying t, σ.ev x with
    | some (.array n _), some (.slice p len _) => n ≤ len ∧ K (.pointer p) none
    | _, _ => False)
  | .select _ _ => False
  | _ => pureK P o σ K
def isRead (P : Program) (o : Oper) : Bool :=
  match o.op with
  | .move _ | .assign _ | .pick .. | .load .. | .nilCheck _ | .binOp .. | .unOp .. | .makeInterface .. | .makeFunc .. | .slice .. | .fieldAddr .. | .field .. | .indexAddr .. | .index .. | .lookup .. | .extract .. | .build .. | .sliceToArrayPointer .. => true
  | .convert _ d _ => (match P.underlying d with | some (.int _) => true | some .string => true | _ => false)
  | .call { callee := .builtin b, .. } => (match b with | .len | .cap | .min | .max => true | _ => false)
  | _ => false
def hasBody (P : Program) (g : FuncId) : Bool :=
  match P.funcs[g]? with
  | some fn => fn.body.isSome && !(fn.name == "runtime.NumGoroutine")
  | none => false
def evs (σ : Env) : List Operand → Option (List Value)
  | [] => some []
  | x :: xs => match σ.ev x, evs σ xs with
    | some v, some vs => some (v :: vs)
    | _, _ => none
def builtinSem (b : Builtin) (tys : Array TypeId) (ty : TypeId) (vs : Array Value) : Option (Sem Value) :=
  match b with
  | .append => some (Builtin.append_ tys ty vs)
  | .copy => some (Builtin.copy_ tys ty vs)
  | .delete => some (Builtin.delete_ tys ty vs)
  | .clear => some (Builtin.clear_ tys ty vs)
  | _ => none
def newK (P : Program) (o : Oper) (σ : Env) (h : Heap) (K : Value → Heap → Prop) : Prop :=
  match defd σ o with
  | true => (match runNew P (execOp σ.tot o) with
    | some (ob, k) => NewP h ob fun b h' => (match runPure P (k b) with | some (.value v) => K v h' | _ => False)
    | none => False)
  | false => False
def denEff (P : Program) (o : Oper) (σ : Env) (h : Heap) (K : Value → Heap → Prop) : Prop :=
  match o.op with
  | .alloc _ => newK P o σ h K
  | .box _ _ => newK P o σ h K
  | .buildSlice t len parts => (match bigSl P t with
    | true => (match partsV σ parts.toList with
      | some l => denSem P (Instr.buildSlice t len l.toArray) h fun v h' => retEx P o.type fun v' => v = v' ∧ K v' h'
      | none => False)
    | false => newK P o σ h K)
  | .makeMap _ _ => newK P o σ h K
  | .store t x y => (match σ.ev x, σ.ev y with
    | some (.pointer p), some v => onSome p fun a => (match P.info? t with
      | some i => (match Nat.ble 100 i.size with
        | true => v.cells.toList.length = i.size ∧ storeL a v.cells.toList 0 h (K undef)
        | false => (match Nat.beq i.size v.cells.toList.length with | true => storeL a v.cells.toList 0 h (K undef) | false => False))
      | none => False)
    | _, _ => False)
  | .mapUpdate t m k x => (match σ.ev m, σ.ev k, σ.ev x with
    | some m, some k, some x => denSem P (Instr.mapUpdate t m k x) h fun _ h' => K undef h'
    | _, _, _ => False)
  | .insert t m k x => (match σ.ev m, σ.ev k, σ.ev x with
    | some m, some k, some x => denSem P (Instr.mapUpdate t m k x) h fun _ h' => K undef h'
    | _, _, _ => False)
  | .makeSlice t l c => (match σ.ev l, σ.ev c with
    | some l, some c => denSem P (Instr.makeSlice t l c) h fun v h' => retEx P o.type fun v' => v = v' ∧ K v' h'
    | _, _ => False)
  | .convert s d x => (match σ.ev x with
    | some x => denSem P (convert s d x) h fun v h' => retEx P o.type fun v' => v = v' ∧ K v' h'
    | none => False)
  | .call { callee := .builtin b, args := args, argTypes := tys } => (match evs σ args.toList with
    | some vs => (match builtinSem b tys o.type vs.toArray with
      | some s => denSem P s h fun v h' => retEx P o.type fun v' => v = v' ∧ K v' h'
      | none => False)
    | none => False)
  | .call { callee := .value f, args := args, argTypes := _ } => (match σ.ev f, evs σ args.toList with
    | some (.func (.func g) first captured), some vs => (match hasBody P g with
      | true => CallsH P g (first.toList ++ vs ++ captured.toList).toArray h fun v h' => retEx P o.type fun v' => v = v' ∧ K v' h'
      | false => denSem P (callFunc g (first.toList ++ vs ++ captured.toList).toArray) h fun nx h' => onVal nx fun v => retEx P o.type fun v' => v = v' ∧ K v' h')
    | _, _ => False)
  | .range t x => (match σ.ev x with
    | some x => denSem P (Instr.range t x) h fun v h' => ∃ r : Nat, v = .pointer (some ⟨r, 0, none⟩) ∧ K (.pointer (some ⟨r, 0, none⟩)) h'
    | none => False)
  | .next it b => (match σ.ev it with
    | some it => denSem P (Instr.next it b o.type) h fun v h' => (v = .tuple #[.bool false] ∧ K (.tuple #[.bool false]) h') ∨ ∃ k x : Value, v = .tuple #[.bool true, k, x] ∧ K (.tuple #[.bool true, k, x]) h'
    | none => False)
  | .entry it => (match σ.ev it with
    | some it => denSem P (Instr.entry it) h fun v h' => ∃ k x : Value, v = .tuple #[k, x] ∧ K (.tuple #[k, x]) h'
    | none => False)
  | _ => False

end
section
variable {P : Program} {h : Heap}
theorem den_pure {α : Type} (a : α) (K : α → Heap → Prop) : denSem P (pure a : Sem α) h K ↔ K a h := Iff.rfl
theorem den_bind {α β : Type} (s : Sem α) (f : α → Sem β) (K : β → Heap → Prop) : denSem P (s >>= f) h K ↔ denSem P s h (fun a h' => denSem P (f a) h' K) := denSem_bind s f h K
theorem den_typeInfo {t : TypeId} {i : TypeInfo} (hi : P.info? t = some i) (K : TypeInfo → Heap → Prop) : denSem P (typeInfo t) h K ↔ K i h := by
  show denSem P (match P.info? t with | some d => pure d | none => stuck "no such type") h K ↔ _
  rw [hi]; exact Iff.rfl
theorem den_sizeOf {t : TypeId} {i : TypeInfo} (hi : P.info? t = some i) (K : Nat → Heap → Prop) : denSem P (sizeOf t) h K ↔ K i.size h := by
  unfold sizeOf
  rw [den_bind, den_typeInfo hi]; exact Iff.rfl
theorem rd_pure {α : Type} (a : α) : rd P (pure a : Sem α) h = some a := rfl
theorem rd_underlying {t : TypeId} {d : TypeDesc} (hd : P.underlying t = some d) : rd P (underlying t) h = some d := by
  show rd P (match P.underlying t with | some d => pure d | none => stuck "no such type") h = _
  rw [hd]; rfl
theorem rd_typeInfo {t : TypeId} {i : TypeInfo} (hi : P.info? t = some i) : rd P (typeInfo t) h = some i := by
  show rd P (match P.info? t with | some d => pure d | none => stuck "no such type") h = _
  rw [hi]; rfl
theorem rd_sizeOf {t : TypeId} {i : TypeInfo} (hi : P.info? t = some i) : rd P (sizeOf t) h = some i.size := by
  unfold sizeOf
  rw [rd_bind _ _ _ _ (rd_typeInfo hi)]; rfl
theorem isAggB_some {t : TypeId} (hb : isAggB P t = true) : ∃ d, P.underlying t = some d ∧ ((∃ fs, d = .struct fs) ∨ ∃ n e, d = .array n e) := by
  unfold isAggB at hb
  split at hb
  · grind
  · grind
  · cases hb
theorem rd_isAgg_true {t : TypeId} (hb : isAggB P t = true) : rd P (isAgg t) h = some true := by
  have ⟨d, hd, hh⟩ := isAggB_some hb
  unfold isAgg
  rw [rd_bind _ _ _ _ (rd_underlying hd)]
  rcases hh with ⟨fs, rfl⟩ | ⟨n, e, rfl⟩ <;> rfl
theorem rd_isAgg_false {t : TypeId} {l : Leaf} (hl : leafOf P t = some l) : rd P (isAgg t) h = some false := by
  unfold leafOf at hl
  unfold isAgg
  cases hd : P.underlying t with
  | none => grind
  | some d => rw [rd_bind _ _ _ _ (rd_underlying hd)]; rw [hd] at hl; cases d <;> first | rfl | cases hl
end
section
variable {P : Program}
theorem rd_load {a : Addr} {h : Heap} {v : Value} (hc : hcell h a = some v) : rd P (load a) h = some v := by
  unfold load
  simp only [rd, hc]
theorem rd_loadCellsFrom {a : Addr} : ∀ (vs : List Value) (i : Nat) (acc : Array Value) (h : Heap), heldL a vs i h → rd P (loadCellsFrom a i vs.length acc) h = some (acc ++ vs.toArray)
  | [], i, acc, h, _ => by rfl
  | v :: vs, i, acc, h, hh => by
    have ⟨h1, h2⟩ := hh
    simp only [List.length_cons, loadCellsFrom]
    rw [rd_bind _ _ _ _ (rd_load h1), rd_loadCellsFrom vs (i + 1) _ h h2]
    simp
theorem loadL_held {h : Heap} {a : Addr} : ∀ (ls : List Leaf) (i : Nat) (F : List Value → Prop), loadL h a ls i F → ∃ vs, vs.length = ls.length ∧ heldL a vs i h ∧ F vs
  | [], _, _, hh => ⟨[], rfl, trivial, hh⟩
  | _ :: ls, i, _, hh => by
    have ⟨v, h1, h2⟩ := Leaf.ex_some hh
    have ⟨vs, hl, h3, h4⟩ := loadL_held ls (i + 1) _ h2
    exact ⟨v :: vs, by simp [hl], ⟨h1, h3⟩, h4⟩
def okS : Option (Heap → Prop) → Heap → Prop
  | some S, h => S h
  | none, _ => True
def Yv (P : Program) (s : Sem Value) (S : Option (Heap → Prop)) (v : Value) : Prop :=
  ∀ h', okS S h' → rd P s h' = some v
theorem denLoad_ok {t : TypeId} {h : Heap} {a : Addr} {K : Value → Option (Heap → Prop) → Prop} (hh : denLoad P t h a K) :
    ∃ v S, K v S ∧ okS S h ∧ Yv P (loadVar t a) S v := by
  unfold denLoad at hh
  split at hh
  · rename_i hb
    split at hh
    · rename_i ls i hls hi
      split at hh
      · rename_i hn
        have hh : loadL h a ls 0 fun vs => K (.agg vs.toArray) (some (heldL a vs 0)) := by
          split at hh
          · exact hh.run
          · exact hh
        have ⟨vs, hl, h1, h2⟩ := loadL_held _ _ _ hh
        refine ⟨_, _, h2, h1, fun h' hs => ?_⟩
        unfold loadVar
        rw [rd_bind _ _ _ _ (rd_isAgg_true hb)]
        rw [if_pos rfl]
        rw [rd_bind _ _ _ _ (rd_sizeOf hi)]
        have e : i.size = vs.length := by simp_all
        unfold loadCells
        rw [e, rd_bind _ _ _ _ (rd_loadCellsFrom vs 0 #[] h' hs)]
        simp [rd_pure]
      · grind
    · exact hh.elim
  · split at hh
    · rename_i l hl
      have ⟨v, h1, h2⟩ := Leaf.ex_some hh
      refine ⟨v, _, h2, h1, fun h' hs => ?_⟩
      unfold loadVar
      rw [rd_bind _ _ _ _ (rd_isAgg_false hl)]
      exact rd_load hs
    · grind
theorem pureK_ok {o : Oper} {σ : Env} {ρ : Operand → Value} {K : Value → Option (Heap → Prop) → Prop} (hf : Fits σ ρ) (hs : ∀ cs b, o.op ≠ .select cs b) (hh : pureK P o σ K) :
    ∃ v, K v none ∧ ∀ h', rd P (execOp ρ o) h' = some (.value v) := by
  unfold pureK at hh
  split at hh
  · rename_i hd
    split at hh
    · rename_i v hv
      exact ⟨v, hh, fun h' => runPure_rd _ _ (by rw [← exec_tot hf o hd hs]; exact hv) _⟩
    · grind
  · grind
theorem nilCmp_ok {t : TypeId} {u v : Value} {b : Bool} (hh : nilCmp P t u v = some b) : ∀ h', rd P (Op.equal t u v) h' = some b := by
  intro h'
  unfold Op.equal Op.maxDepth
  unfold nilCmp at hh
  split at hh
  · split at hh
    · rename_i p e he
      simp only [Option.some.injEq] at hh
      subst hh
      unfold Op.equalIn
      rw [rd_bind _ _ _ _ (rd_underlying he)]
      cases p <;> rfl
    · cases hh
  · split at hh
    · rename_i m k e he
      simp only [Option.some.injEq] at hh
      subst hh
      unfold Op.equalIn
      rw [rd_bind _ _ _ _ (rd_underlying he)]
      cases m <;> rfl
    · cases hh
  · split at hh
    · rename_i p _ _ e he
      simp only [Option.some.injEq] at hh
      subst hh
      unfold Op.equalIn
      rw [rd_bind _ _ _ _ (rd_underlying he)]
      cases p <;> rfl
    · cases hh
  · cases hh
theorem nilCmp_guard {op : BinOp} {t : TypeId} {x y : Operand} {u v : Value} {b : Bool} (hh : nilCmp P t u v = some b) : ∀ h', rd P (eqGuard op t x y u v) h' = some () := by
  intro h'
  unfold nilCmp at hh
  unfold eqGuard
  split at hh
  · split at hh
    · split <;> exact rfl
    · cases hh
  · split at hh
    · split <;> exact rfl
    · cases hh
  · split at hh
    · split <;> exact rfl
    · cases hh
  · cases hh
theorem nilCmp_form {t : TypeId} {u v : Value} {b : Bool} (hh : nilCmp P t u v = some b) :
    (∃ p, u = .pointer p ∧ v = .pointer none) ∨ (∃ m, u = .map m ∧ v = .map none) ∨ (∃ p l c l' c', u = .slice p l c ∧ v = .slice none l' c') := by
  unfold nilCmp at hh
  split at hh
  · grind
  · grind
  · grind
  · cases hh
theorem exec_bin {o : Oper} {op : BinOp} {t t' : TypeId} {x y : Operand} {ρ : Operand → Value} {u v r : Value} {h : Heap} (ho : o.op = .binOp op t x y t') (hx : ρ x = u) (hy : ρ y = v)
    (h1 : rd P (eqGuard op t x y u v) h = some ()) (h2 : rd P (binOp op t u v) h = some r) : rd P (execOp ρ o) h = some (.value r) := by
  unfold execOp; rw [ho]
  simp only [hx, hy]
  have h3 : rd P (do eqGuard op t x y u v; binOp op t u v) h = some r := by rw [rd_bind _ _ _ _ h1]; exact h2
  rw [rd_bind _ _ _ _ h3]; rfl
theorem eqForm_ok {o : Oper} {op : BinOp} {t t' : TypeId} {x y : Operand} {ρ : Operand → Value} {u v : Value} (ho : o.op = .binOp op t x y t') (hop : op = .eql ∨ op = .neq) (hx : ρ x = u) (hy : ρ y = v) (hq : eqForm P o t u v = true) {b : Bool} (hb : EqV P t u v b) :
    ∀ h', rd P (execOp ρ o) h' = some (.value (.bool (if op = .eql then b else !b))) := by
  intro h'
  have hguard : rd P (eqGuard op t x y u v) h' = some () := by
    unfold eqForm at hq
    split at hq
    · have hc : ∃ c, y = .const c := by
        unfold constY at hq
        rw [ho] at hq
        cases y <;> first | grind | cases hq
      obtain ⟨c, rfl⟩ := hc
      rcases hop with rfl | rfl <;> cases u <;> first | rfl | (cases x <;> rfl)
    · split at hq
      · rcases hop with rfl | rfl
        · show rd P (program >>= fun p => program >>= fun q => if (!p.eqGuardType q.depth t) = true then pure () else _) h' = some ()
          rw [rd_bind _ _ _ _ (show rd P program h' = some P from rfl), rd_bind _ _ _ _ (show rd P program h' = some P from rfl), if_pos hq]
          rfl
        · show rd P (program >>= fun p => program >>= fun q => if (!p.eqGuardType q.depth t) = true then pure () else _) h' = some ()
          rw [rd_bind _ _ _ _ (show rd P program h' = some P from rfl), rd_bind _ _ _ _ (show rd P program h' = some P from rfl), if_pos hq]
          rfl
      · cases hq
    · split at hq
      · unfold eqGuard
        split <;> exact rfl
      · cases hq
    · cases hq
  refine exec_bin ho hx hy hguard ?_
  have key : ∀ u v : Value, (eqForm P o t u v = true) → EqV P t u v b → rd P (binOp op t u v) h' = some (.bool (if op = .eql then b else !b)) := by
    intro u v hq hb
    unfold eqForm at hq
    split at hq
    · rcases hop with rfl | rfl
      · have : binOp .eql t u .nilIface = (Op.equal t u .nilIface >>= fun q => pure (Value.bool q)) := by cases u <;> rfl
        rw [this, rd_bind _ _ _ _ (hb h')]; rfl
      · have : binOp .neq t u .nilIface = (Op.equal t u .nilIface >>= fun q => pure (Value.bool (!q))) := by cases u <;> rfl
        rw [this, rd_bind _ _ _ _ (hb h')]; rfl
    · split at hq
      · rcases hop with rfl | rfl
        · show rd P (Op.equal t _ _ >>= fun q => pure (Value.bool q)) h' = _
          rw [rd_bind _ _ _ _ (hb h')]; rfl
        · show rd P (Op.equal t _ _ >>= fun q => pure (Value.bool (!q))) h' = _
          rw [rd_bind _ _ _ _ (hb h')]; rfl
      · cases hq
    · split at hq
      · rcases hop with rfl | rfl
        · show rd P (Op.equal t _ _ >>= fun q => pure (Value.bool q)) h' = _
          rw [rd_bind _ _ _ _ (hb h')]; rfl
        · show rd P (Op.equal t _ _ >>= fun q => pure (Value.bool (!q))) h' = _
          rw [rd_bind _ _ _ _ (hb h')]; rfl
      · cases hq
    · cases hq
  exact key u v hq hb
theorem denBin_ok {o : Oper} {op : BinOp} {t t' : TypeId} {x y : Operand} {σ : Env} {ρ : Operand → Value} {u v : Value} {K : Value → Option (Heap → Prop) → Prop}
    (ho : o.op = .binOp op t x y t') (hf : Fits σ ρ) (hx : ρ x = u) (hy : ρ y = v) (hh : denBin P o op t u v σ K) :
    ∃ v, K v none ∧ ∀ h', rd P (execOp ρ o) h' = some (.value v) := by
  have hs : ∀ cs b, o.op ≠ .select cs b := by grind
  unfold denBin at hh
  split at hh
  · split at hh
    · rename_i hq
      have ⟨b, hb, hK⟩ := hh
      exact ⟨_, hK, eqForm_ok ho (.inl rfl) hx hy hq hb⟩
    · split at hh
      · rename_i b hb
        refine ⟨_, hh, fun h' => exec_bin ho hx hy (nilCmp_guard hb h') ?_⟩
        have hb' : binOp .eql t u v = (do pure (.bool (← Op.equal t u v))) := by
          rcases nilCmp_form hb with ⟨p, rfl, rfl⟩ | ⟨m, rfl, rfl⟩ | ⟨p, l, c, l', c', rfl, rfl⟩ <;> rfl
        rw [hb', rd_bind _ _ _ _ (nilCmp_ok hb h')]; rfl
      · exact pureK_ok hf hs hh
  · split at hh
    · rename_i hq
      have ⟨b, hb, hK⟩ := hh
      exact ⟨_, hK, eqForm_ok ho (.inr rfl) hx hy hq hb⟩
    · split at hh
      · rename_i b hb
        refine ⟨_, hh, fun h' => exec_bin ho hx hy (nilCmp_guard hb h') ?_⟩
        have hb' : binOp .neq t u v = (do pure (.bool (!(← Op.equal t u v)))) := by
          rcases nilCmp_form hb with ⟨p, rfl, rfl⟩ | ⟨m, rfl, rfl⟩ | ⟨p, l, c, l', c', rfl, rfl⟩ <;> rfl
        rw [hb', rd_bind _ _ _ _ (nilCmp_ok hb h')]; rfl
      · exact pureK_ok hf hs hh
  · split at hh
    · rename_i k a k' b
      split at hh
      · rename_i hk
        obtain rfl : k = k' := of_decide_eq_true hk
        split at hh
        · exact hh.elim
        · rename_i hb
          refine ⟨_, hh, fun h' => exec_bin ho hx hy (by rfl) ?_⟩
          simp only [binOp, ne_eq, not_true, if_false, Op.intDiv, hb]
          rfl
      · exact hh.elim
    · exact hh.elim
  · split at hh
    · rename_i k a k' b
      split at hh
      · rename_i hk
        obtain rfl : k = k' := of_decide_eq_true hk
        split at hh
        · exact hh.elim
        · rename_i hb
          refine ⟨_, hh, fun h' => exec_bin ho hx hy (by rfl) ?_⟩
          simp only [binOp, ne_eq, not_true, if_false, Op.intDiv, hb]
          rfl
      · grind
    · grind
  · split at hh
    · split at hh
      · exact hh.elim
      · rename_i hb
        refine ⟨_, hh, fun h' => exec_bin ho hx hy (by rfl) ?_⟩
        simp only [binOp, Op.shift, hb, if_false]
        rfl
    · exact hh.elim
  · split at hh
    · split at hh
      · exact hh.elim
      · rename_i hb
        refine ⟨_, hh, fun h' => exec_bin ho hx hy (by rfl) ?_⟩
        simp only [binOp, Op.shift, hb, if_false]
        rfl
    · exact hh.elim
  · split at hh
    · have ⟨hb, hh⟩ := hh
      refine ⟨_, hh, fun h' => exec_bin ho hx hy (by rfl) ?_⟩
      simp only [binOp, Op.stringOp]
      rw [if_neg (by omega)]
      rfl
    · exact pureK_ok hf hs hh
  · exact pureK_ok hf hs hh
theorem sliceBound_ok {x : Value} {k : IntKind} {n : Int} {y : Nat} {code : BoundsCode} {h : Heap} (hx : x = .int k n) (h1 : 0 ≤ n) (h2 : n ≤ (y : Int)) : rd P (Instr.sliceBound x y code) h = some n.toNat := by
  subst hx
  show rd P (if 0 ≤ n ∧ n ≤ (y) then _ else _) h = _
  rw [if_pos ⟨h1, h2⟩]
  rfl
theorem optInt_some {σ : Env} {ρ : Operand → Value} (hf : Fits σ ρ) {x : Option Operand} {n : Option Int} (hh : optInt σ x = some n) :
    (x = none ∧ n = none) ∨ ∃ k m, n = some m ∧ x.map ρ = some (.int k m) := by
  cases x with
  | none => simp only [optInt, Option.some.injEq] at hh; exact .inl ⟨rfl, hh.symm⟩
  | some x =>
    simp only [optInt] at hh
    split at hh
    · rename_i k m hm
      simp only [Option.some.injEq] at hh
      exact .inr ⟨k, m, hh.symm, by simp [hf _ _ hm]⟩
    · cases hh
theorem sliceBounds_ok {σ : Env} {ρ : Operand → Value} (hf : Fits σ ρ) {lo hi : Option Operand} {l r : Option Int} (hl : optInt σ lo = some l) (hr : optInt σ hi = some r)
    {isS : Bool} {len cap : Nat} {F : Nat → Nat → Prop} (hh : sliceK len cap l r F) : ∃ a b, F a b ∧ ∀ (h : Heap),
      rd P (Instr.sliceBounds isS len cap (lo.map ρ) (hi.map ρ) none) h = some (a, b, cap) := by
  rcases optInt_some hf hl with ⟨rfl, rfl⟩ | ⟨k1, m1, rfl, e1⟩ <;> rcases optInt_some hf hr with ⟨rfl, rfl⟩ | ⟨k2, m2, rfl, e2⟩
  · exact ⟨0, len, hh, fun h => rfl⟩
  · have ⟨⟨h1, h2⟩, hF⟩ := hh
    refine ⟨0, m2.toNat, hF, fun h => ?_⟩
    unfold Instr.sliceBounds
    rw [e2, rd_bind _ _ _ _ (rd_pure _), rd_bind _ _ _ _ (sliceBound_ok rfl h1 h2)]
    rfl
  · have ⟨⟨h1, h2⟩, hF⟩ := hh
    refine ⟨m1.toNat, len, hF, fun h => ?_⟩
    unfold Instr.sliceBounds
    rw [e1, rd_bind _ _ _ _ (rd_pure _)]
    simp only [Option.map_none]
    rw [rd_bind _ _ _ _ (rd_pure _), rd_bind _ _ _ _ (sliceBound_ok rfl h1 h2)]
    rfl
  · have ⟨⟨h1, h2⟩, ⟨h3, h4⟩, hF⟩ := hh
    refine ⟨m1.toNat, m2.toNat, hF, fun h => ?_⟩
    unfold Instr.sliceBounds
    rw [e1, e2, rd_bind _ _ _ _ (rd_pure _), rd_bind _ _ _ _ (sliceBound_ok rfl h1 h2), rd_bind _ _ _ _ (sliceBound_ok rfl h3 (by omega))]
    rfl
theorem idxAll_at {n : Int} : ∀ (vs : List Value) (i : Nat) (F : Value → Prop), idxAll n vs i F → ∀ j, n = ((i + j : Nat) : Int) → ∀ v, vs[j]? = some v → F v
  | [], _, _, _, j, _, v, hv => by simp at hv
  | u :: vs, i, F, hh, j, hn, v, hv => by
    have ⟨h1, h2⟩ := hh
    cases j with
    | zero => grind
    | succ j => exact idxAll_at vs (i + 1) F h2 j (by omega) v (by grind)
theorem exec_v {s : Sem Value} {v : Value} {h : Heap} (hh : rd P s h = some v) : rd P (do pure (Next.value (← s))) h = some (.value v) := by
  rw [rd_bind _ _ _ _ hh]; rfl
theorem partsV_ok {σ : Env} {ρ : Operand → Value} (hf : Fits σ ρ) : ∀ (xs : List (Nat × Operand)) (l : List (Nat × Value)), partsV σ xs = some l → xs.map (fun (i, x) => (i, ρ x)) = l
  | [], l, h => by cases h; rfl
  | (i, x) :: r, l, h => by
    unfold partsV at h
    split at h
    · rename_i v l' hv hl
      cases h
      rw [List.map_cons, partsV_ok hf r l' hl]
      dsimp only
      rw [hf _ _ hv]
    · cases h
theorem partsV_map {σ : Env} {ρ : Operand → Value} (hf : Fits σ ρ) {xs : Array (Nat × Operand)} {l : List (Nat × Value)} (h : partsV σ xs.toList = some l) : xs.map (fun (i, x) => (i, ρ x)) = l.toArray := by
  rw [← partsV_ok hf _ _ h, ← List.map_toArray, Array.toArray_toList]
theorem denRead_ok {o : Oper} {σ : Env} {ρ : Operand → Value} {h : Heap} {K : Value → Option (Heap → Prop) → Prop} (hf : Fits σ ρ) (hh : denRead P o σ h K) :
    ∃ v S, K v S ∧ okS S h ∧ ∀ h', okS S h' → rd P (execOp ρ o) h' = some (.value v) := by
  have viaPure : (∀ cs b, o.op ≠ .select cs b) → pureK P o σ K → ∃ v S, K v S ∧ okS S h ∧ ∀ h', okS S h' → rd P (execOp ρ o) h' = some (.value v) := fun hs hp => by
    obtain ⟨v, h1, h2⟩ := pureK_ok hf hs hp
    exact ⟨v, none, h1, trivial, fun h' _ => h2 h'⟩
  unfold denRead at hh
  split at hh
  · rename_i c a b ho
    split at hh
    · rename_i q va vb hc ha hb
      have e : execOp ρ o = pure (.value (if q then va else vb)) := by
        unfold execOp; rw [ho]
        simp only [hf _ _ hc, hf _ _ ha, hf _ _ hb]; rfl
      split at hh
      · rename_i hq
        exact ⟨va, none, hh, trivial, fun h' _ => by rw [e, if_pos hq]; rfl⟩
      · rename_i hq
        exact ⟨vb, none, hh, trivial, fun h' _ => by rw [e, if_neg hq]; rfl⟩
    · exact hh.elim
  · rename_i t x ho
    split at hh
    · rename_i p hp
      obtain ⟨a, rfl, hh⟩ := onSome_iff.1 hh
      obtain ⟨v, S, h1, h2, h3⟩ := denLoad_ok hh
      refine ⟨v, S, h1, h2, fun h' hs => ?_⟩
      unfold execOp; rw [ho]
      simp only [hf _ _ hp]
      exact exec_v (h3 h' hs)
    · exact hh.elim
  · rename_i x ho
    split at hh
    · rename_i p hp
      obtain ⟨a, rfl, hh⟩ := onSome_iff.1 hh
      refine ⟨_, none, hh, trivial, fun h' _ => ?_⟩
      unfold execOp; rw [ho]
      simp only [hf _ _ hp]
      rfl
    · exact viaPure (by rw [ho]; intro cs b e; cases e) hh
  · rename_i op t x y t' ho
    split at hh
    · rename_i u v hu hv
      obtain ⟨v, h1, h2⟩ := denBin_ok ho hf (hf _ _ hu) (hf _ _ hv) hh
      exact ⟨v, none, h1, trivial, fun h' _ => h2 h'⟩
    · exact hh.elim
  · rename_i s x f ho
    split at hh
    · rename_i p off hp hoff
      obtain ⟨a, rfl, hh⟩ := onSome_iff.1 hh
      refine ⟨_, none, hh, trivial, fun h' _ => ?_⟩
      unfold fieldOff at hoff
      split at hoff
      · rename_i fs hfs
        split at hoff
        · rename_i fl hfl
          split at hoff
          · rename_i i hi
            split at hoff
            · cases hoff
            · rename_i hz
              simp only [Option.some.injEq] at hoff
              subst hoff
              unfold execOp; rw [ho]
              simp only [hf _ _ hp]
              refine exec_v ?_
              unfold Instr.fieldAt
              rw [rd_bind _ _ _ _ (rd_underlying hfs)]
              simp only [hfl]
              show rd P (do let y ← fieldPlace a fl; pure (Value.pointer (some y))) h' = _
              have hne : ¬ i.size = 0 := fun e => by rw [e] at hz; cases hz
              have h1 : rd P (fieldPlace a fl) h' = some (a.add fl.offset) := by
                unfold fieldPlace
                rw [rd_bind _ _ _ _ (rd_sizeOf hi), if_neg hne]; rfl
              rw [rd_bind _ _ _ _ h1]; rfl
          · cases hoff
        · cases hoff
      · cases hoff
    · exact hh.elim
  · rename_i t x ix ho
    split at hh
    · rename_i e base len cap k n ht hx hi
      split at hh
      · rename_i i hie
        obtain ⟨⟨h1, h2⟩, hh⟩ := hh
        obtain ⟨a, rfl, hh⟩ := onSome_iff.1 hh
        refine ⟨_, none, hh, trivial, fun h' _ => ?_⟩
        unfold execOp; rw [ho]
        simp only [hf _ _ hx, hf _ _ hi]
        refine exec_v ?_
        unfold Instr.indexAt
        show rd P (do let x ← underlying t; _) h' = _
        rw [rd_bind _ _ _ _ (rd_underlying ht)]
        simp only
        rw [rd_bind _ _ _ _ (rd_pure _)]
        simp only
        rw [rd_bind _ _ _ _ (rd_underlying ht)]
        simp only
        rw [if_pos ⟨h1, h2⟩, rd_bind _ _ _ _ (rd_sizeOf hie)]
        rfl
      · exact hh.elim
    · rename_i len e base k n ht hx hi
      split at hh
      · rename_i i hie
        obtain ⟨⟨h1, h2⟩, hh⟩ := hh
        obtain ⟨a, rfl, hh⟩ := onSome_iff.1 hh
        refine ⟨_, none, hh, trivial, fun h' _ => ?_⟩
        unfold execOp; rw [ho]
        simp only [hf _ _ hx, hf _ _ hi]
        refine exec_v ?_
        unfold Instr.indexAt
        show rd P (do let x ← underlying t; _) h' = _
        rw [rd_bind _ _ _ _ (rd_underlying ht)]
        simp only [Instr.sureAddr]
        rw [rd_bind _ _ _ _ (rd_pure _), rd_bind _ _ _ _ (rd_pure _)]
        simp only
        rw [rd_bind _ _ _ _ (rd_underlying ht)]
        simp only
        rw [if_pos ⟨h1, h2⟩, rd_bind _ _ _ _ (rd_sizeOf hie)]
        rfl
      · exact hh.elim
    · exact hh.elim
  · rename_i t x ix ho
    split at hh
    · rename_i s k n ht hx hi
      obtain ⟨⟨h1, h2⟩, hh⟩ := hh
      refine ⟨_, none, hh, trivial, fun h' _ => ?_⟩
      unfold execOp; rw [ho]
      simp only [hf _ _ hx, hf _ _ hi]
      refine exec_v ?_
      unfold Instr.index
      show rd P (do let x ← underlying t; _) h' = _
      rw [rd_bind _ _ _ _ (rd_underlying ht)]
      have hlt : n.toNat < s.size := by omega
      have hg : s[n.toNat]? = some (s.data.toList.getD n.toNat 0) := by
        rw [getElem?_pos s n.toNat hlt]
        congr 1
        rw [List.getD_eq_getElem?_getD, List.getElem?_eq_getElem (by simpa using hlt)]
        rfl
      simp only [if_pos h1, hg]
      rfl
    · rename_i len e cs k n ht hx hi
      split at hh
      · rename_i i hb hie hlen
        split at hh
        · rename_i hsz
          obtain ⟨⟨h1, h2⟩, hh⟩ := hh
          have hlen := Nat.eq_of_beq_eq_true hlen
          have hsz := Nat.eq_of_beq_eq_true hsz
          have hlt : n.toNat < cs.toList.length := by omega
          have hF := idxAll_at _ _ _ hh n.toNat (by omega) _ (List.getElem?_eq_getElem hlt)
          refine ⟨_, none, hF, trivial, fun h' _ => ?_⟩
          unfold execOp; rw [ho]
          simp only [hf _ _ hx, hf _ _ hi]
          refine exec_v ?_
          unfold Instr.index
          show rd P (do let x ← underlying t; _) h' = _
          rw [rd_bind _ _ _ _ (rd_underlying ht)]
          simp only
          rw [if_pos ⟨h1, h2⟩, rd_bind _ _ _ _ (rd_sizeOf hie)]
          unfold part
          rw [rd_bind _ _ _ _ (rd_isAgg_false hb)]
          simp only [Bool.false_eq_true, if_false]
          rw [hsz, Nat.mul_one]
          have hg : cs[n.toNat]? = some (cs.toList[n.toNat]'hlt) := by simp
          rw [hg]
          rfl
        · exact hh.elim
      · exact hh.elim
    · exact hh.elim
  · rename_i t x lo hi mx ho
    split at hh
    · rename_i e p len cap l hh' ht hx hl hhi
      split at hh
      · rename_i i hie
        obtain ⟨a, b, hF, hb⟩ := sliceBounds_ok (P := P) (isS := true) hf hl hhi hh
        refine ⟨_, none, hF, trivial, fun h' _ => ?_⟩
        unfold execOp; rw [ho]
        simp only [hf _ _ hx, Option.map_none]
        refine exec_v ?_
        unfold Instr.sliceAt
        rw [rd_bind _ _ _ _ (rd_underlying ht)]
        unfold Instr.slice
        simp only
        rw [rd_bind _ _ _ _ (rd_underlying ht)]
        simp only
        rw [rd_bind _ _ _ _ (hb _)]
        simp only
        rw [rd_bind _ _ _ _ (rd_sizeOf hie)]
        rfl
      · exact hh.elim
    · rename_i s l hh' ht hx hl hhi
      obtain ⟨a, b, hF, hb⟩ := sliceBounds_ok (P := P) (isS := false) hf hl hhi hh
      refine ⟨_, none, hF, trivial, fun h' _ => ?_⟩
      unfold execOp; rw [ho]
      simp only [hf _ _ hx, Option.map_none]
      refine exec_v ?_
      unfold Instr.sliceAt
      rw [rd_bind _ _ _ _ (rd_underlying ht)]
      unfold Instr.slice
      simp only
      rw [rd_bind _ _ _ _ (rd_underlying ht)]
      simp only [Option.isSome_none, Bool.false_eq_true, if_false]
      rw [rd_bind _ _ _ _ (hb _)]
      rfl
    · rename_i n e p l hh' ht hx hl hhi
      split at hh
      · rename_i i hie
        obtain ⟨ad, rfl, hh⟩ := onSome_iff.1 hh
        obtain ⟨a, b, hF, hb⟩ := sliceBounds_ok (P := P) (isS := false) hf hl hhi hh
        refine ⟨_, none, hF, trivial, fun h' _ => ?_⟩
        unfold execOp; rw [ho]
        simp only [hf _ _ hx, Option.map_none]
        refine exec_v ?_
        unfold Instr.sliceAt
        rw [rd_bind _ _ _ _ (rd_underlying ht)]
        simp only [Instr.sureAddr]
        rw [rd_bind _ _ _ _ (rd_pure _), rd_bind _ _ _ _ (hb _)]
        simp only
        rw [rd_bind _ _ _ _ (rd_sizeOf hie)]
        show some _ = some _
        unfold slBase
        congr 2
        split <;> rfl
      · exact hh.elim
    · rename_i mo e p len cap b ht hx hl hhi
      split at hh
      · rename_i k m i hm hie
        obtain ⟨⟨h1, h2⟩, ⟨h3, h4⟩, hF⟩ := hh
        rcases optInt_some hf hl with ⟨rfl, _⟩ | ⟨_, _, e1, _⟩
        case inr => cases e1
        rcases optInt_some hf hhi with ⟨_, e1⟩ | ⟨k2, m2, e1, e2⟩
        · cases e1
        cases e1
        refine ⟨_, none, hF, trivial, fun h' _ => ?_⟩
        unfold execOp; rw [ho]
        simp only [hf _ _ hx, hf _ _ hm, e2, Option.map_none, Option.map_some]
        refine exec_v ?_
        unfold Instr.sliceAt
        rw [rd_bind _ _ _ _ (rd_underlying ht)]
        unfold Instr.slice
        simp only
        rw [rd_bind _ _ _ _ (rd_underlying ht)]
        simp only
        have hb : rd P (Instr.sliceBounds true len cap none (some (.int k2 b)) (some (.int k m))) h' = some (0, b.toNat, m.toNat) := by
          unfold Instr.sliceBounds
          simp only
          rw [rd_bind _ _ _ _ (sliceBound_ok rfl h1 h2), rd_bind _ _ _ _ (sliceBound_ok rfl h3 (by omega))]
          rfl
        rw [rd_bind _ _ _ _ hb]
        simp only
        rw [rd_bind _ _ _ _ (rd_sizeOf hie)]
        rfl
      · exact hh.elim
    · rename_i mo e p len cap a0 b ht hx hl hhi
      split at hh
      · rename_i k m i hm hie
        obtain ⟨⟨h1, h2⟩, ⟨h3, h4⟩, ⟨h5, h6⟩, hF⟩ := hh
        rcases optInt_some hf hl with ⟨_, e1⟩ | ⟨k3, m3, e1, e3⟩
        · cases e1
        cases e1
        rcases optInt_some hf hhi with ⟨_, e1⟩ | ⟨k2, m2, e1, e2⟩
        · cases e1
        cases e1
        refine ⟨_, none, hF, trivial, fun h' _ => ?_⟩
        unfold execOp; rw [ho]
        simp only [hf _ _ hx, hf _ _ hm, e2, e3, Option.map_some]
        refine exec_v ?_
        unfold Instr.sliceAt
        rw [rd_bind _ _ _ _ (rd_underlying ht)]
        unfold Instr.slice
        simp only
        rw [rd_bind _ _ _ _ (rd_underlying ht)]
        simp only
        have hb : rd P (Instr.sliceBounds true len cap (some (.int k3 a0)) (some (.int k2 b)) (some (.int k m))) h' = some (a0.toNat, b.toNat, m.toNat) := by
          unfold Instr.sliceBounds
          simp only
          rw [rd_bind _ _ _ _ (sliceBound_ok rfl h1 h2), rd_bind _ _ _ _ (sliceBound_ok rfl h3 (by omega)), rd_bind _ _ _ _ (sliceBound_ok rfl h5 (by omega))]
          rfl
        rw [rd_bind _ _ _ _ hb]
        simp only
        rw [rd_bind _ _ _ _ (rd_sizeOf hie)]
        rfl
      · exact hh.elim
    · exact hh.elim
  · rename_i t x i ok ho
    split at hh
    · rename_i m k hm hk
      obtain ⟨v, h1, h2⟩ := retEx_some hh
      refine ⟨v, _, h2, ?_, fun h' hs => ?_⟩
      · show mapSame m h h
        unfold mapSame; split <;> trivial
      · unfold execOp; rw [ho]
        simp only [hf _ _ hm, hf _ _ hk]
        exact exec_v (h1 h' hs)
    · exact hh.elim
  · rename_i args tys ho
    split at hh
    · rename_i x hargs
      split at hh
      · rename_i m hm
        split at hh
        · obtain ⟨n, h1, h2⟩ := hh
          refine ⟨_, _, h2, ?_, fun h' hs => ?_⟩
          · show mapSame m h h
            unfold mapSame; split <;> trivial
          · have ha : args = #[x] := by rw [← Array.toArray_toList (xs := args), hargs]
            unfold execOp; rw [ho]
            simp only [resolve, ha]
            rw [rd_bind _ _ _ _ (rd_pure _)]
            simp only [invoke, builtin, List.map_toArray, List.map_cons, List.map_nil, hf _ _ hm]
            exact exec_v (h1 h' hs)
        · exact viaPure (by rw [ho]; intro cs b e; cases e) hh
      · exact hh.elim
    · exact hh.elim
  · rename_i s d x ho
    split at hh
    · split at hh
      · rename_i v hv
        obtain ⟨b, h1, h2⟩ := hh
        refine ⟨_, _, h2, h1, fun h' hs => ?_⟩
        unfold execOp; rw [ho]
        simp only [hf _ _ hv]
        exact exec_v hs
      · exact hh.elim
    · exact viaPure (by rw [ho]; intro cs b e; cases e) hh
  · rename_i s x f ho
    split at hh
    · split at hh
      · rename_i v hv
        obtain ⟨u, h1, h2⟩ := retEx_some hh
        refine ⟨u, none, h2, trivial, fun h' _ => ?_⟩
        unfold execOp; rw [ho]
        simp only [hf _ _ hv]
        exact exec_v (h1 h')
      · exact hh.elim
    · exact viaPure (by rw [ho]; intro cs b e; cases e) hh
  · rename_i t parts ho
    split at hh
    · split at hh
      · rename_i l hl
        obtain ⟨u, h1, h2⟩ := retEx_some hh
        refine ⟨u, none, h2, trivial, fun h' _ => ?_⟩
        unfold execOp; rw [ho]
        simp only [partsV_map hf hl]
        exact exec_v (h1 h')
      · exact hh.elim
    · exact viaPure (by rw [ho]; intro cs b e; cases e) hh
  · rename_i t x ho
    split at hh
    · rename_i n el p len c ht hx
      obtain ⟨h1, h2⟩ := hh
      refine ⟨_, none, h2, trivial, fun h' _ => ?_⟩
      unfold execOp; rw [ho]
      simp only [hf _ _ hx]
      refine exec_v ?_
      unfold Instr.arrayAt
      rw [rd_bind _ _ _ _ (rd_underlying ht)]
      simp only
      rw [if_neg (by omega)]
      rfl
    · exact hh.elim
  · exact hh.elim
  · rename_i hsel
    exact viaPure hsel hh
def sameA (p : Option Addr) (h h' : Heap) : Prop := ∀ x, p = some x → x.block < h.size → h'[x.block]? = h[x.block]?
def Kp (h h' : Heap) (l : List (Option Addr)) : Prop := ∀ p ∈ l, sameA p h h'
def loadOf (σ : Env) (o : Oper) : Option (Option Addr) :=
  match o.op with
  | .load _ x => (match σ.ev x with
    | some (.pointer p) => some p
    | _ => some none)
  | _ => none
theorem lt_of_hcell {h : Heap} {a : Addr} {v : Value} (hc : hcell h a = some v) : a.block < h.size := by
  unfold hcell at hc
  split at hc
  · grind
  · cases hc
theorem sameA.cell {h h' : Heap} {a b : Addr} {v : Value} (hs : sameA (some a) h h') (hb : b.block = a.block) (hc : hcell h b = some v) : hcell h' b = some v := by
  have := hs a rfl (by rw [← hb]; exact lt_of_hcell hc)
  rw [← hb] at this
  unfold hcell at hc ⊢
  rw [this]
  exact hc
theorem sameA.trans {p : Option Addr} {h h1 h2 : Heap} (a : sameA p h h1) (b : sameA p h1 h2) : sameA p h h2 := fun x e hx => by
  have h1' := a x e hx
  rw [b x e ?_, h1']
  have := Array.getElem?_eq_getElem hx
  rw [this] at h1'
  exact (Array.getElem?_eq_some_iff.1 h1').1
theorem sameA.held {h h' : Heap} {a : Addr} (hs : sameA (some a) h h') : ∀ (vs : List Value) (i : Nat), heldL a vs i h → heldL a vs i h'
  | [], _, _ => trivial
  | _ :: vs, i, hh => ⟨hs.cell (by unfold Addr.add; split <;> rfl) hh.1, sameA.held hs vs (i + 1) hh.2⟩
theorem denLoad_keeps {t : TypeId} {h : Heap} {a : Addr} {K : Value → Option (Heap → Prop) → Prop} (hh : denLoad P t h a K) :
    ∃ v S, K v (some S) ∧ S h ∧ (∀ h', sameA (some a) h h' → S h') ∧ Yv P (loadVar t a) (some S) v := by
  unfold denLoad at hh
  split at hh
  · rename_i hb
    split at hh
    · rename_i ls i hls hi
      split at hh
      · rename_i hn
        have hh : loadL h a ls 0 fun vs => K (.agg vs.toArray) (some (heldL a vs 0)) := by
          split at hh
          · exact hh.run
          · exact hh
        have ⟨vs, hl, h1, h2⟩ := loadL_held _ _ _ hh
        refine ⟨_, _, h2, h1, fun h' hs => hs.held _ _ h1, fun h' hs => ?_⟩
        unfold loadVar
        rw [rd_bind _ _ _ _ (rd_isAgg_true hb)]
        simp only [if_true]
        rw [rd_bind _ _ _ _ (rd_sizeOf hi)]
        have e : i.size = vs.length := by simp_all
        unfold loadCells
        rw [e, rd_bind _ _ _ _ (rd_loadCellsFrom vs 0 #[] h' hs)]
        simp [rd_pure]
      · exact hh.elim
    · exact hh.elim
  · split at hh
    · rename_i l hl
      have ⟨v, h1, h2⟩ := Leaf.ex_some hh
      refine ⟨v, _, h2, h1, fun h' hs => hs.cell rfl h1, fun h' hs => ?_⟩
      unfold loadVar
      rw [rd_bind _ _ _ _ (rd_isAgg_false hl)]
      exact rd_load hs
    · grind
theorem denRead_load {o : Oper} {σ : Env} {ρ : Operand → Value} {h : Heap} {K : Value → Option (Heap → Prop) → Prop} {p : Option Addr} (hf : Fits σ ρ) (hl : loadOf σ o = some p) (hh : denRead P o σ h K) :
    ∃ v S, K v (some S) ∧ S h ∧ (∀ h', sameA p h h' → S h') ∧ ∀ h', S h' → rd P (execOp ρ o) h' = some (.value v) := by
  unfold loadOf at hl
  unfold denRead at hh
  split at hl
  · rename_i t x ho
    simp only [ho] at hh
    split at hh
    · rename_i q hp
      simp only [hp, Option.some.injEq] at hl
      subst hl
      obtain ⟨a, rfl, hh⟩ := onSome_iff.1 hh
      have ⟨v, S, h1, h2, h4, h3⟩ := denLoad_keeps hh
      refine ⟨v, S, h1, h2, h4, fun h' hs => ?_⟩
      unfold execOp; rw [ho]
      simp only [hf _ _ hp]
      exact exec_v (h3 h' hs)
    · grind
  · cases hl
theorem evs_map {σ : Env} {ρ : Operand → Value} (hf : Fits σ ρ) : ∀ (xs : List Operand) (vs : List Value), evs σ xs = some vs → xs.map ρ = vs
  | [], vs, hh => by simp only [evs, Option.some.injEq] at hh; exact hh
  | x :: xs, vs, hh => by
    simp only [evs] at hh
    split at hh
    · rename_i v vs' h1 h2
      simp only [Option.some.injEq] at hh
      rw [List.map_cons, hf _ _ h1, evs_map hf xs vs' h2, hh]
    · cases hh
theorem args_map {σ : Env} {ρ : Operand → Value} (hf : Fits σ ρ) {args : Array Operand} {vs : List Value} (hh : evs σ args.toList = some vs) : args.map ρ = vs.toArray := by
  have := evs_map hf _ _ hh
  rw [← this]
  apply Array.ext'
  simp
theorem newK_ok {o : Oper} {σ : Env} {ρ : Operand → Value} {h : Heap} {K : Value → Heap → Prop} (hf : Fits σ ρ) (hs : ∀ cs b, o.op ≠ .select cs b) (hh : newK P o σ h K) : OpWp P o ρ h K := by
  unfold newK at hh
  split at hh
  · rename_i hd
    split at hh
    · rename_i ob k hr
      have h1 := hh _ _ rfl rfl
      dsimp only at h1
      split at h1
      · rename_i v hv
        refine runNew_den _ ob k (by rw [← exec_tot hf o hd hs]; exact hr) _ _ (runPure_den _ _ hv _ _ h1)
      · grind
    · exact hh.elim
  · grind
theorem storeL_ok {a : Addr} : ∀ (vs : List Value) (i : Nat) (h : Heap) (K : Heap → Prop), storeL a vs i h K → denSem P (storeCells a vs i) h (fun _ h' => K h')
  | [], _, _, _, hh => hh
  | v :: vs, i, h, K, hh => by
    simp only [storeL] at hh
    split at hh
    · rename_i h1
      have ⟨h2, h3, h4⟩ := hh
      exact ⟨h1, h2, h3, storeL_ok vs (i + 1) _ K (h4 _ rfl)⟩
    · grind
theorem den_retEx {s : Sem Value} {h : Heap} {t : TypeId} {K : Value → Heap → Prop} (hh : denSem P s h fun v h' => retEx P t fun v' => v = v' ∧ K v' h') : denSem P s h K :=
  denSem_mono _ _ (fun _ _ hr => retEx_eq hr) hh
theorem denEff_ok {o : Oper} {σ : Env} {ρ : Operand → Value} {h : Heap} {K : Value → Heap → Prop} (hf : Fits σ ρ) (hh : denEff P o σ h K) : OpWp P o ρ h K := by
  unfold denEff at hh
  split at hh
  · rename_i ho; exact newK_ok hf (by rw [ho]; intro cs b e; cases e) hh
  · rename_i ho; exact newK_ok hf (by rw [ho]; intro cs b e; cases e) hh
  · rename_i t len parts ho
    split at hh
    · split at hh
      · rename_i l hl
        unfold OpWp execOp; rw [ho]
        simp only [partsV_map hf hl]
        rw [den_bind]
        exact den_retEx hh
      · exact hh.elim
    · exact newK_ok hf (by rw [ho]; intro cs b e; cases e) hh
  · rename_i ho; exact newK_ok hf (by rw [ho]; intro cs b e; cases e) hh
  · rename_i t x y ho
    split at hh
    · rename_i p v hx hy
      obtain ⟨a, rfl, hh⟩ := onSome_iff.1 hh
      split at hh
      · rename_i i hi
        split at hh
        · have e : v.cells.size = i.size := by have := hh.1; simpa using this
          unfold OpWp execOp; rw [ho]
          simp only [hf _ _ hx, hf _ _ hy]
          rw [den_bind]
          unfold Instr.storeAt
          rw [den_bind]
          show denSem P (storeVar t a v) h _
          unfold storeVar
          rw [den_bind, den_sizeOf hi]
          simp only [e, ne_eq, not_true, if_false]
          exact storeL_ok _ _ _ _ hh.2
        · split at hh
          · rename_i hn
            unfold OpWp execOp; rw [ho]
            simp only [hf _ _ hx, hf _ _ hy]
            rw [den_bind]
            unfold Instr.storeAt
            rw [den_bind]
            show denSem P (storeVar t a v) h _
            unfold storeVar
            rw [den_bind, den_sizeOf hi]
            have e : v.cells.size = i.size := by have := Nat.eq_of_beq_eq_true hn; simpa using this.symm
            simp only [e, ne_eq, not_true, if_false]
            exact storeL_ok _ _ _ _ hh
          · exact hh.elim
      · exact hh.elim
    · exact hh.elim
  · rename_i t m k x ho
    split at hh
    · rename_i m k x hm hk hx
      unfold OpWp execOp; rw [ho]
      simp only [hf _ _ hm, hf _ _ hk, hf _ _ hx]
      rw [den_bind]
      exact hh
    · exact hh.elim
  · rename_i t m k x ho
    split at hh
    · rename_i m k x hm hk hx
      unfold OpWp execOp; rw [ho]
      simp only [hf _ _ hm, hf _ _ hk, hf _ _ hx]
      rw [den_bind]
      exact hh
    · exact hh.elim
  · rename_i t l c ho
    split at hh
    · rename_i l c hl hc
      unfold OpWp execOp; rw [ho]
      simp only [hf _ _ hl, hf _ _ hc]
      rw [den_bind]
      exact den_retEx hh
    · exact hh.elim
  · rename_i s d x ho
    split at hh
    · rename_i x hx
      unfold OpWp execOp; rw [ho]
      simp only [hf _ _ hx]
      rw [den_bind]
      exact den_retEx hh
    · exact hh.elim
  · rename_i b args tys ho
    split at hh
    · rename_i vs hvs
      split at hh
      · rename_i s hs
        unfold OpWp execOp; rw [ho]
        simp only [resolve, args_map hf hvs]
        rw [den_bind, den_pure]
        simp only [invoke]
        cases b <;> simp only [builtinSem] at hs <;> first | cases hs | skip
        all_goals (simp only [builtin]; rw [den_bind]; exact den_retEx hh)
      · exact hh.elim
    · exact hh.elim
  · rename_i f args tys ho
    split at hh
    · rename_i g first captured vs hg hvs
      split at hh
      · rename_i hb
        unfold OpWp execOp; rw [ho]
        simp only [resolve, args_map hf hvs, hf _ _ hg, Deferred.ofValue]
        rw [den_bind, den_pure]
        simp only [invoke, callFunc]
        rw [den_bind]
        unfold hasBody at hb
        split at hb
        · rename_i fn hfn
          simp only [Bool.and_eq_true, Bool.not_eq_true'] at hb
          show denSem P (match P.funcs[g]? with | none => _ | some fn => _) h _
          rw [hfn]
          have hn : fn.body.isNone = false := by cases hq : fn.body <;> simp [hq] at hb ⊢
          simp only [hb.2, hn, Bool.false_eq_true, if_false]
          have e : (first ++ vs.toArray ++ captured) = (first.toList ++ vs ++ captured.toList).toArray := by
            apply Array.ext'
            simp
          rw [e]
          exact hh.mono fun v h' hr => retEx_eq hr
        · cases hb
      · unfold OpWp execOp; rw [ho]
        simp only [resolve, args_map hf hvs, hf _ _ hg, Deferred.ofValue]
        rw [den_bind, den_pure]
        simp only [invoke]
        have e : (first ++ vs.toArray ++ captured) = (first.toList ++ vs ++ captured.toList).toArray := by
          apply Array.ext'
          simp
        rw [e]
        refine denSem_mono _ _ (fun nx h' hr => ?_) hh
        cases nx with
        | value v => have hr' : retEx P o.type (fun v' => v = v' ∧ K v' h') := hr; exact retEx_eq hr'
        | _ => exact hr.elim
    · exact hh.elim
  · rename_i t x ho
    split at hh
    · rename_i x hx
      unfold OpWp execOp; rw [ho]
      simp only [hf _ _ hx]
      rw [den_bind]
      exact denSem_mono _ _ (fun v h' ⟨r, e, hr⟩ => by subst e; exact hr) hh
    · exact hh.elim
  · rename_i it b ho
    split at hh
    · rename_i it hx
      unfold OpWp execOp; rw [ho]
      simp only [hf _ _ hx]
      rw [den_bind]
      refine denSem_mono _ _ (fun v h' hr => ?_) hh
      rcases hr with ⟨e, hr⟩ | hr
      · subst e; exact hr
      · obtain ⟨k, x, e, hr⟩ := hr; subst e; exact hr
    · exact hh.elim
  · rename_i it ho
    split at hh
    · rename_i it hx
      unfold OpWp execOp; rw [ho]
      simp only [hf _ _ hx]
      rw [den_bind]
      refine denSem_mono _ _ (fun v h' hr => ?_) hh
      obtain ⟨k, x, e, hr⟩ := hr; subst e; exact hr
    · exact hh.elim
  · exact hh.elim
end
section
variable {X Y:Type} {v:Value} {F:Value→Prop} {t n:Nat} {h:Heap} {a b:Act} {xs:Array Value} {dst:Option Nat} {W:List Nat} {ops:Array Oper} {o:Oper}
def Leaf.T (X : Type) : Leaf → Type
  | .int _ => Int → X
  | .bool => Bool → X
  | .str => ByteArray → X
  | .ptr => Option Addr → X
  | .slice => Option Addr → Nat → Nat → X
  | .map => Option Nat → X
  | .raw => Value → X
def leavesT (X : Type) : List Leaf → Type
  | [] => X
  | l :: ls => l.T (leavesT X ls)
def Sh.T (X : Type) : Sh → Type
  | .one l => l.T X
  | .agg ls => leavesT X ls
def Tele (X : Type) : List (Nat × Sh) → Type
  | [] => X
  | s :: L => s.2.T (Tele X L)
def Leaf.lam {X : Type} : (l : Leaf) → (Value → X) → l.T X
  | .int k, F => fun n : Int => F (.int k n)
  | .bool, F => fun b : Bool => F (.bool b)
  | .str, F => fun s : ByteArray => F (.string s)
  | .ptr, F => fun p : Option Addr => F (.pointer p)
  | .slice, F => fun (p : Option Addr) (l c : Nat) => F (.slice p l c)
  | .map, F => fun m : Option Nat => F (.map m)
  | .raw, F => fun v : Value => F v
def lams {X : Type} : (ls : List Leaf) → (List Value → X) → leavesT X ls
  | [], F => F []
  | l :: ls, F => l.lam fun v => lams ls fun vs => F (v :: vs)
def Sh.lam {X : Type} : (s : Sh) → (Value → X) → s.T X
  | .one l, F => l.lam F
  | .agg ls, F => lams ls fun vs => F (.agg vs.toArray)
def lamE {X : Type} : (L : List (Nat × Sh)) → (Env → X) → Env → Tele X L
  | [], F, σ => F σ
  | (t, s) :: L, F, σ => s.lam fun v => lamE L F (σ.set t v)
def Leaf.ap {X Y : Type} (d : Y) : (l : Leaf) → l.T X → Value → (X → Y) → Y
  | .int k, f, .int k' n, K => (match decide (k = k') with | true => K (f n) | false => d)
  | .bool, f, .bool b, K => K (f b)
  | .str, f, .string s, K => K (f s)
  | .ptr, f, .pointer p, K => K (f p)
  | .slice, f, .slice p l c, K => K (f p l c)
  | .map, f, .map m, K => K (f m)
  | .raw, f, v, K => K (f v)
  | _, _, _, _ => d
def aps {X Y : Type} (d : Y) : (ls : List Leaf) → leavesT X ls → List Value → (X → Y) → Y
  | [], f, [], K => K f
  | l :: ls, f, v :: vs, K => l.ap d f v fun g => aps d ls g vs K
  | _, _, _, _ => d
def Sh.ap {X Y : Type} (d : Y) : (s : Sh) → s.T X → Value → (X → Y) → Y
  | .one l, f, v, K => l.ap d f v K
  | .agg ls, f, .agg vs, K => aps d ls f vs.toList K
  | _, _, _, _ => d
def apE {X Y : Type} (d : Y) : (L : List (Nat × Sh)) → Tele X L → Env → (X → Y) → Y
  | [], f, _, K => K f
  | (t, s) :: L, f, σ, K => (match σ t with | some v => s.ap d f v fun g => apE d L g σ K | none => d)
def Leaf.all : Leaf → (Value → Prop) → Prop
  | .int k, F => ∀ n : Int, F (.int k n)
  | .bool, F => ∀ b : Bool, F (.bool b)
  | .str, F => ∀ s : ByteArray, F (.string s)
  | .ptr, F => ∀ p : Option Addr, F (.pointer p)
  | .slice, F => ∀ (p : Option Addr) (l c : Nat), F (.slice p l c)
  | .map, F => ∀ m : Option Nat, F (.map m)
  | .raw, F => ∀ v : Value, F v
def alls : List Leaf → (List Value → Prop) → Prop
  | [], F => F []
  | l :: ls, F => l.all fun v => alls ls fun vs => F (v :: vs)
def Sh.all : Sh → (Value → Prop) → Prop
  | .one l, F => l.all F
  | .agg ls, F => alls ls fun vs => F (.agg vs.toArray)
def allE : List (Nat × Sh) → (Env → Prop) → Env → Prop
  | [], F, σ => F σ
  | (t, s) :: L, F, σ => s.all fun v => allE L F (σ.set t v)
theorem Leaf.ap_shape {d : Y} {l : Leaf} {f : l.T X} {K : X → Y} : l.ap d f v K = d ∨ ((∃ g : X, l.ap d f v K = K g) ∧ ∀ (Z : Type) (F : Value → Z), ∀ (W : Type) (e : W) (J : Z → W), l.ap e (l.lam F) v J = J (F v)) := by
  cases l <;> cases v <;> first
    | exact .inl rfl
    | exact .inr ⟨⟨_, rfl⟩, fun _ _ _ _ _ => rfl⟩
    | skip
  rename_i k k' n
  by_cases hk : k = k'
  · subst hk
    refine .inr ⟨⟨f n, ?_⟩, fun Z F W e J => ?_⟩ <;> simp [Leaf.ap, Leaf.lam]
  · exact .inl (by simp [Leaf.ap, hk])
theorem Leaf.ap_ok {l : Leaf} {f : l.T X} {K : X → Prop} (h : l.ap False f v K) :
    (∃ g : X, K g) ∧ (∀ (Z W : Type) (F : Value → Z) (e : W) (J : Z → W), l.ap e (l.lam F) v J = J (F v)) := by
  rcases Leaf.ap_shape (d := False) (f := f) (v := v) (K := K) with h1 | ⟨⟨g, h1⟩, h2⟩
  · grind
  · grind
theorem Leaf.all_at {l : Leaf} (h : l.all F) {f : l.T X} {K : X → Prop} (ha : l.ap False f v K) : F v := by
  cases l <;> cases v <;> first
    | exact ha.elim
    | exact h _
    | exact h _ _ _
    | skip
  rename_i k k' n
  by_cases hk : k = k'
  · subst hk; exact h n
  · simp [Leaf.ap, hk] at ha
theorem Leaf.ap_lam {l : Leaf} {F : Value → X} {K : X → Prop} (h : l.ap False (l.lam F) v K) : K (F v) := by
  have := (Leaf.ap_ok h).2 X Prop F False K
  rw [this] at h; exact h
variable {l:Leaf}
theorem aps_lam : ∀ {ls : List Leaf} {F : List Value → X} {vs : List Value} {K : X → Prop}, aps False ls (lams ls F) vs K → K (F vs)
  | [], _, [], _, h => h
  | [], _, _ :: _, _, h => h.elim
  | _ :: _, _, [], _, h => h.elim
  | _ :: ls, F, v :: vs, _, h => aps_lam (F := fun us => F (v :: us)) (Leaf.ap_lam h)
theorem Sh.ap_lam {s : Sh} {F : Value → X} {K : X → Prop} (h : s.ap False (s.lam F) v K) : K (F v) := by
  cases s with
  | one l => exact Leaf.ap_lam h
  | agg ls =>
    cases v <;> first | exact h.elim | skip
    rename_i cs
    have := aps_lam h
    simpa using this
theorem alls_at {X : Type} : ∀ {ls : List Leaf} {F : List Value → Prop} {f : leavesT X ls} {vs : List Value} {K : X → Prop}, alls ls F → aps False ls f vs K → F vs
  | [], _, _, [], _, h, _ => h
  | [], _, _, _ :: _, _, _, h => h.elim
  | _ :: _, _, _, [], _, _, h => h.elim
  | l :: ls, F, f, v :: vs, K, h, ha => by
    have ⟨⟨g, hg⟩, _⟩ := Leaf.ap_ok ha
    exact alls_at (vs := vs) (Leaf.all_at h ha) hg
theorem Sh.all_at {s : Sh} (h : s.all F) {f : s.T X} {K : X → Prop} (ha : s.ap False f v K) : F v := by
  cases s with
  | one l => exact Leaf.all_at h ha
  | agg ls =>
    cases v <;> first | exact ha.elim | skip
    have := alls_at h ha
    simpa using this
theorem aps_some : ∀ {ls : List Leaf} {f : leavesT X ls} {vs : List Value} {K : X → Prop}, aps False ls f vs K → ∃ g, K g
  | [], f, [], _, h => ⟨f, h⟩
  | [], _, _ :: _, _, h => h.elim
  | _ :: _, _, [], _, h => h.elim
  | _ :: _, _, _ :: _, _, h => by
    have ⟨⟨g, hg⟩, _⟩ := Leaf.ap_ok h
    exact aps_some hg
theorem Sh.ap_some {s : Sh} {f : s.T X} {K : X → Prop} (h : s.ap False f v K) : ∃ g, K g := by
  cases s with
  | one l => exact (Leaf.ap_ok h).1
  | agg ls => cases v <;> first | exact h.elim | exact aps_some h
variable {s:Sh}
def Sub (σ'' σ0 σ' : Env) : Prop := ∀ t v, σ'' t = some v → σ' t = some v ∨ σ0 t = some v
theorem Env.set_eq (σ : Env) (d t : Nat) (v : Value) : σ.set d v t = if t = d then some v else σ t := by
  unfold Env.set
  by_cases h : t = d
  · simp
  · simp
theorem Sub.set {σ'' σ0 σ' : Env} (ht : σ' t = some v) (h : Sub σ'' (σ0.set t v) σ') : Sub σ'' σ0 σ' := fun u x hu => by
  rcases h u x hu with h1 | h1
  · grind
  · rw [Env.set_eq] at h1
    split at h1
    · grind
    · grind
theorem apE_lamE {G : Env → Heap → Prop} {σ' : Env} : ∀ (L : List (Nat × Sh)) (σ0 : Env), apE False L (lamE (X := Heap → Prop) L G σ0) σ' (fun f => f h) → ∃ σ'', G σ'' h ∧ Sub σ'' σ0 σ'
  | [], σ0, hh => ⟨σ0, hh, fun _ _ h => .inr h⟩
  | (t, s) :: L, σ0, hh => by
    simp only [apE] at hh
    split at hh
    · rename_i v hv
      have ⟨σ'', h2, h3⟩ := apE_lamE L _ (Sh.ap_lam hh)
      exact ⟨σ'', h2, h3.set hv⟩
    · grind
theorem allE_at {F : Env → Prop} {σ' : Env} {K : X → Prop} : ∀ (L : List (Nat × Sh)) (σ0 : Env) (f : Tele X L), allE L F σ0 → apE False L f σ' K →
    ∃ σ'', F σ'' ∧ Sub σ'' σ0 σ' ∧ ((∀ t s, (t, s) ∈ L → σ'' t = σ' t) ∧ ∀ t, (∀ s, (t, s) ∉ L) → σ'' t = σ0 t)
  | [], σ0, _, h, _ => ⟨σ0, h, fun _ _ h => .inr h, (fun _ _ h => by cases h), fun _ _ => rfl⟩
  | (t, s) :: L, σ0, f, h, ha => by
    simp only [apE] at ha
    split at ha
    · rename_i v hv
      have ⟨g, hg⟩ := Sh.ap_some ha
      have ⟨σ'', h2, h3, h4, h5⟩ := allE_at L _ g (Sh.all_at h ha) hg
      refine ⟨σ'', h2, h3.set hv, fun u s' hm => ?_, fun u hm => ?_⟩
      · by_cases hin : ∃ s'', (u, s'') ∈ L
        · grind
        · have hu : u = t := by
            grind
          subst hu
          rw [h5 u (fun s'' hs => hin ⟨s'', hs⟩), Env.set_eq, if_pos rfl, hv]
      · rw [h5 u (fun s' hs => hm s' (List.mem_cons_of_mem _ hs)), Env.set_eq, if_neg]
        intro e; subst e; exact hm s List.mem_cons_self
    · grind
theorem apE_congr {d : Y} {σ σ' : Env} {K : X → Y} : ∀ (L : List (Nat × Sh)) (f : Tele X L), (∀ t s, (t, s) ∈ L → σ t = σ' t) → apE d L f σ K = apE d L f σ' K
  | [], _, _ => rfl
  | (t, s) :: L, f, h => by
    simp only [apE]
    rw [h t s List.mem_cons_self]
    have : (fun g => apE d L g σ K) = (fun g => apE d L g σ' K) := funext fun g => apE_congr L g (fun t s hm => h t s (List.mem_cons_of_mem _ hm))
    rw [this]
theorem apE_def {σ : Env} {K : X → Prop} : ∀ (L : List (Nat × Sh)) (f : Tele X L), apE False L f σ K → ∀ t s, (t, s) ∈ L → ∃ v, σ t = some v
  | [], _, _, _, _, h => by cases h
  | (t, s) :: L, f, h, u, s', hm => by
    simp only [apE] at h
    split at h
    · rename_i v hv
      rcases List.mem_cons.1 hm with e | e
      · grind
      · have ⟨g, hg⟩ := Sh.ap_some h
        exact apE_def L g hg u s' e
    · grind
structure Rel (n : Nat) (σ : Env) (a : Act) : Prop where
  defers : a.defers = []
  size : a.tmps.size = n
  at_ : ∀ t v, σ t = some v → a.tmps.getD t undef = v
theorem Rel.fits {σ : Env} (h : Rel n σ a) : Fits σ a.eval := by
  intro x v hv
  cases x with
  | tmp t => exact h.at_ t v hv
  | const c => simpa [Env.ev, Act.eval] using hv
  | global g => simpa [Env.ev, Act.eval] using hv
  | func f => simpa [Env.ev, Act.eval] using hv
def putK (n : Nat) (σ : Env) (dst : Option Nat) (v : Value) (K : Env → Prop) : Prop :=
  match dst with
  | none => K σ
  | some d => (match Nat.blt d n with | true => K (σ.set d v) | false => False)
theorem getD_set {d:Nat} (hd : d < xs.size) : (xs.setIfInBounds d v).getD t undef = if t = d then v else xs.getD t undef := by
  by_cases h : t = d
  · simp_all
  · simp [h, Ne.symm h]
theorem putK_ok {σ : Env} {K : Env → Prop} (hr : Rel n σ a) (h : putK n σ dst v K) : ∃ σ', Rel n σ' (a.put dst v) ∧ K σ' := by
  unfold putK at h
  split at h
  · exact ⟨σ, hr, h⟩
  · rename_i d
    split at h
    · rename_i hd
      have hd : d < a.tmps.size := by rw [hr.size]; exact (Nat.blt_eq ▸ hd)
      refine ⟨_, ⟨hr.defers, by simp [Act.put, hr.size], fun t u hu => ?_⟩, h⟩
      simp only [Act.put]
      rw [getD_set hd]
      rw [Env.set_eq] at hu
      split
      · grind
      · rename_i e; rw [if_neg e] at hu; exact hr.at_ t u hu
    · grind
def Unch (W : List Nat) (a a' : Act) : Prop := ∀ t, t ∉ W → a'.tmps.getD t undef = a.tmps.getD t undef
theorem Unch.refl (W : List Nat) (a : Act) : Unch W a a := fun _ _ => rfl
theorem Unch.trans {c:Act} (h : Unch W a b) (h' : Unch W b c) : Unch W a c := fun t ht => (h' t ht).trans (h t ht)
theorem Unch.mono {W':List Nat} (h : Unch W a b) (hw : ∀ t, t ∈ W → t ∈ W') : Unch W' a b := fun t ht => h t (fun hm => ht (hw t hm))
theorem Unch.put (h : ∀ d, dst = some d → d ∈ W) : Unch W a (a.put dst v) := by
  intro t ht
  cases dst with
  | none => rfl
  | some d =>
    have hne : t ≠ d := fun e => ht (e ▸ h d rfl)
    simp [Act.put, Ne.symm hne]
def gsplit (ops : Array Oper) (o : Oper) (σ : Env) (run skip : Env → Prop) : Prop :=
  match o.guard with
  | none => run σ
  | some (j, pol) => (match (ops[j]?).bind (·.dst) with
    | some g => (match σ g with
      | some (.bool b) => if b = true then (match pol with | true => run (σ.set g (.bool true)) | false => skip (σ.set g (.bool true)))
          else (match pol with | true => skip (σ.set g (.bool false)) | false => run (σ.set g (.bool false)))
      | some (.tuple _) => skip σ
      | _ => False)
    | none => False)
theorem getD_some (h : xs.getD t undef = v) (hv : v ≠ undef) : xs[t]? = some v := by
  rw [Array.getD_eq_getD_getElem?] at h
  cases hq : xs[t]? with
  | none => grind
  | some u => grind
theorem gsplit_ok {σ : Env} {run skip : Env → Prop} (hr : Rel n σ a) (h : gsplit ops o σ run skip) :
    (Region.wanted o (yielded ops a.tmps) = true ∧ ∃ σ', Rel n σ' a ∧ run σ') ∨ (Region.wanted o (yielded ops a.tmps) = false ∧ ∃ σ', Rel n σ' a ∧ skip σ') := by
  unfold gsplit at h
  split at h
  · rename_i hg
    exact .inl ⟨by simp [Region.wanted, hg], σ, hr, h⟩
  · rename_i j pol hg
    split at h
    · rename_i g hgd
      split at h
      · rename_i b hb
        have hat := hr.at_ g _ hb
        have hy : yielded ops a.tmps j = some b := by simp [yielded, hgd, (getD_some hat (by intro e; cases e))]
        have hset : Rel n (σ.set g (.bool b)) a := ⟨hr.defers, hr.size, fun t u hu => by
          rw [Env.set_eq] at hu
          split at hu
          · grind
          · exact hr.at_ t u hu⟩
        split at h
        · rename_i hbt
          subst hbt
          split at h
          · exact .inl ⟨by simp [Region.wanted, hg, hy], _, hset, h⟩
          · exact .inr ⟨by simp [Region.wanted, hg, hy], _, hset, h⟩
        · rename_i hbf
          have hbf : b = false := by grind
          subst hbf
          split at h
          · exact .inr ⟨by simp [Region.wanted, hg, hy], _, hset, h⟩
          · exact .inl ⟨by simp [Region.wanted, hg, hy], _, hset, h⟩
      · rename_i x hx
        have hat := hr.at_ g _ hx
        have hy : yielded ops a.tmps j = none := by
          simp only [yielded, hgd, Option.bind_some]
          rw [Array.getD_eq_getD_getElem?] at hat
          cases hq : a.tmps[g]? with
          | none => rfl
          | some u => grind
        exact .inr ⟨by simp [Region.wanted, hg, hy], σ, hr, h⟩
      · exact h.elim
    · grind
def denOp (P : Program) (o : Oper) (σ : Env) (h : Heap) (K : Value → Heap → Prop) : Prop :=
  match isRead P o with
  | true => denRead P o σ h fun v _ => K v h
  | false => denEff P o σ h K
theorem denOp_ok {P : Program} {σ : Env} {ρ : Operand → Value} {K : Value → Heap → Prop} (hf : Fits σ ρ) (hh : denOp P o σ h K) : OpWp P o ρ h K := by
  unfold denOp at hh
  split at hh
  · have ⟨v, S, h1, h2, h3⟩ := denRead_ok hf hh
    exact rd_den _ _ _ (h3 h h2) _ h1
  · exact denEff_ok hf hh
def opWrites (ops : Array Oper) : List Nat := ops.toList.filterMap (·.dst)
theorem opWrites_mem {i : Nat} (ho : ops[i]? = some o) : ∀ d, o.dst = some d → d ∈ opWrites ops := fun d hd => by
  unfold opWrites
  rw [List.mem_filterMap]
  exact ⟨o, by grind, hd⟩
def upR (n : Nat) (a0 : Act) (w0 : World) (W : List Nat) (K : Env → Heap → Prop) : Exit → Act → World → Prop :=
  fun e a w => e = .normal ∧ ∃ σ, Rel n σ a ∧ K σ w.heap ∧ Same w0 w ∧ Unch W a0 a
def lookSh : List (Nat × Sh) → Nat → Option Sh
  | [], _ => none
  | (t, s) :: L, d => (match Nat.beq t d with | true => some s | false => lookSh L d)
def castK (ty : List (Nat × Sh)) (dst : Option Nat) (v : Value) (F : Value → Prop) : Prop :=
  match dst with
  | none => F v
  | some d => (match lookSh ty d with | some s => s.ex fun v' => v = v' ∧ F v' | none => F v)
theorem castK_ok {ty : List (Nat × Sh)} (h : castK ty dst v F) : F v := by
  unfold castK at h
  split at h
  · exact h
  · split at h
    · have ⟨v', e, h⟩ := Sh.ex_some h; subst e; exact h
    · exact h

end
def waits (o : Oper) (i : Nat) : Bool := o.after.toList.any fun e => Region.binds .any e && Nat.beq e.on i
def keepG (o : Oper) (G : List (Nat × (Heap → Prop))) : List (Nat × (Heap → Prop)) := G.filter fun g => !waits o g.1
theorem keepG_mem {o : Oper} {G : List (Nat × (Heap → Prop))} {g : Nat × (Heap → Prop)} (h : g ∈ keepG o G) : g ∈ G := (List.mem_filter.1 h).1
def wpAnyG (P : Program) (ops : Array Oper) (Q : Exit → Act → World → Prop) : Nat → List (Nat × (Heap → Prop)) → Array Bool → Act → World → Prop
  | 0, _, listed, a, w => Region.ready .any ops listed = [] ∧ Q .normal a w
  | fuel + 1, G, listed, a, w =>
    (Region.ready .any ops listed = [] → Q .normal a w) ∧
    ∀ j ∈ Region.ready .any ops listed, ∀ o, ops[j]? = some o → wpOp P ops Q j (fun a' w' => (∀ g ∈ keepG o G, g.2 w'.heap) ∧ wpAnyG P ops Q fuel (keepG o G) (listed.setIfInBounds j true) a' w') a w
section
variable {P : Program} {ops : Array Oper} {Q : Exit → Act → World → Prop}
theorem wpAnyG_any : ∀ (fuel : Nat) (G : List (Nat × (Heap → Prop))) (listed : Array Bool) (a : Act) (w : World), wpAnyG P ops Q fuel G listed a w → wpAny P .any ops Q fuel listed a w
  | 0, _, _, _, _, h => h
  | fuel + 1, G, listed, a, w, h => ⟨h.1, fun i hi => by
      have ⟨_, o, ho, _⟩ := mem_ready.1 hi
      exact wpOp_mono (fun a' w' h' => wpAnyG_any fuel _ _ a' w' h'.2) (h.2 i hi o ho)⟩
theorem wpAnyG_sub : ∀ (fuel : Nat) (G G' : List (Nat × (Heap → Prop))) (listed : Array Bool) (a : Act) (w : World), (∀ g ∈ G', g ∈ G) → wpAnyG P ops Q fuel G listed a w → wpAnyG P ops Q fuel G' listed a w
  | 0, _, _, _, _, _, _, h => h
  | fuel + 1, G, G', listed, a, w, hs, h => ⟨h.1, fun i hi o ho => by
      have hk : ∀ g ∈ keepG o G', g ∈ keepG o G := fun g hg => List.mem_filter.2 ⟨hs g (keepG_mem hg), (List.mem_filter.1 hg).2⟩
      exact wpOp_mono (fun a' w' h' => ⟨fun g hg => h'.1 g (hk g hg), wpAnyG_sub fuel _ _ _ a' w' hk h'.2⟩) (h.2 i hi o ho)⟩
theorem wpAnyG_true (i : Nat) : ∀ (fuel : Nat) (G : List (Nat × (Heap → Prop))) (listed : Array Bool) (a : Act) (w : World), wpAnyG P ops Q fuel G listed a w → wpAnyG P ops Q fuel ((i, fun _ => True) :: G) listed a w
  | 0, _, _, _, _, h => h
  | fuel + 1, G, listed, a, w, h => ⟨h.1, fun j hj o ho => by
      refine wpOp_mono (fun a' w' h' => ⟨fun g hg => ?_, ?_⟩) (h.2 j hj o ho)
      · have ⟨h1, h2⟩ := List.mem_filter.1 hg
        rcases List.mem_cons.1 h1 with e | e
        · grind
        · exact h'.1 g (List.mem_filter.2 ⟨e, h2⟩)
      · have := wpAnyG_true i fuel _ _ a' w' h'.2
        refine wpAnyG_sub fuel _ _ _ a' w' (fun g hg => ?_) this
        have ⟨h1, h2⟩ := List.mem_filter.1 hg
        rcases List.mem_cons.1 h1 with e | e
        · grind
        · exact List.mem_cons_of_mem _ (List.mem_filter.2 ⟨e, h2⟩)⟩
theorem waits_false {oj : Oper} {i : Nat} (h : ∀ e ∈ oj.after, Region.binds .any e = true → e.on ≠ i) : waits oj i = false := by
  unfold waits
  rw [List.any_eq_false]
  intro e he
  simp only [Bool.and_eq_true, not_and]
  intro hb hq
  exact h e (by grind) hb (Nat.eq_of_beq_eq_true hq)
theorem wpAnyG_first {i : Nat} {oi : Oper} {v : Value} {S : Heap → Prop} (hi : ops[i]? = some oi) (hsel : ∀ (j : Nat) (o : Oper) cs b, ops[j]? = some o → o.op ≠ .select cs b)
    (hQ : ∀ c a w, Q (.panic c) (a.put oi.dst v) w → Q (.panic c) a w) :
    ∀ (fuel : Nat) (G : List (Nat × (Heap → Prop))) (listed : Array Bool) (a : Act) (w : World),
      (∀ j oj, ops[j]? = some oj → j ≠ i → listed.getD j true = false → (∀ e ∈ oj.after, Region.binds .any e = true → e.on ≠ i) → oi.apart ops oj = true) →
      i ∈ Region.ready .any ops listed → YieldsIf P ops (fun w => S w.heap) oi v a → S w.heap → (∀ g ∈ G, g.2 w.heap) →
      wpAnyG P ops Q fuel ((i, S) :: G) (listed.setIfInBounds i true) (a.put oi.dst v) w → wpAnyG P ops Q (fuel + 1) G listed a w := by
  intro fuel
  induction fuel with
  | zero =>
    intro G listed a w _ hr hy hS hG H
    refine ⟨fun h => (by grind), fun j hj o ho => ?_⟩
    by_cases hji : j = i
    · subst hji
      exact hy.wpOp hi hS ⟨fun g hg => hG g (keepG_mem hg), H⟩
    · have := ready_mono hj hji
      rw [H.1] at this
      cases this
  | succ fuel ih =>
    intro G listed a w hfree hr hy hS hG H
    refine ⟨fun h => (by grind), fun j hj o ho => ?_⟩
    by_cases hji : j = i
    · subst hji
      refine hy.wpOp hi hS ⟨fun g hg => hG g (keepG_mem hg), wpAnyG_sub _ _ _ _ _ _ (fun g hg => List.mem_cons_of_mem _ (keepG_mem hg)) H⟩
    · have h1 := H.2 j (ready_mono hj hji) o ho
      have ⟨hjun, oj, hoj, hall⟩ := mem_ready.1 hj
      obtain rfl : oj = o := by grind
      have hnot : ∀ e ∈ oj.after, Region.binds .any e = true → e.on ≠ i := fun e he hb heq => by
        have h0 := (mem_ready.1 hr).1
        rcases Nat.lt_or_ge i listed.size with h' | h'
        · grind
        · grind
      have hkeep : keepG oj ((i, S) :: G) = (i, S) :: keepG oj G := by
        unfold keepG
        simp [waits_false hnot]
      rw [hkeep] at h1
      have hfree' : ∀ k ok, ops[k]? = some ok → k ≠ i → (listed.setIfInBounds j true).getD k true = false →
          (∀ e ∈ ok.after, Region.binds .any e = true → e.on ≠ i) → oi.apart ops ok = true := fun k ok hk hki hun hno => by
        refine hfree k ok hk hki ?_ hno
        by_cases hjk : j = k
        · grind
        · simp_all
      refine wpOp_mono (fun a' w' h3 => ?_) (wpOp_putIf hoj (hfree j oj hoj hji hjun hnot) (fun cs b => hsel i oi cs b hi) (fun cs b => hsel j oj cs b hoj) hQ hy h1)
      have ⟨hy', hall', hrest⟩ := h3
      refine ⟨fun g hg => hall' g (List.mem_cons_of_mem _ hg), (ih (keepG oj G) (listed.setIfInBounds j true) a' w' hfree' (ready_mono hr (Ne.symm hji)) hy' (hall' _ List.mem_cons_self) (fun g hg => hall' g (List.mem_cons_of_mem _ hg)) ?_)⟩
      rw [Array.setIfInBounds_comm _ _ hji]
      exact hrest
end
inductive Plan where
  | done
  | op (i : Nat) (p : Plan)
  | alts (q : Plan)
  | fork (i : Nat) (p q : Plan)
  | noalt
def lenB : Plan → Nat → Bool
  | .done, n => Nat.beq n 0
  | .op _ p, n + 1 => lenB p n
  | .alts q, n + 1 => lenB q (n + 1)
  | .fork _ p q, n + 1 => lenB p n && lenB q (n + 1)
  | .noalt, _ => true
  | _, _ => false
def planB (P : Program) (ops : Array Oper) : Plan → Option (List Nat) → Array Bool → Bool
  | .done, none, listed => (Region.ready .any ops listed).isEmpty
  | .op i rest, none, listed =>
    (match ops[i]? with
      | some o => (match isRead P o with
        | true => (Region.ready .any ops listed).contains i && Region.free .any ops listed i
        | false => (match Region.ready .any ops listed with | [j] => Nat.beq i j | _ => false))
      | none => false) && planB P ops rest none (listed.setIfInBounds i true)
  | .alts q, none, listed => (match Region.ready .any ops listed with | [] => false | j :: js => planB P ops q (some (j :: js)) listed)
  | .fork i p q, some R, listed => (match ops[i]? with
      | some o => !isRead P o
      | none => false) && planB P ops p none (listed.setIfInBounds i true) && planB P ops q (some (R.filter fun j => !Nat.beq i j)) listed
  | .noalt, some R, _ => R.isEmpty
  | _, _, _ => false
def heldK (h : Heap) (K : Prop) : List (Nat × (Heap → Prop)) → Prop
  | [] => K
  | g :: G => g.2 h ∧ heldK h K G
theorem heldK_ok {h : Heap} {K : Prop} : ∀ {G : List (Nat × (Heap → Prop))}, heldK h K G → (∀ g ∈ G, g.2 h) ∧ K
  | [], hh => ⟨(fun _ hm => by cases hm), hh⟩
  | _ :: _, hh => by
    have ⟨h1, h2⟩ := heldK_ok hh.2
    refine ⟨fun g' hm => ?_, h2⟩
    rcases List.mem_cons.1 hm with e | e
    · rw [e]; exact hh.1
    · grind
def addG (i : Nat) (S : Option (Heap → Prop)) (G : List (Nat × (Heap → Prop))) : List (Nat × (Heap → Prop)) :=
  match S with
  | some S => (i, S) :: G
  | none => G
abbrev ring (v : Value) : List PanicEntry := [{ v, recovered := false }]
def CallsE (P : Program) (f : FuncId) (args : Array Value) (h : Heap) (R E : Value → Heap → Prop) : Prop :=
  ∀ w : World, w.heap = h → Calls P f args w fun e w' => Same w w' ∧ ((∃ v, e = .returned v ∧ R v w'.heap) ∨ ∃ v, e = .panicked (ring v) ∧ E v w'.heap)
section
variable {P : Program} {f : FuncId} {args : Array Value} {h : Heap} {R R' E E' : Value → Heap → Prop}
end
def denOpE (P : Program) (pan : List Nat) (o : Oper) (σ : Env) (h : Heap) (K E : Value → Heap → Prop) : Prop :=
  match o.op with
  | .panic x => (match σ.ev x with
    | some (.iface t v) => E (.iface t v) h
    | _ => False)
  | .call { callee := .value f, args := args, argTypes := _ } => (match σ.ev f, evs σ args.toList with
    | some (.func (.func g) first captured), some vs => (match pan.any (Nat.beq g) with
      | true => (match hasBody P g with
        | true => CallsE P g (first.toList ++ vs ++ captured.toList).toArray h (fun v h' => retEx P o.type fun v' => v = v' ∧ K v' h') E
        | false => False)
      | false => denOp P o σ h K)
    | _, _ => denOp P o σ h K)
  | _ => denOp P o σ h K
theorem enter_of {P : Program} {o : Oper} {σ : Env} {ρ : Operand → Value} {h : Heap} {f : Operand} {args : Array Operand} {tys : Array TypeId} {g : FuncId} {first captured : Array Value} {vs : List Value} (hf : Fits σ ρ)
    (ho : o.op = .call { callee := .value f, args := args, argTypes := tys }) (hg : σ.ev f = some (.func (.func g) first captured)) (hvs : evs σ args.toList = some vs) (hb : hasBody P g = true) :
    denSem P (execOp ρ o) h fun x h' => x = .enter g (first.toList ++ vs ++ captured.toList).toArray ∧ h' = h := by
  unfold execOp; rw [ho]
  simp only [resolve, args_map hf hvs, hf _ _ hg, Deferred.ofValue]
  unfold hasBody at hb
  split at hb
  · rename_i fn hfn
    simp only [Bool.and_eq_true, Bool.not_eq_true'] at hb
    show denSem P (match P.funcs[g]? with | none => _ | some fn => _) h _
    rw [hfn]
    have hn : fn.body.isNone = false := by simp_all
    simp only [hb.2, hn, Bool.false_eq_true, if_false]
    have e : (first ++ vs.toArray ++ captured) = (first.toList ++ vs ++ captured.toList).toArray := by
      simp
    rw [e]
    exact ⟨rfl, rfl⟩
  · cases hb
theorem denOpE_ok {P : Program} {pan : List Nat} {o : Oper} {σ : Env} {a : Act} {w : World} {K E : Value → Heap → Prop} {next : Act → World → Prop} {Q : Exit → Act → World → Prop} (hf : Fits σ a.eval)
    (hh : denOpE P pan o σ w.heap K E) (hn : ∀ v w', K v w'.heap → Same w w' → next (a.put o.dst v) w') (he : ∀ v w', E v w'.heap → Same w w' → Q (.panic (ring v)) a w') : o.wp P a w next Q := by
  unfold denOpE at hh
  split at hh
  · rename_i x ho
    split at hh
    · rename_i t v hx
      unfold Oper.wp execOp
      rw [ho]
      simp only [hf _ _ hx]
      exact he _ _ hh (Same.refl w)
    · grind
  · rename_i f args tys ho
    split at hh
    · rename_i g first captured vs hg hvs
      split at hh
      · split at hh
        · rename_i hb
          obtain ⟨x, w', r1, ⟨rfl, hw'⟩, hs⟩ := denSem_sound _ _ _ (enter_of hf ho hg hvs hb) w rfl
          unfold Oper.wp
          rw [r1]
          refine (hh w' hw').mono ?_
          rintro e w'' ⟨hs2, ⟨v, rfl, hR⟩ | ⟨v, rfl, hE⟩⟩
          · exact hn _ _ (retEx_eq hR) (hs.trans hs2)
          · exact he _ _ hE (hs.trans hs2)
        · grind
      · exact (denOp_ok hf hh).wp hn
    · exact (denOp_ok hf hh).wp hn
  · exact (denOp_ok hf hh).wp hn
structure RelD (n : Nat) (D : List Deferred) (σ : Env) (a : Act) : Prop where
  size : a.tmps.size = n
  at_ : ∀ t v, σ t = some v → a.tmps.getD t undef = v
  defs : a.defers = D
theorem RelD.fits {n : Nat} {D : List Deferred} {σ : Env} {a : Act} (h : RelD n D σ a) : Fits σ a.eval := by
  intro x v hv
  cases x with
  | tmp t => exact h.at_ t v hv
  | _ => simpa [Env.ev, Act.eval] using hv
theorem RelD.bare {n : Nat} {D : List Deferred} {σ : Env} {a : Act} (h : RelD n D σ a) : Rel n σ { a with defers := [] } := ⟨rfl, h.size, h.at_⟩
theorem RelD.of {n : Nat} {D : List Deferred} {σ : Env} {a : Act} (h : Rel n σ { a with defers := [] }) (hd : a.defers = D) : RelD n D σ a := ⟨h.size, h.at_, hd⟩
theorem put_defs (a : Act) (d : Option Nat) (v : Value) : (a.put d v).defers = a.defers := by cases d <;> rfl
theorem putD_ok {n : Nat} {D : List Deferred} {σ : Env} {a : Act} {dst : Option Nat} {v : Value} {K : Env → Prop} (hr : RelD n D σ a) (h : putK n σ dst v K) : ∃ σ', RelD n D σ' (a.put dst v) ∧ K σ' := by
  have ⟨σ', h1, h2⟩ := putK_ok hr.bare h
  refine ⟨σ', .of ?_ ((put_defs _ _ _).trans hr.defs), h2⟩
  have e : ({ a with defers := [] }).put dst v = { (a.put dst v) with defers := [] } := by cases dst <;> rfl
  rw [← e]; exact h1
theorem gsplitD_ok {n : Nat} {D : List Deferred} {ops : Array Oper} {o : Oper} {σ : Env} {a : Act} {run skip : Env → Prop} (hr : RelD n D σ a) (h : gsplit ops o σ run skip) :
    (Region.wanted o (yielded ops a.tmps) = true ∧ ∃ σ', RelD n D σ' a ∧ run σ') ∨ (Region.wanted o (yielded ops a.tmps) = false ∧ ∃ σ', RelD n D σ' a ∧ skip σ') := by
  rcases gsplit_ok hr.bare h with ⟨h1, σ', h2, h3⟩ | ⟨h1, σ', h2, h3⟩
  · exact .inl ⟨h1, σ', .of h2 hr.defs, h3⟩
  · exact .inr ⟨h1, σ', .of h2 hr.defs, h3⟩
def upE (n : Nat) (D : List Deferred) (a0 : Act) (w0 : World) (W : List Nat) (K : List Deferred → Env → Heap → Prop) (E : Value → Heap → Prop) : Exit → Act → World → Prop :=
  fun e a w => (e = .normal ∧ ∃ D' σ, RelD n D' σ a ∧ K D' σ w.heap ∧ Same w0 w ∧ Unch W a0 a) ∨ (a.defers = D ∧ a.tmps.size = n ∧ Unch W a0 a ∧ Same w0 w ∧ ∃ v, e = .panic (ring v) ∧ E v w.heap)
def denDefer (o : Oper) (D : List Deferred) (σ : Env) : Option (List Deferred) :=
  match o.op with
  | .defer { callee := .value f, args := args, argTypes := _ } => (match σ.ev f, evs σ args.toList with
    | some (.func g first captured), some vs => some ({ target := .fn g captured, args := (first.toList ++ vs).toArray } :: D)
    | _, _ => none)
  | _ => none
theorem denDefer_ok {P : Program} {o : Oper} {σ : Env} {a : Act} {w : World} {D D' : List Deferred} {next : Act → World → Prop} {Q : Exit → Act → World → Prop} (hf : Fits σ a.eval) (hd : a.defers = D) (h : denDefer o D σ = some D')
    (hn : next ({ a with defers := D' }.put o.dst undef) w) : o.wp P a w next Q := by
  unfold denDefer at h
  split at h
  · rename_i f args tys ho
    split at h
    · rename_i g first captured vs hg hvs
      cases h
      subst hd
      unfold Oper.wp execOp
      rw [ho]
      simp only [resolve, args_map hf hvs, hf _ _ hg, Deferred.ofValue]
      have e : first ++ vs.toArray = (first.toList ++ vs).toArray := by simp
      rw [e]
      exact hn
    · cases h
  · cases h
def denOpsE (P : Program) (pan : List Nat) (n : Nat) (ops : Array Oper) (ty : List (Nat × Sh)) (E : Value → Heap → Prop) : List Oper → List Deferred → Env → Heap → (List Deferred → Env → Heap → Prop) → Prop
  | [], D, σ, h, K => K D σ h
  | o :: rest, D, σ, h, K => (match o.op with
    | .defer _ => gsplit ops o σ
      (fun σ => (match denDefer o D σ with
        | some D' => (match rest with | [] => putK n σ o.dst undef fun σ' => K D' σ' h | _ => False)
        | none => False))
      (fun σ => putK n σ o.dst undef fun σ' => denOpsE P pan n ops ty E rest D σ' h K)
    | _ => gsplit ops o σ
      (fun σ => denOpE P pan o σ h (fun v h' => castK ty o.dst v fun v => putK n σ o.dst v fun σ' => denOpsE P pan n ops ty E rest D σ' h' K) E)
      (fun σ => putK n σ o.dst undef fun σ' => denOpsE P pan n ops ty E rest D σ' h K))
theorem denOpsE_ok {P : Program} {pan : List Nat} {n : Nat} {ops : Array Oper} {ty : List (Nat × Sh)} {E : Value → Heap → Prop} {D : List Deferred} {K : List Deferred → Env → Heap → Prop} {a0 : Act} {w0 : World} : ∀ (rest : List Oper) (k : Nat) (σ : Env) (a : Act) (w : World),
    (∀ j, rest[j]? = ops[k + j]?) → RelD n D σ a → Same w0 w → Unch (opWrites ops) a0 a → denOpsE P pan n ops ty E rest D σ w.heap K → wpOps P ops (upE n D a0 w0 (opWrites ops) K E) (List.range' k rest.length) a w
  | [], k, σ, a, w, _, hr, hs, hu, h => .inl ⟨rfl, D, σ, hr, h, hs, hu⟩
  | o :: rest, k, σ, a, w, hj, hr, hs, hu, h => by
    have h0  := by have := hj 0; simpa using this.symm
    have hj' : ∀ j, rest[j]? = ops[k + 1 + j]? := fun j => by have := hj (j + 1); simpa [Nat.add_assoc, Nat.add_comm 1 j] using this
    simp only [List.length_cons, List.range'_succ, wpOps, h0]
    have skip : ∀ {σ' : Env}, Region.wanted o (yielded ops a.tmps) = false → RelD n D σ' a → (putK n σ' o.dst undef fun σ' => denOpsE P pan n ops ty E rest D σ' w.heap K) →
        (if Region.wanted o (yielded ops a.tmps) = true then o.wp P a w (wpOps P ops (upE n D a0 w0 (opWrites ops) K E) (List.range' (k + 1) rest.length)) (upE n D a0 w0 (opWrites ops) K E) ∨ (o.asks P a w ∧ LetsOut (upE n D a0 w0 (opWrites ops) K E)) else wpOps P ops (upE n D a0 w0 (opWrites ops) K E) (List.range' (k + 1) rest.length) (a.put o.dst undef) w) := by
      intro σ' hw hr' h
      rw [if_neg (by grind)]
      have ⟨σ1, hr1, h1⟩ := putD_ok hr' h
      exact denOpsE_ok rest (k + 1) σ1 _ w hj' hr1 hs (hu.trans (Unch.put (opWrites_mem h0))) h1
    unfold denOpsE at h
    split at h
    · rename_i c ho
      rcases gsplitD_ok hr h with ⟨hw, σ', hr', h⟩ | ⟨hw, σ', hr', h⟩
      · rw [if_pos hw]
        split at h
        · rename_i D' hD
          split at h
          · have ⟨σ1, hr1, h1⟩ := putD_ok (a := { a with defers := D' }) ⟨hr'.size, hr'.at_, rfl⟩ h
            exact .inl (denDefer_ok hr'.fits hr'.defs hD (.inl ⟨rfl, D', σ1, hr1, h1, hs, hu.trans (Unch.put (opWrites_mem h0))⟩))
          · grind
        · grind
      · grind
    · rcases gsplitD_ok hr h with ⟨hw, σ', hr', h⟩ | ⟨hw, σ', hr', h⟩
      · rw [if_pos hw]
        refine .inl (denOpE_ok hr'.fits h (fun v w' hk hs' => ?_) (fun v w' hE hs' => .inr ⟨hr'.defs, hr'.size, hu, hs.trans hs', v, rfl, hE⟩))
        have ⟨σ1, hr1, h1⟩ := putD_ok hr' (castK_ok hk)
        exact denOpsE_ok rest (k + 1) σ1 _ w' hj' hr1 (hs.trans hs') (hu.trans (Unch.put (opWrites_mem h0))) h1
      · grind
def runP : Nat → Nat → Plan → Plan
  | 0, _, p => p
  | k + 1, i, p => .op i (runP k (i + 1) p)
def keepB (o : Oper) (B : List (Nat × Option Addr)) : List (Nat × Option Addr) := B.filter fun g => !waits o g.1
def kpK (h h' : Heap) (K : Prop) : List (Nat × Option Addr) → Prop
  | [] => K
  | B => Kp h h' (B.map (·.2)) ∧ K
theorem kpK_ok {h h' : Heap} {K : Prop} {B : List (Nat × Option Addr)} (hh : kpK h h' K B) : (∀ g ∈ B, sameA g.2 h h') ∧ K := by
  cases B with
  | nil => exact ⟨(fun _ hm => by cases hm), hh⟩
  | cons b B => exact ⟨fun g hg => hh.1 g.2 (List.mem_map.2 ⟨g, hg, rfl⟩), hh.2⟩
def kbOf (kb : Bool) (σ : Env) (o : Oper) : Option (Option Addr) := match kb with | true => loadOf σ o | false => none
def denPlanE (P : Program) (pan : List Nat) (n : Nat) (ops : Array Oper) (E : Value → Heap → Prop) (kb : Bool) : Plan → List (Nat × (Heap → Prop)) → List (Nat × Option Addr) → Env → Heap → (Env → Heap → Prop) → Prop
  | .done, _, _, σ, h, K => K σ h
  | .op i rest, G, B, σ, h, K => (match ops[i]? with
    | some o => gsplit ops o σ
        (fun σ => (match isRead P o with
          | true => denRead P o σ h fun v S => putK n σ o.dst v fun σ' => (match kbOf kb σ o with
            | some p => denPlanE P pan n ops E kb rest G ((i, p) :: B) σ' h K
            | none => denPlanE P pan n ops E kb rest (addG i S G) B σ' h K)
          | false => denOpE P pan o σ h (fun v h' => heldK h' (kpK h h' (putK n σ o.dst v fun σ' => denPlanE P pan n ops E kb rest (keepG o G) (keepB o B) σ' h' K) (keepB o B)) (keepG o G)) E))
        (fun σ => putK n σ o.dst undef fun σ' => denPlanE P pan n ops E kb rest G B σ' h K)
    | none => False)
  | .alts q, G, B, σ, h, K => denPlanE P pan n ops E kb q G B σ h K
  | .fork i rest q, G, B, σ, h, K => (match ops[i]? with
    | some o => gsplit ops o σ
        (fun σ => denOpE P pan o σ h (fun v h' => heldK h' (kpK h h' (putK n σ o.dst v fun σ' => denPlanE P pan n ops E kb rest (keepG o G) (keepB o B) σ' h' K) (keepB o B)) (keepG o G)) E)
        (fun σ => putK n σ o.dst undef fun σ' => denPlanE P pan n ops E kb rest G B σ' h K)
    | none => False) ∧ denPlanE P pan n ops E kb q G B σ h K
  | .noalt, _, _, _, _, _ => True
def GB (F G : List (Nat × (Heap → Prop))) (B : List (Nat × Option Addr)) (h : Heap) : Prop := ∀ f ∈ F, f ∈ G ∨ ∃ p, (f.1, p) ∈ B ∧ ∀ h', sameA p h h' → f.2 h'
theorem GB.step {F G : List (Nat × (Heap → Prop))} {B : List (Nat × Option Addr)} {h h' : Heap} {o : Oper} (H : GB F G B h) (h1 : ∀ g ∈ keepG o G, g.2 h') (h2 : ∀ g ∈ keepB o B, sameA g.2 h h') : (∀ f ∈ keepG o F, f.2 h') ∧ GB (keepG o F) (keepG o G) (keepB o B) h' := by
  have key : ∀ f ∈ keepG o F, f.2 h' ∧ (f ∈ keepG o G ∨ ∃ p, (f.1, p) ∈ keepB o B ∧ ∀ h'', sameA p h' h'' → f.2 h'') := fun f hf => by
    have ⟨hf1, hf2⟩ := List.mem_filter.1 hf
    rcases H f hf1 with a | ⟨p, hp, hk⟩
    · have : f ∈ keepG o G := List.mem_filter.2 ⟨a, hf2⟩
      exact ⟨h1 f this, .inl this⟩
    · have hm : (f.1, p) ∈ keepB o B := List.mem_filter.2 ⟨hp, hf2⟩
      have hs := h2 _ hm
      exact ⟨hk _ hs, .inr ⟨p, hm, fun h'' q => hk _ (sameA.trans hs q)⟩⟩
  exact ⟨fun f hf => (key f hf).1, fun f hf => (key f hf).2⟩
theorem Unch.unput {W : List Nat} {a b : Act} {dst : Option Nat} {v : Value} (h : ∀ d, dst = some d → d ∈ W) (hu : Unch W a (b.put dst v)) : Unch W a b := fun t ht => by
  rw [← hu t ht]
  cases dst with
  | none => rfl
  | some d =>
    have hne : t ≠ d := fun e => ht (e ▸ h d rfl)
    simp [Act.put, Ne.symm hne]
section
variable {P : Program} {pan : List Nat} {n : Nat} {ops : Array Oper} {E : Value → Heap → Prop} {kb : Bool} {D : List Deferred} {K : Env → Heap → Prop} {a0 : Act} {w0 : World}
abbrev upP (n : Nat) (D : List Deferred) (a0 : Act) (w0 : World) (ops : Array Oper) (K : Env → Heap → Prop) (E : Value → Heap → Prop) := upE n D a0 w0 (opWrites ops) (fun D' σ h => D' = D ∧ K σ h) E
theorem denStepE_ok {rest : Plan} {i m : Nat} {o : Oper} {listed : Array Bool} {F G : List (Nat × (Heap → Prop))} {B : List (Nat × Option Addr)} {σ : Env} {a : Act} {w : World}
    (ih : ∀ F G B σ a w, RelD n D σ a → Same w0 w → Unch (opWrites ops) a0 a → (∀ g ∈ F, g.2 w.heap) → GB F G B w.heap → denPlanE P pan n ops E kb rest G B σ w.heap K → wpAnyG P ops (upP n D a0 w0 ops K E) m F (listed.setIfInBounds i true) a w)
    (ho : ops[i]? = some o) (hr : RelD n D σ a) (hs : Same w0 w) (hu : Unch (opWrites ops) a0 a) (hF : ∀ g ∈ F, g.2 w.heap) (hGB : GB F G B w.heap)
    (h : gsplit ops o σ (fun σ => denOpE P pan o σ w.heap (fun v h' => heldK h' (kpK w.heap h' (putK n σ o.dst v fun σ' => denPlanE P pan n ops E kb rest (keepG o G) (keepB o B) σ' h' K) (keepB o B)) (keepG o G)) E) (fun σ => putK n σ o.dst undef fun σ' => denPlanE P pan n ops E kb rest G B σ' w.heap K)) :
    wpOp P ops (upP n D a0 w0 ops K E) i (fun a' w' => (∀ g ∈ keepG o F, g.2 w'.heap) ∧ wpAnyG P ops (upP n D a0 w0 ops K E) m (keepG o F) (listed.setIfInBounds i true) a' w') a w := by
  rcases gsplitD_ok hr h with ⟨hw, σ', hr', h⟩ | ⟨hw, σ', hr', hskip⟩
  · unfold wpOp
    simp only [ho, hw, if_true]
    refine .inl (denOpE_ok hr'.fits h (fun v w' hk hs' => ?_) (fun v w' hE hs' => .inr ⟨hr'.defs, hr'.size, hu, hs.trans hs', v, rfl, hE⟩))
    have ⟨h1, h2⟩ := heldK_ok hk
    have ⟨h2, h3⟩ := kpK_ok h2
    have ⟨σ1, hr1, h3⟩ := putD_ok hr' h3
    have ⟨q1, q2⟩ := hGB.step h1 h2
    exact ⟨q1, ih _ _ _ σ1 _ w' hr1 (hs.trans hs') (hu.trans (Unch.put (opWrites_mem ho))) q1 q2 h3⟩
  · unfold wpOp
    simp only [ho, hw, Bool.false_eq_true, if_false]
    have ⟨σ1, hr1, h3⟩ := putD_ok hr' hskip
    exact ⟨fun g hg => hF g (keepG_mem hg), wpAnyG_sub _ _ _ _ _ _ (fun g hg => keepG_mem hg) (ih F G B σ1 _ w hr1 hs (hu.trans (Unch.put (opWrites_mem ho))) hF hGB h3)⟩
theorem denPlanE_both (hsel : Region.noSelect ops = true) (plan : Plan) :
    (∀ (m : Nat) (listed : Array Bool) (F G : List (Nat × (Heap → Prop))) (B : List (Nat × Option Addr)) (σ : Env) (a : Act) (w : World), lenB plan m = true →
      planB P ops plan none listed = true → RelD n D σ a → Same w0 w → Unch (opWrites ops) a0 a → (∀ g ∈ F, g.2 w.heap) → GB F G B w.heap → denPlanE P pan n ops E kb plan G B σ w.heap K →
      wpAnyG P ops (upP n D a0 w0 ops K E) m F listed a w) ∧
    (∀ (m : Nat) (R : List Nat) (listed : Array Bool) (F G : List (Nat × (Heap → Prop))) (B : List (Nat × Option Addr)) (σ : Env) (a : Act) (w : World), lenB plan (m + 1) = true →
      planB P ops plan (some R) listed = true → RelD n D σ a → Same w0 w → Unch (opWrites ops) a0 a → (∀ g ∈ F, g.2 w.heap) → GB F G B w.heap → denPlanE P pan n ops E kb plan G B σ w.heap K →
      ∀ j ∈ R, ∀ o, ops[j]? = some o → wpOp P ops (upP n D a0 w0 ops K E) j (fun a' w' => (∀ g ∈ keepG o F, g.2 w'.heap) ∧ wpAnyG P ops (upP n D a0 w0 ops K E) m (keepG o F) (listed.setIfInBounds j true) a' w') a w) := by
  induction plan with
  | done =>
    refine ⟨fun m listed F G B σ a w hl hp hr hs hu hF hGB h => ?_, fun m R listed F G B σ a w hl hp => by cases hp⟩
    obtain rfl : m = 0 := Nat.eq_of_beq_eq_true hl
    simp only [planB, List.isEmpty_iff] at hp
    exact ⟨hp, .inl ⟨rfl, D, σ, hr, ⟨rfl, h⟩, hs, hu⟩⟩
  | noalt =>
    refine ⟨fun m listed F G B σ a w hl hp => (by cases hp), fun m R listed F G B σ a w hl hp hr hs hu hF hGB h j hj => ?_⟩
    simp only [planB, List.isEmpty_iff] at hp
    subst hp; cases hj
  | alts q ih =>
    refine ⟨fun m listed F G B σ a w hl hp hr hs hu hF hGB h => ?_, fun m R listed F G B σ a w hl hp => by cases hp⟩
    cases m with
    | zero => cases hl
    | succ m =>
      simp only [planB] at hp
      split at hp
      · cases hp
      · rename_i j js hready
        refine ⟨(fun e => by rw [hready] at e; cases e), fun j' hj' o ho => ?_⟩
        rw [hready] at hj'
        exact ih.2 m _ listed F G B σ a w hl hp hr hs hu hF hGB h j' hj' o ho
  | fork i rest q ih1 ih2 =>
    refine ⟨fun m listed F G B σ a w hl hp => (by cases hp), fun m R listed F G B σ a w hl hp hr hs hu hF hGB h j hj o ho => ?_⟩
    simp only [planB, Bool.and_eq_true] at hp
    obtain ⟨⟨hp1, hp2⟩, hp3⟩ := hp
    simp only [lenB, Bool.and_eq_true] at hl
    simp only [denPlanE] at h
    by_cases hji : i = j
    · subst hji
      have h := h.1
      rw [ho] at h
      exact denStepE_ok (fun F G B σ a w hr hs hu hF hGB h => ih1.1 m _ F G B σ a w hl.1 hp2 hr hs hu hF hGB h) ho hr hs hu hF hGB h
    · refine ih2.2 m _ listed F G B σ a w hl.2 hp3 hr hs hu hF hGB h.2 j (List.mem_filter.2 ⟨hj, ?_⟩) o ho
      have : Nat.beq i j = false := by cases hb : Nat.beq i j; rfl; exact absurd (Nat.eq_of_beq_eq_true hb) hji
      simp [this]
  | op i rest ih =>
    refine ⟨fun m listed F G B σ a w hl hp hr hs hu hF hGB h => ?_, fun m R listed F G B σ a w hl hp => by cases hp⟩
    cases m with
    | zero => cases hl
    | succ m =>
      simp only [planB, Bool.and_eq_true] at hp
      obtain ⟨hp1, hp2⟩ := hp
      simp only [denPlanE] at h
      split at h
      · rename_i o ho
        simp only [ho] at hp1
        have hQ : ∀ v, ∀ c a w, upP n D a0 w0 ops K E (.panic c) (a.put o.dst v) w → upP n D a0 w0 ops K E (.panic c) a w := fun v c a w hq => by
          rcases hq with ⟨e, _⟩ | ⟨h1, h2, h3, h4⟩
          · cases e
          · refine .inr ⟨(put_defs _ _ _).symm.trans h1, ?_, h3.unput (opWrites_mem ho), h4⟩
            rw [← h2]; cases o.dst <;> simp [Act.put]
        have take : ∀ (v : Value) (S : Option (Heap → Prop)) (σ' : Env) (G' : List (Nat × (Heap → Prop))) (B' : List (Nat × Option Addr)), isRead P o = true → RelD n D σ' (a.put o.dst v) → YieldsIf P ops (fun w => okS S w.heap) o v a → okS S w.heap → GB (addG i S F) G' B' w.heap →
            denPlanE P pan n ops E kb rest G' B' σ' w.heap K → wpAnyG P ops (upP n D a0 w0 ops K E) (m + 1) F listed a w := fun v S σ' G' B' hread hr' hy hS hGB' hd => by
          rw [hread] at hp1
          simp only [Bool.and_eq_true] at hp1
          have hF' : ∀ g ∈ addG i S F, g.2 w.heap := by
            intro g hg
            cases S with
            | none => exact hF g hg
            | some S =>
              rcases List.mem_cons.1 hg with e | e
              · rw [e]; exact hS
              · exact hF g e
          have ih := ih.1 m _ (addG i S F) G' B' σ' (a.put o.dst v) w hl hp2 hr' hs (hu.trans (Unch.put (opWrites_mem ho))) hF' hGB' hd
          refine wpAnyG_first (S := okS S) ho (Region.noSelect_spec hsel) (hQ v) m F listed a w (Region.free_spec ho hp1.2) (by simpa using hp1.1) hy hS hF ?_
          cases S with
          | none => exact wpAnyG_true i _ _ _ _ _ ih
          | some S => exact ih
        cases hread : isRead P o with
        | true =>
          rcases gsplitD_ok hr h with ⟨hw, σ', hr', h⟩ | ⟨hw, σ', hr', hskip⟩
          · rw [hread] at h
            dsimp only at h
            cases hlo : kbOf kb σ' o with
            | some p =>
              have hlo' : loadOf σ' o = some p := by cases kb with | true => exact hlo | false => cases hlo
              rw [hlo] at h
              obtain ⟨v, S, h1, h2, h4, h3⟩ := denRead_load hr'.fits hlo' h
              obtain ⟨σ1, hr1, h4'⟩ := putD_ok hr' h1
              refine take v (some S) σ1 G ((i, p) :: B) hread hr1 (.inl ⟨hw, fun w' hS => rd_run _ _ _ (h3 _ hS)⟩) h2 (fun f hf => ?_) h4'
              rcases List.mem_cons.1 hf with e | e
              · simp_all
              · exact (hGB f e).imp id fun ⟨q, hq, hk⟩ => ⟨q, List.mem_cons_of_mem _ hq, hk⟩
            | none =>
              rw [hlo] at h
              obtain ⟨v, S, h1, h2, h3⟩ := denRead_ok hr'.fits h
              obtain ⟨σ1, hr1, h4⟩ := putD_ok hr' h1
              refine take v S σ1 (addG i S G) B hread hr1 (.inl ⟨hw, fun w' hS => rd_run _ _ _ (h3 _ hS)⟩) h2 (fun f hf => ?_) h4
              cases S with
              | none => exact hGB f hf
              | some S =>
                rcases List.mem_cons.1 hf with e | e
                · exact .inl (e ▸ List.mem_cons_self)
                · exact (hGB f e).imp (List.mem_cons_of_mem _) id
          · obtain ⟨σ1, hr1, h4⟩ := putD_ok hr' hskip
            exact take undef none σ1 G B hread hr1 (.inr ⟨hw, rfl⟩) trivial hGB h4
        | false =>
          rw [hread] at hp1 h
          simp only at hp1 h
          have hready : Region.ready .any ops listed = [i] := by
            split at hp1
            · rename_i j hj; rw [hj, Nat.eq_of_beq_eq_true hp1]
            · cases hp1
          refine ⟨(fun e => by rw [hready] at e; cases e), fun j hj o' ho' => ?_⟩
          rw [hready] at hj
          obtain rfl : j = i := by simpa using hj
          obtain rfl : o' = o := by rw [ho] at ho'; exact (Option.some.inj ho').symm
          exact denStepE_ok (fun F G B σ a w hr hs hu hF hGB h => ih.1 m _ F G B σ a w hl hp2 hr hs hu hF hGB h) ho hr hs hu hF hGB h
      · exact h.elim
theorem denPlanE_ok {p : Plan} {σ : Env} {a : Act} {w : World} (hb : (P.follows .mixedOrders && Region.noSelect ops && lenB p ops.size && planB P ops p none (Array.replicate ops.size false)) = true) (hr : RelD n D σ a)
    (h : denPlanE P pan n ops E kb p [] [] σ w.heap K) : P.follows .mixedOrders = true ∧ wpAny P .any ops (upP n D a w ops K E) ops.size (Array.replicate ops.size false) a { w with drawn := w.drawn + 1 } := by
  simp only [Bool.and_eq_true] at hb
  obtain ⟨⟨⟨h1, h2⟩, h3⟩, h4⟩ := hb
  exact ⟨h1, wpAnyG_any _ _ _ _ _ ((denPlanE_both (a0 := a) (w0 := w) h2 p).1 ops.size (Array.replicate ops.size false) [] [] [] σ a { w with drawn := w.drawn + 1 } h3 h4 hr ⟨rfl, rfl, rfl⟩ (Unch.refl _ _) (fun _ hm => by cases hm) (fun _ hm => by cases hm) h)⟩
end
def noE : Value → Heap → Prop := fun _ _ => False
def onNil (K : Env → Heap → Prop) : List Deferred → Env → Heap → Prop
  | [] => K
  | _ => fun _ _ => False
theorem Rel.D {n : Nat} {σ : Env} {a : Act} (h : Rel n σ a) : RelD n [] σ a := ⟨h.size, h.at_, h.defers⟩
theorem RelD.R {n : Nat} {σ : Env} {a : Act} (h : RelD n [] σ a) : Rel n σ a := ⟨h.defs, h.size, h.at_⟩
theorem upR_of_upP {n : Nat} {ops : Array Oper} {K : Env → Heap → Prop} {a0 a : Act} {w0 w : World} {e : Exit} (h : upP n [] a0 w0 ops K noE e a w) : upR n a0 w0 (opWrites ops) K e a w := by
  rcases h with ⟨he, D', σ, h1, ⟨rfl, hk⟩, hs, hu⟩ | ⟨_, _, _, _, _, _, hF⟩
  · exact ⟨he, σ, h1.R, hk, hs, hu⟩
  · exact hF.elim
theorem upR_of_upE {n : Nat} {W : List Nat} {K : Env → Heap → Prop} {a0 a : Act} {w0 w : World} {e : Exit} (h : upE n [] a0 w0 W (onNil K) noE e a w) : upR n a0 w0 W K e a w := by
  rcases h with ⟨he, D', σ, h1, hk, hs, hu⟩ | ⟨_, _, _, _, _, _, hF⟩
  · cases D' with
    | nil => exact ⟨he, σ, h1.R, hk, hs, hu⟩
    | cons => exact hk.elim
  · exact hF.elim
section
variable {P:Program} {a:Act} {w:World} {n:Nat} {W:List Nat} {Q:Exit→Act→World→Prop} {c:Code} {h:Heap} {fn:Func} {f:FuncId} {args:List Value} {R:TyP}
inductive Ann where
  | leaf
  | seq (a b : Ann)
  | cond (a b : Ann)
  | block (a : Ann)
  | loop (L : List (Nat × Sh)) (a : Ann)
  | join (L : List (Nat × Sh)) (a : Ann)
  | planB (kb : Bool) (p : Plan)
  | scope (l : Nat) (L : List (Nat × Sh)) (a b : Ann)
  | typed (ty : List (Nat × Sh))
abbrev Ann.plan := planB false
abbrev Ann.planK := planB true
def writes : Code → List Nat
  | .region _ ops _ => opWrites ops
  | .seq a b => writes a ++ writes b
  | .cond _ a b => writes a ++ writes b
  | .block _ a => writes a
  | .loop a => writes a
  | .scope a => writes a
  | _ => []
def Env.forget (σ : Env) (ws : List Nat) : Env := fun t => bif ws.any (Nat.beq t) then none else σ t
theorem Env.forget_some {σ : Env} {ws : List Nat} {t : Nat} {v : Value} (h : σ.forget ws t = some v) : t ∉ ws ∧ σ t = some v := by
  unfold Env.forget at h
  cases hq : ws.any (Nat.beq t) with
  | true => grind
  | false =>
    rw [hq] at h
    refine ⟨fun hm => ?_, h⟩
    have := List.any_eq_false.1 hq t hm
    simp at this
def thenK (K : Env → Heap → Prop) (Q : Exit → Env → Heap → Prop) : Exit → Env → Heap → Prop
  | .normal => K
  | e => Q e
def blockK (id : Nat) (Q : Exit → Env → Heap → Prop) : Exit → Env → Heap → Prop
  | .exit i => (match Nat.beq i id with | true => Q .normal | false => Q (.exit i))
  | e => Q e
def JoinP {α : Type} (F : α) (B : α → Prop) : Prop := B F
def gotoK (l : Nat) (K : Env → Heap → Prop) (Q : Exit → Env → Heap → Prop) : Exit → Env → Heap → Prop
  | .goto l' => (match Nat.beq l' l with | true => K | false => fun _ _ => False)
  | e => Q e
def hasLabel : Code → Nat → Bool
  | .seq a b, l => hasLabel a l || hasLabel b l
  | .label l', l => Nat.beq l' l
  | _, _ => false
def den (P : Program) (n : Nat) : Ann → Option Nat → Code → (Exit → Env → Heap → Prop) → Env → Heap → Prop
  | .leaf, none, c, Q, σ, h => (match c with
    | .skip => Q .normal σ h
    | .label _ => Q .normal σ h
    | .exit id => Q (.exit id) σ h
    | .goto l => Q (.goto l) σ h
    | .ret => Q .ret σ h
    | .region _ ops false => denOpsE P [] n ops [] noE ops.toList [] σ h (onNil (Q .normal))
    | _ => False)
  | .leaf, some l, c, Q, σ, h => (match c with
    | .label l' => (match Nat.beq l' l with | true => Q (.goto l) σ h | false => False)
    | _ => False)
  | .planB kb p, none, c, Q, σ, h => (match c with
    | .region _ ops true => (match (P.follows .mixedOrders && Region.noSelect ops && lenB p ops.size && planB P ops p none (Array.replicate ops.size false)) with
      | true => denPlanE P [] n ops noE kb p [] [] σ h (Q .normal)
      | false => False)
    | _ => False)
  | .seq a b, none, c, Q, σ, h => (match c with
    | .seq c d => den P n a none c (thenK (fun σ' h' => den P n b none d Q σ' h') Q) σ h
    | _ => False)
  | .seq a b, some l, c, Q, σ, h => (match c with
    | .seq c d => (match hasLabel c l with
      | true => den P n a (some l) c Q σ h
      | false => den P n a none c (thenK (fun σ' h' => den P n b (some l) d Q σ' h') Q) σ h)
    | _ => False)
  | .cond a b, none, c, Q, σ, h => (match c with
    | .cond x c d => (match σ.ev x with
      | some (.bool q) => if q = true then den P n a none c Q σ h else den P n b none d Q σ h
      | _ => False)
    | _ => False)
  | .block a, none, c, Q, σ, h => (match c with
    | .block id c => den P n a none c (blockK id Q) σ h
    | _ => False)
  | .loop L a, none, c, Q, σ, h => (match c with
    | .loop c => ∃ (I : Tele (Heap → Prop) L) (μ : Tele (Heap → Nat) L), apE False L I σ (fun f => f h) ∧
        allE L (fun σ' => ∀ h', apE False L I σ' (fun f => f h') →
          den P n a none c (thenK (fun σ'' h'' => apE False L I σ'' (fun f => f h'') ∧ apE 0 L μ σ'' (fun f => f h'') < apE 0 L μ σ' (fun f => f h')) Q) σ' h') (σ.forget (writes c))
    | _ => False)
  | .join L a, none, c, Q, σ, h => JoinP (α := Tele (Heap → Prop) L) (lamE L (fun σ' h' => Q .normal σ' h') (σ.forget (writes c)))
      (fun J => den P n a none c (thenK (fun σ' h' => apE False L J σ' (fun f => f h')) Q) σ h)
  | .typed ty, none, c, Q, σ, h => (match c with
    | .region _ ops false => denOpsE P [] n ops ty noE ops.toList [] σ h (onNil (Q .normal))
    | _ => False)
  | .scope l L a b, none, c, Q, σ, h => (match c with
    | .scope c => (match findLabel c l with
      | some r => ∃ (I : Tele (Heap → Prop) L) (μ : Tele (Heap → Nat) L),
          den P n a (some l) c (gotoK l (fun σ' h' => apE False L I σ' (fun f => f h')) Q) σ h ∧
          allE L (fun σ' => ∀ h', apE False L I σ' (fun f => f h') →
            den P n b none r (gotoK l (fun σ'' h'' => apE False L I σ'' (fun f => f h'') ∧ apE 0 L μ σ'' (fun f => f h'') < apE 0 L μ σ' (fun f => f h')) Q) σ' h') (σ.forget (writes c))
      | none => False)
    | _ => False)
  | _, _, _, _, _, _ => False
def opened : Code → List Code
  | .skip => []
  | .seq a b => opened a ++ [b]
  | c => [c]
theorem opened_steps {b : Frame} {cs : List Frame} (c : Code) : ∀ (k : List Item), Steps P (lone (b.at a (.code c :: k)) cs w) (lone (b.at a ((opened c).map Item.code ++ k)) cs w) := by
  induction c with
  | skip => exact fun k => .one step_skip
  | seq x y hx hy =>
    intro k
    simp only [opened, List.map_append, List.map_cons, List.map_nil, List.append_assoc, List.cons_append, List.nil_append]
    exact .head step_seq (hx (.code y :: k))
  | _ => exact fun k => .refl _ _
theorem hasLabel_find (c : Code) (l : Nat) : hasLabel c l = (findLabel c l).isSome := by
  induction c with
  | seq a b ha hb =>
    unfold hasLabel findLabel
    rw [ha, hb]
    cases findLabel a l <;> simp
  | label l' =>
    unfold hasLabel findLabel
    by_cases h : l' = l
    · simp_all
    · have : Nat.beq l' l = false := by cases hb : Nat.beq l' l; rfl; exact absurd (Nat.eq_of_beq_eq_true hb) h
      simp [this, h]
  | _ => rfl
theorem findLabel_writes (c : Code) (l : Nat) : ∀ (r : Code), findLabel c l = some r → ∀ t, t ∈ writes r → t ∈ writes c := by
  induction c with
  | seq a b ha hb =>
    intro r h t ht
    unfold findLabel at h
    split at h
    · rename_i rest hr
      cases h
      exact List.mem_append.2 ((List.mem_append.1 ht).imp (ha rest hr t) id)
    · exact List.mem_append_right _ (hb r h t ht)
  | label l' =>
    intro r h t ht
    unfold findLabel at h
    split at h
    · cases h; cases ht
    · cases h
  | _ => exact fun r h => by cases h
def wpTo (P : Program) (l : Nat) (c : Code) (Q : Exit → Act → World → Prop) (a : Act) (w : World) : Prop :=
  ∀ (b : Frame) (k : List Item) (cs : List Frame),
    (∃ e a' w', Q e a' w' ∧ e ≠ .normal ∧ Arrives P (lone (b.at a (.code c :: k)) cs w) b k cs e a' w') ∨
    (∃ a' w' r, Q (.goto l) a' w' ∧ findLabel c l = some r ∧ Steps P (lone (b.at a (.code c :: k)) cs w) (lone (b.at a' ((opened r).map Item.code ++ k)) cs w'))
def up (n : Nat) (a0 : Act) (w0 : World) (W : List Nat) (Q : Exit → Env → Heap → Prop) : Exit → Act → World → Prop :=
  fun e a w => ∃ σ, Rel n σ a ∧ Q e σ w.heap ∧ Same w0 w ∧ Unch W a0 a
theorem up_of_upR {a0 : Act} {w0 : World} {Q : Exit → Env → Heap → Prop} {e : Exit} (h : upR n a0 w0 W (Q .normal) e a w) : up n a0 w0 W Q e a w := by
  obtain ⟨rfl, h⟩ := h; exact h
def envOf (a : Act) : Env := fun t => some (a.tmps.getD t undef)
theorem Rel.of_sub {σ σ' σ'' : Env} {a':Act} (hr : Rel n σ a) (hr' : Rel n σ' a') (hu : Unch W a a') (hs : Sub σ'' (σ.forget W) σ') : Rel n σ'' a' :=
  ⟨hr'.defers, hr'.size, fun t v hv => by
    rcases hs t v hv with h | h
    · exact hr'.at_ t v h
    · have ⟨h1, h2⟩ := Env.forget_some h
      rw [hu t h1]; exact hr.at_ t v h2⟩
theorem apE_envOf {Y : Type} {d : Y} {X : Type} {L : List (Nat × Sh)} {f : Tele X L} {K : X → Y} {σ : Env} (hr : Rel n σ a) (hd : ∀ t s, (t, s) ∈ L → ∃ v, σ t = some v) : apE d L f (envOf a) K = apE d L f σ K :=
  apE_congr L f fun t s hm => by
    have ⟨v, hv⟩ := hd t s hm
    rw [hv]
    unfold envOf
    rw [hr.at_ t v hv]
def wpo (P : Program) (c : Code) (Q : Exit → Act → World → Prop) (a : Act) (w : World) : Prop :=
  ∀ (b : Frame) (k : List Item) (cs : List Frame), ∃ e a' w', Q e a' w' ∧ Arrives P (lone (b.at a ((opened c).map Item.code ++ k)) cs w) b k cs e a' w'
theorem wpo.wp (h : wpo P c Q a w) : c.wp P Q a w := fun b k cs => by
  have ⟨e, a', w', hq, harr⟩ := h b k cs
  exact ⟨e, a', w', hq, .of_steps (opened_steps c k) harr⟩
theorem wpo_of_wp (hc : opened c = [c]) (h : c.wp P Q a w) : wpo P c Q a w := fun b k cs => by
  rw [hc]; exact h b k cs
theorem wpo_mono {Q':Exit→Act→World→Prop} (h : wpo P c Q a w) (hq : ∀ e a w, Q e a w → Q' e a w) : wpo P c Q' a w :=
  fun b k cs => let ⟨e, a', w', q, r⟩ := h b k cs; ⟨e, a', w', hq _ _ _ q, r⟩
theorem wpo_seq {x y : Code} (h : wpo P x (Exit.then (wpo P y Q) Q) a w) : wpo P (.seq x y) Q a w := by
  intro b k cs
  simp only [opened, List.map_append, List.map_cons, List.map_nil, List.append_assoc, List.cons_append, List.nil_append]
  have ⟨e, a₁, w₁, hq, harr⟩ := h b (.code y :: k) cs
  cases e with
  | normal =>
    have ⟨e₂, a₂, w₂, hq₂, harr₂⟩ := hq b k cs
    exact ⟨e₂, a₂, w₂, hq₂, .of_steps (Steps.trans harr (opened_steps y k)) harr₂⟩
  | outgrown => exact ⟨_, a₁, w₁, hq, .pass rfl (fun _ _ => .inl (by simp)) harr⟩
  | _ => exact ⟨_, a₁, w₁, hq, .pass rfl (fun _ _ => .inl (by simp)) harr⟩
theorem wp_scope_label {r:Code} {l : Nat} (hf : findLabel c l = some r) (I : Act → World → Prop) (μ : Act → World → Nat)
    (Q1 : Exit → Act → World → Prop) (Q2 : Act → World → Exit → Act → World → Prop)
    (h0 : wpTo P l c Q1 a w) (h1 : ∀ a' w', Q1 (.goto l) a' w' → I a' w') (h1' : ∀ e a' w', e ≠ .goto l → e ≠ .normal → Q1 e a' w' → Q e a' w' ∧ ∀ x, e ≠ .goto x)
    (round : ∀ a w, I a w → wpo P r (Q2 a w) a w) (h2 : ∀ a w a' w', I a w → Q2 a w (.goto l) a' w' → I a' w' ∧ μ a' w' < μ a w) (h2' : ∀ a w e a' w', I a w → e ≠ .goto l → Q2 a w e a' w' → Q e a' w' ∧ ∀ x, e ≠ .goto x) :
    (Code.scope c).wp P Q a w := by
  intro b k cs
  have out : ∀ (m : Machine) (e : Exit) (a' : Act) (w' : World), (∀ x, e ≠ .goto x) → Arrives P m b (.inScope c :: k) cs e a' w' → Arrives P m b k cs e a' w' := by
    intro m e a' w' hne harr
    cases e with
    | normal => exact Steps.trans harr (.one step_inScope)
    | exit id => exact fun k' hk => harr k' (by simp [exitTo, hk])
    | goto x => exact absurd rfl (hne x)
    | _ => exact harr
  have key : ∀ n a w, μ a w = n → I a w → ∃ e a' w', Q e a' w' ∧ Arrives P (lone (b.at a ((opened r).map Item.code ++ .inScope c :: k)) cs w) b k cs e a' w' := by
    intro n
    induction n using Nat.strongRecOn with
    | _ n ih =>
      intro a w hn hI
      obtain ⟨e, a1, w1, hq, harr⟩ := round a w hI b (.inScope c :: k) cs
      by_cases he : e = .goto l
      · subst he
        obtain ⟨hI1, hlt⟩ := h2 a w a1 w1 hI hq
        have hst := harr (.code r :: .inScope c :: k) (by simp [gotoIn, hf])
        obtain ⟨e2, a2, w2, hq2, harr2⟩ := ih (μ a1 w1) (hn ▸ hlt) a1 w1 rfl hI1
        exact ⟨e2, a2, w2, hq2, .of_steps (Steps.trans hst (opened_steps r _)) harr2⟩
      · obtain ⟨hQ, hne⟩ := h2' a w e a1 w1 hI he hq
        exact ⟨e, a1, w1, hQ, out _ e a1 w1 hne harr⟩
  rcases h0 b (.inScope c :: k) cs with ⟨e, a', w', hq, he2, harr⟩ | ⟨a', w', r', hq, hr, hst⟩
  · by_cases he1 : e = .goto l
    · subst he1
      have hst := harr (.code r :: .inScope c :: k) (by simp [gotoIn, hf])
      obtain ⟨e2, a2, w2, hq2, harr2⟩ := key _ a' w' rfl (h1 a' w' hq)
      exact ⟨e2, a2, w2, hq2, .of_steps (.head step_scope (Steps.trans hst (opened_steps r _))) harr2⟩
    · obtain ⟨hQ, hne⟩ := h1' e a' w' he1 he2 hq
      exact ⟨e, a', w', hQ, .of_steps (.one step_scope) (out _ e a' w' hne harr)⟩
  · rw [hf] at hr
    cases hr
    obtain ⟨e2, a2, w2, hq2, harr2⟩ := key _ a' w' rfl (h1 a' w' hq)
    exact ⟨e2, a2, w2, hq2, .of_steps (.head step_scope hst) harr2⟩
def Shows (P : Program) (c : Code) (Q : Exit → Act → World → Prop) (a : Act) (w : World) : Option Nat → Prop
  | none => wpo P c Q a w
  | some l => wpTo P l c Q a w
theorem region {id:Nat} {ops : Array Oper} {ty : List (Nat × Sh)} {Q : Exit → Env → Heap → Prop} {σ : Env} (hr : Rel n σ a) (h : denOpsE P [] n ops ty noE ops.toList [] σ w.heap (onNil (Q .normal))) : wpo P (.region id ops false) (up n a w (opWrites ops) Q) a w := by
  refine wpo_of_wp rfl (wp_mono (wp_region ?_) (fun e a' w' hq => up_of_upR (upR_of_upE hq)))
  have := denOpsE_ok ops.toList 0 σ a w (by simp) hr.D (Same.refl w) (Unch.refl _ _) h
  rw [List.range_eq_range']
  simpa using this
theorem den_ok : ∀ (ann : Ann) (m : Option Nat) (c : Code) (Q : Exit → Env → Heap → Prop) (σ : Env) (a : Act) (w : World), Rel n σ a → den P n ann m c Q σ w.heap → Shows P c (up n a w (writes c) Q) a w m
  | .leaf, none, c, Q, σ, a, w, hr, h => by
    unfold den at h
    split at h
    · exact fun b k cs => ⟨.normal, a, w, ⟨σ, hr, h, Same.refl w, Unch.refl _ _⟩, .refl _ _⟩
    · exact wpo_of_wp rfl (wp_label ⟨σ, hr, h, Same.refl w, Unch.refl _ _⟩)
    · exact wpo_of_wp rfl (wp_exit ⟨σ, hr, h, Same.refl w, Unch.refl _ _⟩)
    · exact wpo_of_wp rfl (wp_goto ⟨σ, hr, h, Same.refl w, Unch.refl _ _⟩)
    · exact wpo_of_wp rfl (wp_ret ⟨σ, hr, h, Same.refl w, Unch.refl _ _⟩)
    · rename_i id ops
      exact region hr h
    · exact h.elim
  | .leaf, some l, c, Q, σ, a, w, hr, h => by
    unfold den at h
    split at h
    · rename_i l'
      split at h
      · rename_i hl
        obtain rfl : l' = l := Nat.eq_of_beq_eq_true hl
        exact fun b k cs => .inr ⟨a, w, .skip, ⟨σ, hr, h, Same.refl w, Unch.refl _ _⟩, by simp [findLabel], .one step_label⟩
      · exact h.elim
    · exact h.elim
  | .planB kb p, none, c, Q, σ, a, w, hr, h => by
    unfold den at h
    split at h
    · split at h
      · rename_i hb
        obtain ⟨h1, h2⟩ := denPlanE_ok hb hr.D h
        exact wpo_of_wp rfl (wp_mono (wp_region_any h1 h2) (fun e a' w' hq => up_of_upR (upR_of_upP hq)))
      · exact h.elim
    · exact h.elim
  | .seq x y, none, c, Q, σ, a, w, hr, h => by
    unfold den at h
    split at h
    · rename_i c d
      refine wpo_seq (wpo_mono (den_ok x none c _ σ a w hr h) ?_)
      rintro e a' w' ⟨σ', hr', hq, hs, hu⟩
      have hW : ∀ t, t ∈ writes c → t ∈ writes (.seq c d) := fun t ht => List.mem_append_left _ ht
      cases e with
      | normal =>
        refine wpo_mono (den_ok y none d Q σ' a' w' hr' hq) ?_
        rintro e2 a2 w2 ⟨σ2, hr2, hq2, hs2, hu2⟩
        exact ⟨σ2, hr2, hq2, hs.trans hs2, (hu.mono hW).trans (hu2.mono fun t ht => List.mem_append_right _ ht)⟩
      | _ => exact ⟨σ', hr', hq, hs, hu.mono hW⟩
    · exact h.elim
  | .seq x y, some l, c, Q, σ, a, w, hr, h => by
    unfold den at h
    split at h
    · rename_i c d
      have hW : ∀ t, t ∈ writes c → t ∈ writes (.seq c d) := fun t ht => List.mem_append_left _ ht
      have hW2 : ∀ t, t ∈ writes d → t ∈ writes (.seq c d) := fun t ht => List.mem_append_right _ ht
      split at h
      · rename_i hl
        have ih := den_ok x (some l) c Q σ a w hr h
        intro b k cs
        rcases ih b (.code d :: k) cs with ⟨e, a', w', hq, he2, harr⟩ | ⟨a', w', r, hq, hf, hst⟩
        · obtain ⟨σ', hr', hq, hs, hu⟩ := hq
          exact .inl ⟨e, a', w', ⟨σ', hr', hq, hs, hu.mono hW⟩, he2, .of_steps (.one step_seq) (.pass (x := .code d) rfl (fun _ _ => .inl he2) harr)⟩
        · obtain ⟨σ', hr', hq, hs, hu⟩ := hq
          refine .inr ⟨a', w', .seq r d, ⟨σ', hr', hq, hs, hu.mono hW⟩, by simp [findLabel, hf], .head step_seq ?_⟩
          simpa [opened] using hst
      · rename_i hl
        have ih := den_ok x none c _ σ a w hr h
        have hfc : findLabel c l = none := by
          have := hasLabel_find c l
          rw [hl] at this
          cases hq : findLabel c l with
          | none => rfl
          | some r => rw [hq] at this; cases this
        intro b k cs
        obtain ⟨e, a', w', ⟨σ', hr', hq, hs, hu⟩, harr⟩ := ih.wp b (.code d :: k) cs
        cases e with
        | normal =>
          rcases den_ok y (some l) d Q σ' a' w' hr' hq b k cs with ⟨e2, a2, w2, hq2, he2, harr2⟩ | ⟨a2, w2, r, hq2, hf2, hst2⟩
          · obtain ⟨σ2, hr2, hq2, hs2, hu2⟩ := hq2
            exact .inl ⟨e2, a2, w2, ⟨σ2, hr2, hq2, hs.trans hs2, (hu.mono hW).trans (hu2.mono hW2)⟩, he2, .of_steps (.head step_seq harr) harr2⟩
          · obtain ⟨σ2, hr2, hq2, hs2, hu2⟩ := hq2
            exact .inr ⟨a2, w2, r, ⟨σ2, hr2, hq2, hs.trans hs2, (hu.mono hW).trans (hu2.mono hW2)⟩, by simp [findLabel, hfc, hf2], .head step_seq (Steps.trans harr hst2)⟩
        | goto l' => exact .inl ⟨_, a', w', ⟨σ', hr', hq, hs, hu.mono hW⟩, by simp, .of_steps (.one step_seq) (.pass (x := .code d) rfl (fun _ _ => .inl (by simp)) harr)⟩
        | _ => exact .inl ⟨_, a', w', ⟨σ', hr', hq, hs, hu.mono hW⟩, by simp, .of_steps (.one step_seq) (.pass (x := .code d) rfl (fun _ _ => .inl (by simp)) harr)⟩
    · exact h.elim
  | .cond x y, none, c, Q, σ, a, w, hr, h => by
    unfold den at h
    split at h
    · rename_i k c d
      split at h
      · rename_i q hq
        have he := hr.fits _ _ hq
        split at h
        · rename_i ht
          subst ht
          refine wpo_of_wp rfl (wp_cond_true he (wp_mono (den_ok x none c Q σ a w hr h).wp ?_))
          rintro e a' w' ⟨σ', hr', hq, hs, hu⟩
          exact ⟨σ', hr', hq, hs, hu.mono fun t ht => List.mem_append_left _ ht⟩
        · rename_i ht
          have ht : q = false := by simpa using ht
          subst ht
          refine wpo_of_wp rfl (wp_cond_false he (wp_mono (den_ok y none d Q σ a w hr h).wp ?_))
          rintro e a' w' ⟨σ', hr', hq, hs, hu⟩
          exact ⟨σ', hr', hq, hs, hu.mono fun t ht => List.mem_append_right _ ht⟩
      · exact h.elim
    · exact h.elim
  | .block x, none, c, Q, σ, a, w, hr, h => by
    unfold den at h
    split at h
    · rename_i id c
      refine wpo_of_wp rfl (wp_block (wp_mono (den_ok x none c _ σ a w hr h).wp ?_))
      rintro e a' w' ⟨σ', hr', hq, hs, hu⟩
      cases e with
      | exit id' =>
        simp only [Exit.inBlock]
        simp only [blockK] at hq
        by_cases hid : id' = id
        · subst hid
          simp only [Nat.beq_refl] at hq
          rw [if_pos rfl]; exact ⟨σ', hr', hq, hs, hu⟩
        · rw [if_neg hid]
          have : Nat.beq id' id = false := by cases hb : Nat.beq id' id; rfl; exact absurd (Nat.eq_of_beq_eq_true hb) hid
          rw [this] at hq
          exact ⟨σ', hr', hq, hs, hu⟩
      | _ => exact ⟨σ', hr', hq, hs, hu⟩
    · exact h.elim
  | .loop L x, none, c, Q, σ, a, w, hr, h => by
    unfold den at h
    split at h
    · rename_i c
      obtain ⟨I, μ, h0, hstep⟩ := h
      refine wpo_of_wp rfl (wp_loop (fun a' w' => ∃ σ', Rel n σ' a' ∧ apE False L I σ' (fun f => f w'.heap) ∧ Same w w' ∧ Unch (writes c) a a')
        (fun a' w' => apE 0 L μ (envOf a') (fun f => f w'.heap)) ⟨σ, hr, h0, Same.refl w, Unch.refl _ _⟩ ?_)
      rintro a' w' ⟨σ', hr', hI, hs, hu⟩
      obtain ⟨σ'', hF, hsub, hL, _⟩ := allE_at L _ I hstep hI
      have hr'' := Rel.of_sub hr hr' hu hsub
      have hI'' : apE False L I σ'' (fun f => f w'.heap) := by rw [apE_congr L I hL]; exact hI
      have hd := hF w'.heap hI''
      refine wp_mono (den_ok x none c _ σ'' a' w' hr'' hd).wp ?_
      rintro e a1 w1 ⟨σ1, hr1, hq, hs1, hu1⟩
      cases e with
      | normal =>
        obtain ⟨hI1, hlt⟩ := hq
        refine ⟨⟨σ1, hr1, hI1, hs.trans hs1, hu.trans hu1⟩, ?_⟩
        rw [apE_envOf hr1 (apE_def L I hI1), apE_envOf hr'' (apE_def L I hI'')]
        exact hlt
      | _ => exact ⟨σ1, hr1, hq, hs.trans hs1, hu.trans hu1⟩
    · exact h.elim
  | .join L x, none, c, Q, σ, a, w, hr, h => by
    unfold den at h
    unfold JoinP at h
    refine wpo_mono (den_ok x none c _ σ a w hr h) ?_
    rintro e a' w' ⟨σ', hr', hq, hs, hu⟩
    cases e with
    | normal =>
      obtain ⟨σ'', hQ, hsub⟩ := apE_lamE L _ hq
      exact ⟨σ'', Rel.of_sub hr hr' hu hsub, hQ, hs, hu⟩
    | _ => exact ⟨σ', hr', hq, hs, hu⟩
  | .scope l L x y, none, c, Q, σ, a, w, hr, h => by
    unfold den at h
    split at h
    · rename_i c
      split at h
      · rename_i r hf
        obtain ⟨I, μ, h0, hstep⟩ := h
        have hWr := findLabel_writes c l r hf
        have isGoto : ∀ (K : Env → Heap → Prop) (e : Exit) (σ' : Env) (h' : Heap), e ≠ .goto l → gotoK l K Q e σ' h' → Q e σ' h' ∧ ∀ z, e ≠ .goto z := by
          intro K e σ' h' hne hq
          cases e with
          | goto z =>
            simp only [gotoK] at hq
            have : Nat.beq z l = false := by cases hb : Nat.beq z l; rfl; exact absurd (by rw [Nat.eq_of_beq_eq_true hb]) hne
            rw [this] at hq
            exact hq.elim
          | _ => exact ⟨hq, fun z hz => by cases hz⟩
        refine wpo_of_wp rfl (wp_scope_label hf (fun a' w' => ∃ σ', Rel n σ' a' ∧ apE False L I σ' (fun f => f w'.heap) ∧ Same w w' ∧ Unch (writes c) a a')
          (fun a' w' => apE 0 L μ (envOf a') (fun f => f w'.heap)) _
          (fun a0 w0 e a' w' => ∃ σ', Rel n σ' a' ∧ gotoK l (fun σ'' h'' => apE False L I σ'' (fun f => f h'') ∧ apE 0 L μ σ'' (fun f => f h'') < apE 0 L μ (envOf a0) (fun f => f w0.heap)) Q e σ' w'.heap ∧ Same w w' ∧ Unch (writes c) a a')
          (den_ok x (some l) c _ σ a w hr h0) ?_ ?_ ?_ ?_ ?_)
        · rintro a' w' ⟨σ', hr', hq, hs, hu⟩
          simp only [gotoK, Nat.beq_refl] at hq
          exact ⟨σ', hr', hq, hs, hu⟩
        · rintro e a' w' he1 _ ⟨σ', hr', hq, hs, hu⟩
          obtain ⟨hq1, hq2⟩ := isGoto _ e σ' _ he1 hq
          exact ⟨⟨σ', hr', hq1, hs, hu⟩, hq2⟩
        · rintro a' w' ⟨σ', hr', hI, hs, hu⟩
          obtain ⟨σ'', hF, hsub, hL, _⟩ := allE_at L _ I hstep hI
          have hr'' := Rel.of_sub hr hr' hu hsub
          have hI'' : apE False L I σ'' (fun f => f w'.heap) := by rw [apE_congr L I hL]; exact hI
          have hd := hF w'.heap hI''
          refine wpo_mono (den_ok y none r _ σ'' a' w' hr'' hd) ?_
          rintro e a1 w1 ⟨σ1, hr1, hq, hs1, hu1⟩
          refine ⟨σ1, hr1, ?_, hs.trans hs1, hu.trans (hu1.mono hWr)⟩
          cases e with
          | goto z =>
            simp only [gotoK] at hq ⊢
            cases hz : Nat.beq z l with
            | false => rw [hz] at hq; exact hq.elim
            | true =>
              rw [hz] at hq
              obtain ⟨q1, q2⟩ := hq
              exact ⟨q1, by rw [apE_envOf hr'' (apE_def L I hI'')]; exact q2⟩
          | _ => exact hq
        · rintro a0 w0 a' w' _ ⟨σ', hr', hq, hs, hu⟩
          simp only [gotoK, Nat.beq_refl] at hq
          obtain ⟨q1, q2⟩ := hq
          refine ⟨⟨σ', hr', q1, hs, hu⟩, ?_⟩
          rw [apE_envOf hr' (apE_def L I q1)]
          exact q2
        · rintro a0 w0 e a' w' _ he ⟨σ', hr', hq, hs, hu⟩
          obtain ⟨hq1, hq2⟩ := isGoto _ e σ' _ he hq
          exact ⟨⟨σ', hr', hq1, hs, hu⟩, hq2⟩
      · exact h.elim
    · exact h.elim
  | .planB _ _, some _, _, _, _, _, _, _, h => h.elim
  | .cond _ _, some _, _, _, _, _, _, _, h => h.elim
  | .block _, some _, _, _, _, _, _, _, h => h.elim
  | .loop _ _, some _, _, _, _, _, _, _, h => h.elim
  | .join _ _, some _, _, _, _, _, _, _, h => h.elim
  | .scope _ _ _ _, some _, _, _, _, _, _, _, h => h.elim
  | .typed _, some _, _, _, _, _, _, _, h => h.elim
  | .typed ty, none, c, Q, σ, a, w, hr, h => by
    unfold den at h
    split at h
    · exact region hr h
    · exact h.elim
def resL (P : Program) : List ResultVar → Env → Heap → (List Value → Prop) → Prop
  | [], _, _, F => F []
  | .tmp t :: rs, σ, h, F => onSome (σ t) fun v => resL P rs σ h fun vs => F (v :: vs)
  | .cell a t :: rs, σ, h, F => (match σ a with
    | some (.pointer p) => onSome p fun ad => denLoad P t h ad fun v _ => resL P rs σ h fun vs => F (v :: vs)
    | _ => False)
def oneOr (vs : List Value) : Value :=
  match vs with
  | [v] => v
  | vs => .tuple vs.toArray
def retK (P : Program) (rs : Array ResultVar) (R : Value → Heap → Prop) : Exit → Env → Heap → Prop
  | .normal, σ, h => resL P rs.toList σ h fun vs => R (oneOr vs) h
  | .ret, σ, h => resL P rs.toList σ h fun vs => R (oneOr vs) h
  | _, _, _ => False
def argEnv (args : List Value) : Env := fun t => args[t]?
def resF (a : Act) : ResultVar → Sem Value
  | .tmp t => pure (a.tmps.getD t undef)
  | .cell ad t => do loadVar t (← asAddr (a.tmps.getD ad undef))
theorem resL_ok {σ : Env} (hr : Rel n σ a) : ∀ (rs : List ResultVar) (F : List Value → Prop), resL P rs σ h F → ∃ vs, F vs ∧
    rd P (rs.mapM (resF a)) h = some vs
  | [], F, hh => ⟨[], hh, rfl⟩
  | .tmp t :: rs, F, hh => by
    have ⟨v, hv, hh⟩ := onSome_iff.1 hh
    have ⟨vs, h1, h2⟩ := resL_ok hr rs _ hh
    refine ⟨v :: vs, h1, ?_⟩
    rw [List.mapM_cons]
    have h6 : rd P (resF a (.tmp t)) h = some v := by
      show some (a.tmps.getD t undef) = some v
      rw [hr.at_ t v hv]
    rw [rd_bind _ _ _ _ h6, rd_bind _ _ _ _ h2]
    rfl
  | .cell ad t :: rs, F, hh => by
    simp only [resL] at hh
    split at hh
    · rename_i p hp
      obtain ⟨b, rfl, hh1⟩ := onSome_iff.1 hh
      have ⟨v, S, h1, h2, h3⟩ := denLoad_ok hh1
      have ⟨vs, h4, h5⟩ := resL_ok hr rs _ h1
      refine ⟨v :: vs, h4, ?_⟩
      rw [List.mapM_cons]
      have h6 : rd P (resF a (.cell ad t)) h = some v := by
        show rd P (do loadVar t (← asAddr (a.tmps.getD ad undef))) h = _
        rw [hr.at_ ad _ hp]; exact h3 h h2
      rw [rd_bind _ _ _ _ h6, rd_bind _ _ _ _ h5]
      rfl
    · grind
theorem results_ok {σ : Env} {F : Value → Prop} (hr : Rel n σ a) (hh : resL P fn.results.toList σ h fun vs => F (oneOr vs)) :
    ∃ v, F v ∧ rd P (results fn a.tmps) h = some v := by
  have ⟨vs, h1, h2⟩ := resL_ok hr _ _ hh
  refine ⟨_, h1, ?_⟩
  have h3 : rd P (fn.results.mapM (resF a)) h = some vs.toArray := by
    rw [Array.mapM_eq_mapM_toList]
    show rd P (fn.results.toList.mapM (resF a) >>= fun l => pure (List.toArray l)) h = _
    rw [rd_bind _ _ _ _ h2]
    rfl
  have h4 : results fn a.tmps = fn.results.mapM (resF a) >>= fun vs => pure (if h : vs.size = 1 then vs[0] else .tuple vs) := by
    rfl
  rw [h4, rd_bind _ _ _ _ h3]
  match vs with
  | [] => rfl
  | [v] => rfl
  | u :: v :: vs => rfl
theorem callsH_of_den (ann : Ann)
    (hf : P.funcs[f]? = some fn) (hb : fn.body = some c) (hn : Nat.ble args.length fn.ntmps = true)
    (hd : den P fn.ntmps ann none c (retK P fn.results R) (argEnv args) h) : CallsH P f args.toArray h R := by
  intro w hw
  subst hw
  have hn := Nat.le_of_ble_eq_true hn
  refine calls_of_wp hf hb ?_
  have hr : Rel fn.ntmps (argEnv args) { tmps := args.toArray ++ Array.replicate (fn.ntmps - args.toArray.size) undef, defers := [] } := by
    refine ⟨rfl, by grind, fun t v hv => ?_⟩
    unfold argEnv at hv
    have hlt  := (List.getElem?_eq_some_iff.1 hv).1
    simp only [Array.getD_eq_getD_getElem?]
    rw [Array.getElem?_append_left (by omega)]
    simp [hv]
  refine wp_mono (den_ok ann none c _ _ _ w hr hd).wp ?_
  rintro e a w' ⟨σ, hr, hq, hs, _⟩
  have fin : resL P fn.results.toList σ w'.heap (fun vs => R (oneOr vs) w'.heap) → a.defers = [] ∧ ∃ v, (results fn a.tmps).run P w' = .ok v w' ∧ ∃ v', Ending.returned v = .returned v' ∧ R v' w'.heap ∧ Same w w' := fun hh => by
    have ⟨v, h1, h2⟩ := results_ok (F := fun v => R v w'.heap) hr hh
    exact ⟨hr.defers, v, rd_run _ _ _ h2, v, rfl, h1, hs⟩
  cases e with
  | normal => exact fin hq
  | ret => exact fin hq
  | outgrown => exact hq.elim
  | _ => exact hq.elim
def bodyOf (fn : Func) : Code := fn.body.getD .skip
theorem callsH_of_body (ann : Ann)
    (hf : P.funcs[f]? = some fn) (hb : fn.body.isSome = true) (hn : Nat.ble args.length fn.ntmps = true)
    (hd : den P fn.ntmps ann none (bodyOf fn) (retK P fn.results R) (argEnv args) h) : CallsH P f args.toArray h R := by
  have ⟨c, hc⟩ := Option.isSome_iff_exists.1 hb
  refine callsH_of_den ann hf hc hn ?_
  rw [bodyOf, hc] at hd
  exact hd

end
end Go.Den
namespace Go.Den
theorem hcell_blk {h : Heap} {b i : Nat} {c : Array Value} {t : TypeId} {f : Nat × Nat} (hb : h[b]? = some (.cells c t f)) : hcell h ⟨b, i, none⟩ = c[i]? := by
  simp [hcell, hb]
theorem hfrozen_blk {h : Heap} {b i : Nat} {c : Array Value} {t : TypeId} (hb : h[b]? = some (.cells c t (0, 0))) : hfrozen h ⟨b, i, none⟩ = false := by
  simp [hfrozen, hb]
theorem hcell_some {h : Heap} {a : Addr} {v : Value} (hc : hcell h a = some v) : ∃ c t f, h[a.block]? = some (.cells c t f) ∧ a.spot = none ∧ c[a.off]? = some v := by
  unfold hcell at hc
  split at hc
  · simp_all
  · cases hc
theorem lt_of_get {h : Heap} {b : Nat} {o : Obj} (hb : h[b]? = some o) : b < h.size := (Array.getElem?_eq_some_iff.1 hb).1
theorem push_new {h : Heap} {x : Obj} : (h.push x)[h.size]? = some x := by simp
theorem hset_same {h : Heap} {b i : Nat} {c : Array Value} {t : TypeId} {f : Nat × Nat} {v : Value} (hb : h[b]? = some (.cells c t f)) : (hset h ⟨b, i, none⟩ v)[b]? = some (.cells (c.setIfInBounds i v) t f) := by
  simp [hset, Array.getElem?_modify, hb]
theorem hset_other {h : Heap} {a : Addr} {b : Nat} {v : Value} (hne : b ≠ a.block) : (hset h a v)[b]? = h[b]? := by
  simp [hset, Array.getElem?_modify, Ne.symm hne]
theorem hset_size {h : Heap} {a : Addr} {v : Value} : (hset h a v).size = h.size := by simp [hset]
theorem add_blk (b o n : Nat) : (⟨b, o, none⟩ : Addr).add n = ⟨b, o + n, none⟩ := by
  unfold Addr.add
  split
  · grind
  · rfl
theorem add_add (a : Addr) (m n : Nat) : (a.add m).add n = a.add (m + n) := by
  unfold Addr.add
  split
  · grind
  · grind
def Fr (S : Nat → Prop) (h h' : Heap) : Prop := h.size ≤ h'.size ∧ ∀ c, c < h.size → ¬ S c → h'[c]? = h[c]?
theorem Fr.refl (S : Nat → Prop) (h : Heap) : Fr S h h := ⟨Nat.le_refl _, fun _ _ _ => rfl⟩
theorem Fr.get {S : Nat → Prop} {h h' : Heap} (hf : Fr S h h') {c : Nat} {o : Obj} (hc : h[c]? = some o) (hn : ¬ S c) : h'[c]? = some o :=
  (hf.2 c (lt_of_get hc) hn).trans hc
theorem Fr.trans {S S' S'' : Nat → Prop} {h h1 h2 : Heap} (hf : Fr S h h1) (hf' : Fr S' h1 h2) (hs : ∀ c, c < h.size → S c → S'' c) (hs' : ∀ c, c < h.size → S' c → S'' c) : Fr S'' h h2 :=
  ⟨Nat.le_trans hf.1 hf'.1, fun c hc hn => (hf'.2 c (Nat.lt_of_lt_of_le hc hf.1) (fun hq => hn (hs' c hc hq))).trans (hf.2 c hc (fun hq => hn (hs c hc hq)))⟩
theorem Fr.mono {S S' : Nat → Prop} {h h' : Heap} (hf : Fr S h h') (hs : ∀ c, c < h.size → S c → S' c) : Fr S' h h' :=
  ⟨hf.1, fun c hc hn => hf.2 c hc (fun hq => hn (hs c hc hq))⟩
theorem Fr.push {S : Nat → Prop} (h : Heap) (o : Obj) : Fr S h (h.push o) :=
  ⟨by simp, fun c hc _ => by grind⟩
theorem Fr.cell {S : Nat → Prop} {h h' : Heap} (hf : Fr S h h') {a : Addr} {v : Value} (hc : hcell h a = some v) (hn : ¬ S a.block) : hcell h' a = some v := by
  have ⟨c, t, f, hb, hs, hv⟩ := hcell_some hc
  have := hf.get hb hn
  unfold hcell
  rw [this]
  simp [hs, hv]
def mget (l : List (Int × Value)) (k : Int) : Option Value := (l.find? (·.1 == k)).map (·.2)
def MapL (h : Heap) (m : Nat) (l : List (Int × Value)) : Prop :=
  ∃ (es : Array MapEntry) (clock : Nat), h[m]? = some (.map es clock) ∧ es.toList.map (fun e => (e.key, e.val)) = l.map (fun e => (Value.int .i64 e.1, e.2)) ∧ (l.map (·.1)).Nodup ∧
    (∀ e ∈ es.toList, e.born < clock) ∧ (es.toList.map (·.born)).Nodup
def MapF (h : Heap) (m : Nat) (f : Int → Option Value) : Prop := ∃ l, MapL h m l ∧ ∀ k, mget l k = f k
theorem MapL.of_get {h h' : Heap} {m : Nat} {l : List (Int × Value)} (hm : MapL h m l) (he : h'[m]? = h[m]?) : MapL h' m l := by
  have ⟨es, clock, h1, h2⟩ := hm
  exact ⟨es, clock, he.trans h1, h2⟩
theorem MapL.lt {h : Heap} {m : Nat} {l : List (Int × Value)} (hm : MapL h m l) : m < h.size := by
  have ⟨es, clock, h1, _⟩ := hm; exact lt_of_get h1
theorem MapL.frame {S : Nat → Prop} {h h' : Heap} {m : Nat} {l : List (Int × Value)} (hm : MapL h m l) (hf : Fr S h h') (hn : ¬ S m) : MapL h' m l :=
  hm.of_get (hf.2 m hm.lt hn)
theorem MapF.lt {h : Heap} {m : Nat} {f : Int → Option Value} (hm : MapF h m f) : m < h.size := by
  have ⟨l, h1, _⟩ := hm; exact h1.lt
theorem MapF.frame {S : Nat → Prop} {h h' : Heap} {m : Nat} {f : Int → Option Value} (hm : MapF h m f) (hf : Fr S h h') (hn : ¬ S m) : MapF h' m f := by
  have ⟨l, h1, h2⟩ := hm; exact ⟨l, h1.frame hf hn, h2⟩
theorem MapL.push (h : Heap) : MapL (h.push (.map #[] 0)) h.size [] := ⟨#[], 0, push_new, rfl, by simp, by simp, by simp⟩
theorem MapF.push (h : Heap) : MapF (h.push (.map #[] 0)) h.size (fun _ => none) := ⟨[], MapL.push h, fun _ => rfl⟩
section
variable {P : Program}
theorem rd_zeroValue {t : TypeId} {i : TypeInfo} {z : Value} {h : Heap} (hi : P.info? t = some i) (hz : i.zero = some z) : rd P (zeroValue t) h = some z := by
  unfold zeroValue
  rw [rd_bind _ _ _ _ (rd_typeInfo hi), hz]; rfl
theorem rd_getObj {r : Nat} {es : Array MapEntry} {c : Nat} {h : Heap} (hr : h[r]? = some (.map es c)) : rd P (getObj r) h = some (.map es c) := by
  unfold getObj
  simp only [rd, hr]
theorem den_of_rd {α β : Type} {s : Sem α} {g : α → Sem β} {h : Heap} {a : α} {K : β → Heap → Prop} (hr : rd P s h = some a) (hk : denSem P (g a) h K) : denSem P (s >>= g) h K :=
  (den_bind s g K).2 (rd_den s h a hr _ hk)
end
end Go.Den
namespace Go.Den
theorem cell_at {h : Heap} {b i : Nat} {c : Array Value} {t : TypeId} {f : Nat × Nat} {v : Value} (hb : h[b]? = some (.cells c t f)) (hi : c[i]? = some v) : hcell h ⟨b, i, none⟩ = some v := by
  rw [hcell_blk hb, hi]
theorem storeP_blk {h : Heap} {b i : Nat} {c : Array Value} {t : TypeId} {v : Value} {K : Heap → Prop} (hb : h[b]? = some (.cells c t (0, 0))) (hi : i < c.size)
    (hk : ∀ h', h'[b]? = some (.cells (c.setIfInBounds i v) t (0, 0)) → h'.size = h.size → (∀ x, x ≠ b → h'[x]? = h[x]?) → K h') : StoreP h ⟨b, i, none⟩ v K := by
  refine ⟨?_, hfrozen_blk hb, ?_⟩
  · rw [hcell_blk hb]; simp [hi]
  · rintro _ rfl
    exact hk _ (hset_same hb) hset_size (fun x hx => hset_other hx)
theorem Fr.of_eq {S : Nat → Prop} {h h' : Heap} (hs : h'.size = h.size) (ho : ∀ c, ¬ S c → h'[c]? = h[c]?) : Fr S h h' := ⟨by omega, fun c _ hn => ho c hn⟩
theorem wrap_id {n : Int} (h1 : -9223372036854775808 ≤ n) (h2 : n ≤ 9223372036854775807) : IntKind.wrap .i64 n = n := IntWalk.i64_in n ⟨h1, h2⟩
theorem wrap_u64 {n : Int} (h1 : 0 ≤ n) (h2 : n ≤ 18446744073709551615) : IntKind.wrap .u64 n = n := IntWalk.u64_in n ⟨h1, h2⟩
theorem Fr.kp {h h' : Heap} {l : List (Option Addr)} (f : Fr (fun _ => False) h h') : Kp h h' l := fun _ _ x _ hx => f.2 x.block hx id
theorem Fr.kps {S : Nat → Prop} {h h' : Heap} {l : List (Option Addr)} (f : Fr S h h') (hn : ∀ p ∈ l, ∀ x, p = some x → ¬ S x.block) : Kp h h' l := fun p hp x e hx => f.2 x.block hx (hn p hp x e)
theorem Fr.no {h1 h2 h3 : Heap} {S : Nat → Prop} (h12 : Fr (fun _ => False) h1 h2) (h23 : Fr S h2 h3) : Fr S h1 h3 := h12.trans h23 (fun _ _ => False.elim) (fun _ _ => id)
theorem Fr.on {h1 h2 h3 : Heap} {S : Nat → Prop} (h12 : Fr S h1 h2) (h23 : Fr (fun _ => False) h2 h3) : Fr S h1 h3 := h12.trans h23 (fun _ _ => id) (fun _ _ => False.elim)
theorem Fr.tt {h1 h2 h3 : Heap} {S : Nat → Prop} (h12 : Fr S h1 h2) (h23 : Fr S h2 h3) : Fr S h1 h3 := h12.trans h23 (fun _ _ => id) (fun _ _ => id)
theorem Fr.step {S : Nat → Prop} {h h1 h2 : Heap} (hf : Fr (fun _ => False) h h1) (hs : Fr S h1 h2) (hn : ∀ c, c < h.size → ¬ S c) : Fr (fun _ => False) h h2 :=
  hf.trans hs (fun _ _ hx => hx) (fun c hc hx => hn c hc hx)
end Go.Den
namespace Go.Den
section
variable {h:Heap} {n:Int}
abbrev Hu' (h : Heap) (a : Addr) (K : Int → Prop) : Prop := ∃ t, hcell h a = some (.int .u64 t) ∧ K t
abbrev Hi' (h : Heap) (a : Addr) (K : Int → Prop) : Prop := ∃ t, hcell h a = some (.int .i64 t) ∧ K t
abbrev Hy' (h : Heap) (a : Addr) (K : Int → Prop) : Prop := ∃ t, hcell h a = some (.int .u8 t) ∧ K t
abbrev Hb' (h : Heap) (a : Addr) (K : Bool → Prop) : Prop := ∃ t, hcell h a = some (.bool t) ∧ K t
abbrev Hp' (h : Heap) (a : Addr) (K : Option Addr → Prop) : Prop := ∃ t, hcell h a = some (.pointer t) ∧ K t
abbrev Hs' (h : Heap) (a : Addr) (K : ByteArray → Prop) : Prop := ∃ t, hcell h a = some (.string t) ∧ K t
abbrev Hl' (h : Heap) (a : Addr) (K : Option Addr → Nat → Nat → Prop) : Prop := ∃ p l c, hcell h a = some (.slice p l c) ∧ K p l c
abbrev Hu (h : Heap) (b i : Nat) (K : Int → Prop) : Prop := ∃ t, hcell h ⟨b, i, none⟩ = some (.int .u64 t) ∧ K t
abbrev Hi (h : Heap) (b i : Nat) (K : Int → Prop) : Prop := ∃ t, hcell h ⟨b, i, none⟩ = some (.int .i64 t) ∧ K t
abbrev Hy (h : Heap) (b i : Nat) (K : Int → Prop) : Prop := ∃ t, hcell h ⟨b, i, none⟩ = some (.int .u8 t) ∧ K t
abbrev Hb (h : Heap) (b i : Nat) (K : Bool → Prop) : Prop := ∃ t, hcell h ⟨b, i, none⟩ = some (.bool t) ∧ K t
abbrev Hp (h : Heap) (b i : Nat) (K : Option Addr → Prop) : Prop := ∃ t, hcell h ⟨b, i, none⟩ = some (.pointer t) ∧ K t
abbrev Hs (h : Heap) (b i : Nat) (K : ByteArray → Prop) : Prop := ∃ t, hcell h ⟨b, i, none⟩ = some (.string t) ∧ K t
abbrev Hl (h : Heap) (b i : Nat) (K : Option Addr → Nat → Nat → Prop) : Prop := ∃ p l c, hcell h ⟨b, i, none⟩ = some (.slice p l c) ∧ K p l c
abbrev Vb (v : Value) (K : Bool → Prop) : Prop := ∃ t, v = .bool t ∧ K t
abbrev Vi (v : Value) (K : Int → Prop) : Prop := ∃ t, v = .int .i64 t ∧ K t
abbrev Vu (v : Value) (K : Int → Prop) : Prop := ∃ t, v = .int .u64 t ∧ K t
abbrev Vp (v : Value) (K : Option Addr → Prop) : Prop := ∃ t, v = .pointer t ∧ K t
abbrev Vl (v : Value) (K : Option Addr → Nat → Nat → Prop) : Prop := ∃ p l c, v = .slice p l c ∧ K p l c
abbrev Bd (i : Int) (n : Nat) : Prop := (0 : Int) ≤ i ∧ i < ((n : Nat) : Int)
abbrev Cc (h : Heap) (b i : Nat) (v : Value) : Prop := hcell h ⟨b, i, none⟩ = some v
abbrev No : Nat → Prop := fun _ => False
abbrev lf : Ann := .leaf
abbrev ll : Ann := .seq .leaf .leaf
abbrev lq (a : Ann) : Ann := .seq .leaf a
abbrev sq (a b : Ann) : Ann := .seq a b
abbrev cq (a b : Ann) : Ann := .cond a b
abbrev bq (a : Ann) : Ann := .block a
abbrev pK (n : Nat) : Ann := .planK (runP n 0 .done)
abbrev pN (n : Nat) : Ann := .plan (runP n 0 .done)
abbrev sI : Sh := .one (.int .i64)
abbrev sU : Sh := .one (.int .u64)
abbrev sB : Sh := .one .bool
abbrev sP : Sh := .one .ptr
abbrev sS : Sh := .one .slice
def opL : List Nat → Plan → Plan
  | [], p => p
  | i :: l, p => .op i (opL l p)
def skE (l : List (Nat × (Ann → Ann))) (i : Nat) (a : Ann) : Ann := match l with
  | [] => a
  | (j, f) :: l => match Nat.beq i j with
    | true => f (skE l i a)
    | false => skE l i a
def sk (l : List (Nat × (Ann → Ann))) : Code → Nat → (Ann → Nat → Ann × Nat) → Ann × Nat
  | .seq a b, i, K => sk l a (i + 1) fun x j => sk l b j fun y k => K (skE l i (.seq x y)) k
  | .cond _ a b, i, K => sk l a (i + 1) fun x j => sk l b j fun y k => K (skE l i (.cond x y)) k
  | .block _ a, i, K => sk l a (i + 1) fun x j => K (skE l i (.block x)) j
  | .loop a, i, K => sk l a (i + 1) fun x j => K (skE l i x) j
  | _, i, K => K (skE l i .leaf) (i + 1)
theorem callsN {P : Program} {f : FuncId} {args : List Value} {R : Value → Heap → Prop} {A : Prop} (l : List (Nat × (Ann → Ann))) (hv : A)
    (hs : P.funcs[f]?.isSome = true := by kernel_rfl) (hb : (P.funcs[f]?.get hs).body.isSome = true := by kernel_rfl) (hn : Nat.ble args.length (P.funcs[f]?.get hs).ntmps = true := by kernel_rfl)
    (e : A = den P (P.funcs[f]?.get hs).ntmps (sk l (bodyOf (P.funcs[f]?.get hs)) 0 Prod.mk).1 none (bodyOf (P.funcs[f]?.get hs)) (retK P (P.funcs[f]?.get hs).results R) (argEnv args) h := by kernel_rfl) : CallsH P f args.toArray h R := callsH_of_body _ (Option.some_get hs).symm hb hn (Eq.mp e hv)
theorem zzcb {b i : Nat} {c : Array Value} {t : TypeId} {f : Nat × Nat} (hb : h[b]? = some (.cells c t f)) : hcell h ⟨b, i, none⟩ = c[i]? := hcell_blk hb
theorem zzwi (h1 : -9223372036854775808 ≤ n := by omega) (h2 : n ≤ 9223372036854775807 := by omega) : IntKind.wrap .i64 n = n := wrap_id h1 h2
theorem zzwu (h1 : 0 ≤ n := by omega) (h2 : n ≤ 18446744073709551615 := by omega) : IntKind.wrap .u64 n = n := wrap_u64 h1 h2
abbrev KkR (h : Heap) (R : Value → Heap → Prop) (v : Value) : Prop := ∀ h', Fr (fun _ => False) h h' → R v h'
abbrev bo6 (x : Int) : BitVec (IntKind.bits .u64) := BitVec.ofInt (IntKind.bits .u64) x
abbrev bo8 (x : Int) : BitVec (IntKind.bits .u8) := BitVec.ofInt (IntKind.bits .u8) x

end
def Row (h : Heap) (p : Option Addr) (cs : List Value) : Prop := cs = [] ∨ ∃ a, p = some a ∧ heldL a cs 0 h
theorem Row.nil {h : Heap} {p : Option Addr} : Row h p [] := .inl rfl
theorem heldL_at {h : Heap} {a : Addr} : ∀ {cs : List Value} {i : Nat}, heldL a cs i h ↔ ∀ j v, cs[j]? = some v → hcell h (a.add (i + j)) = some v
  | [], i => by simp [heldL]
  | c :: cs, i => by
    simp only [heldL]
    rw [heldL_at]
    constructor
    · grind
    · intro hh
      refine ⟨hh 0 c rfl, fun j v hj => ?_⟩
      have := hh (j + 1) v (by grind)
      rwa [show i + (j + 1) = i + 1 + j by omega] at this
theorem heldL_blk {h : Heap} {b off : Nat} {c : Array Value} {t : TypeId} {f : Nat × Nat} {cs : List Value} (hb : h[b]? = some (.cells c t f)) (hc : ∀ j v, cs[j]? = some v → c[off + j]? = some v) : heldL ⟨b, off, none⟩ cs 0 h := by
  rw [heldL_at]
  intro j v hj
  rw [Nat.zero_add, add_blk, hcell_blk hb]
  exact hc j v hj
theorem heldL_frame {S : Nat → Prop} {h h' : Heap} (hf : Fr S h h') {a : Addr} (hn : ¬ S a.block) : ∀ {cs : List Value} {i : Nat}, heldL a cs i h → heldL a cs i h'
  | [], _, _ => trivial
  | _ :: _, i, hh => ⟨hf.cell hh.1 (by unfold Addr.add; split <;> exact hn), heldL_frame hf hn hh.2⟩
theorem Row.frame {S : Nat → Prop} {h h' : Heap} (hf : Fr S h h') {p : Option Addr} {cs : List Value} (hr : Row h p cs) (hn : ∀ a, p = some a → ¬ S a.block) : Row h' p cs := by
  rcases hr with rfl | ⟨a, rfl, hh⟩
  · exact .inl rfl
  · exact .inr ⟨a, rfl, heldL_frame hf (hn a rfl) hh⟩
theorem Row.cell {h : Heap} {a : Addr} {cs : List Value} (hr : Row h (some a) cs) {j : Nat} {v : Value} (hj : cs[j]? = some v) : hcell h (a.add j) = some v := by
  rcases hr with rfl | ⟨a', e, hh⟩
  · simp at hj
  · cases e
    have := heldL_at.1 hh j v hj
    rwa [Nat.zero_add] at this
theorem Row.some {h : Heap} {p : Option Addr} {cs : List Value} (hr : Row h p cs) (hn : cs ≠ []) : ∃ a, p = some a := by
  rcases hr with rfl | ⟨a, e, _⟩
  · grind
  · grind
theorem getAt {α : Type} {l : List α} {i : Nat} (h : i < l.length) : ∃ x, l[i]? = some x := ⟨_, List.getElem?_eq_getElem h⟩
section
variable {P : Program}
theorem rd_firstCells {h : Heap} {q : Option Addr} {n cq sz : Nat} {ds : List Value} (hq : Row h q ds) (hl : ds.length = n * sz) : rd P (Builtin.firstCells sz n (.slice q n cq)) h = some ds.toArray := by
  cases q with
  | none =>
    have : ds = [] := by
      rcases hq with rfl | ⟨a, e, _⟩
      · rfl
      · cases e
    subst this; rfl
  | some a =>
    show rd P (loadCells a (n * sz)) h = _
    have hh : heldL a ds 0 h := by
      rcases hq with rfl | ⟨a', e, hh⟩
      · trivial
      · grind
    unfold loadCells
    rw [← hl, rd_loadCellsFrom ds 0 #[] h hh]
    simp
theorem growBy_le {need : Nat} : ∀ (r c : Nat), c < 2 * need → 256 ≤ c → Builtin.growBy need r c ≤ 2 * need
  | 0, c, h, _ => by unfold Builtin.growBy; omega
  | r + 1, c, h, h2 => by
    unfold Builtin.growBy
    split
    · omega
    · rename_i hc
      by_cases hlt : c + (c + 768) / 4 < 2 * need
      · exact growBy_le r _ hlt (by omega)
      · grind
theorem nextslicecap_le {need cap : Nat} (h : cap < need) : Builtin.nextslicecap need cap ≤ 2 * need := by
  unfold Builtin.nextslicecap
  split
  · omega
  · split
    · omega
    · exact growBy_le 4 cap (by omega) (by omega)
inductive Own (h : Heap) (p : Option Addr) (len cap sz : Nat) (cs : List Value) : Prop
  | nil (hp : p = none) (hl : len = 0) (hc : cap = 0) (hcs : cs = [])
  | row (b off : Nat) (c : Array Value) (t : TypeId) (hp : p = some ⟨b, off, none⟩) (hb : h[b]? = some (.cells c t (0, 0))) (hl : len ≤ cap) (hc : off + cap * sz ≤ c.size) (hn : cs.length = len * sz) (hcs : ∀ j v, cs[j]? = some v → c[off + j]? = some v)
def inBlk (p : Option Addr) (c : Nat) : Prop := ∃ a, p = some a ∧ a.block = c
theorem Own.length {h : Heap} {p : Option Addr} {len cap sz : Nat} {cs : List Value} (o : Own h p len cap sz cs) : cs.length = len * sz := by
  cases o with
  | nil _ hl _ hcs => grind
  | row b off c t _ _ _ _ hn _ => exact hn
theorem Own.row' {h : Heap} {p : Option Addr} {len cap sz : Nat} {cs : List Value} (o : Own h p len cap sz cs) : Row h p cs := by
  cases o with
  | nil _ _ _ hcs => exact .inl hcs
  | row b off c t hp hb _ _ _ hcs => exact .inr ⟨_, hp, heldL_blk hb hcs⟩
theorem Own.frame {S : Nat → Prop} {h h' : Heap} {p : Option Addr} {len cap sz : Nat} {cs : List Value} (o : Own h p len cap sz cs) (hf : Fr S h h') (hn : ∀ c, inBlk p c → ¬ S c) : Own h' p len cap sz cs := by
  cases o with
  | nil hp hl hc hcs => exact .nil hp hl hc hcs
  | row b off c t hp hb hl hc hlen hcs => exact .row b off c t hp (hf.get hb (hn b ⟨_, hp, rfl⟩)) hl hc hlen hcs
theorem Own.blk_lt {h : Heap} {p : Option Addr} {len cap sz : Nat} {cs : List Value} (o : Own h p len cap sz cs) {c : Nat} (hc : inBlk p c) : c < h.size := by
  obtain ⟨a, e, rfl⟩ := hc
  cases o with
  | nil hp _ _ _ => grind
  | row b off c t hp hb _ _ _ _ => grind
theorem Own.le {h : Heap} {p : Option Addr} {len cap sz : Nat} {cs : List Value} (o : Own h p len cap sz cs) : len ≤ cap := by
  cases o with
  | nil _ hl hc _ => omega
  | row b off c t _ _ hl _ _ _ => exact hl
theorem Own.some {h : Heap} {p : Option Addr} {len cap sz : Nat} {cs : List Value} (o : Own h p len cap sz cs) (hn : 0 < cs.length) : ∃ b off, p = some ⟨b, off, none⟩ := by
  cases o with
  | nil _ _ _ hcs => grind
  | row b off c t hp _ _ _ _ _ => grind
theorem Own.cell {h : Heap} {a : Addr} {len cap sz : Nat} {cs : List Value} (o : Own h (.some a) len cap sz cs) {j : Nat} {v : Value} (hj : cs[j]? = .some v) : hcell h (a.add j) = .some v := o.row'.cell hj
theorem Own.store {h : Heap} {a : Addr} {len cap sz : Nat} {cs : List Value} {j : Nat} {v : Value} {K : Heap → Prop} (o : Own h (.some a) len cap sz cs) (hj : j < cs.length)
    (hk : ∀ h', Own h' (.some a) len cap sz (cs.set j v) → h'.size = h.size → (∀ x, ¬ inBlk (.some a) x → h'[x]? = h[x]?) → K h') : StoreP h (a.add j) v K := by
  cases o with
  | nil hp _ _ _ => cases hp
  | row b off c t hp hb hl hc hn hcs =>
    cases hp
    rw [add_blk]
    have hmul : len * sz ≤ cap * sz := Nat.mul_le_mul_right _ hl
    refine storeP_blk hb (by omega) fun h' h1 h2 h3 => hk h' (.row b off _ t rfl h1 hl (by simpa using hc) (by simpa using hn) ?_) h2 (fun x hx => h3 x (fun e => hx ⟨_, rfl, e.symm⟩))
    intro i w hi
    rw [List.getElem?_set] at hi
    rw [Array.getElem?_setIfInBounds]
    by_cases e : j = i
    · subst e
      rw [if_pos rfl, if_pos hj] at hi
      rw [if_pos rfl, if_pos (by omega)]
      exact hi
    · rw [if_neg e] at hi
      rw [if_neg (by omega)]
      exact hcs i w hi
theorem inBlk_sub {p : Option Addr} {cap l sz c : Nat} (hc : inBlk (slBase p cap l sz) c) : inBlk p c := by
  obtain ⟨a, e, rfl⟩ := hc
  unfold slBase at e
  split at e
  · exact ⟨a, e, rfl⟩
  · cases p with
    | none => cases e
    | some b => cases e; exact ⟨b, rfl, by unfold Addr.add; split <;> rfl⟩
theorem splice_set {c : Array Value} {off : Nat} : ∀ (ds : List Value) (i : Nat) (h : Heap) (b : Nat) (t : TypeId) (K : Unit → Heap → Prop), (∀ v ∈ ds, oneCell v = true) → h[b]? = some (.cells c t (0, 0)) → off + i + ds.length ≤ c.size →
    (∀ h' c', h'[b]? = some (.cells c' t (0, 0)) → c'.size = c.size → (∀ j, j < off + i ∨ off + i + ds.length ≤ j → c'[j]? = c[j]?) → (∀ j v, ds[j]? = some v → c'[off + i + j]? = some v) → h'.size = h.size → (∀ x, x ≠ b → h'[x]? = h[x]?) → K () h') →
    denSem P (storeCells ⟨b, off, none⟩ ds i) h K
  | [], i, h, b, t, K, _, hb, _, hk => by
    refine hk h c hb rfl (fun _ _ => rfl) (fun j v hj => by simp at hj) rfl (fun _ _ => rfl)
  | v :: ds, i, h, b, t, K, hv, hb, hlen, hk => by
    simp only [List.length_cons] at hlen
    have hlt : off + i < c.size := by omega
    refine ⟨hv v List.mem_cons_self, ?_, ?_, ?_⟩
    · rw [add_blk, hcell_blk hb]; simp [hlt]
    · rw [add_blk]; exact hfrozen_blk hb
    · rw [add_blk]
      refine splice_set ds (i + 1) _ b t K (fun u hu => hv u (List.mem_cons_of_mem _ hu)) (hset_same hb) (by grind) ?_
      intro h' c' hb' hs' ho' hn' hsz hoth
      refine hk h' c' hb' (by grind) (fun j hj => ?_) (fun j u hj => ?_) (by rw [hsz, hset_size]) (fun x hx => by rw [hoth x hx, hset_other hx])
      · grind
      · grind
theorem den_append_i {sT xT ty elem eT : TypeId} {i : TypeInfo} {z : Value} {h : Heap} {p q : Option Addr} {len cap n cq : Nat} {cs ds : List Value} {K : Value → Heap → Prop}
    (hs : P.underlying sT = some (.slice elem)) (hx : P.underlying xT = some (.slice eT)) (hi : P.info? elem = some i) (hz : i.zero = some z) (hsz : z.cells.size = i.size)
    (own : Own h p len cap i.size cs) (hq : Row h q ds) (hd : ds.length = n * i.size) (hone : ∀ v ∈ ds, oneCell v = true) (hb : (len + n) * i.bytes ≤ 70368744177664) (hb2 : len + n ≤ 9223372036854775807)
    (hk : ∀ p' cap' h', Own h' p' (len + n) cap' i.size (cs ++ ds) → Own h' p len cap i.size cs → Fr (inBlk p) h h' → (∀ c, inBlk p' c → inBlk p c ∨ h.size ≤ c) → K (.slice p' (len + n) cap') h') :
    denSem P (Builtin.append_ #[sT, xT] ty #[.slice p len cap, .slice q n cq]) h K := by
  unfold Builtin.append_
  refine den_of_rd (s := underlying sT) (rd_underlying hs) ?_
  refine den_of_rd (s := sizeOf elem) (rd_sizeOf hi) ?_
  refine den_of_rd (s := underlying xT) (rd_underlying hx) ?_
  refine den_of_rd (s := (pure false : Sem Bool)) (a := false) rfl ?_
  refine den_of_rd (s := Builtin.lenOf (.slice q n cq)) (a := n) rfl ?_
  show denSem P (if len + n ≤ cap then _ else _) h K
  by_cases hcap : len + n ≤ cap
  · rw [if_pos hcap]
    refine den_of_rd (s := Builtin.firstCells i.size n (.slice q n cq)) (a := ds.toArray) (rd_firstCells hq hd) ?_
    cases own with
    | nil hp hl hc hcs =>
      subst hp hl hc hcs
      have hn0 : n = 0 := by omega
      subst hn0
      have hds : ds = [] := by simpa using hd
      subst hds
      exact hk none 0 h (.nil rfl rfl rfl rfl) (.nil rfl rfl rfl rfl) (Fr.refl _ _) (fun c ⟨a, e, _⟩ => by cases e)
    | row b off c t hp hbk hl hc hlen hcs =>
      subst hp
      show denSem P (storeCells ((⟨b, off, none⟩ : Addr).add (len * i.size)) ds >>= fun _ => pure (.slice (some ⟨b, off, none⟩) (len + n) cap)) h K
      rw [add_blk]
      have hmul : (len + n) * i.size ≤ cap * i.size := Nat.mul_le_mul_right _ hcap
      rw [Nat.add_mul] at hmul
      rw [den_bind]
      refine splice_set (c := c) (off := off + len * i.size) ds 0 h b t _ hone hbk (by omega) ?_
      intro h' c' hb' hs' ho' hn' hsz hoth
      show K (.slice (some ⟨b, off, none⟩) (len + n) cap) h'
      refine hk _ cap h' (.row b off c' t rfl hb' hcap (by omega) (by rw [List.length_append, hlen, hd, Nat.add_mul]) ?_) (.row b off c' t rfl hb' hl (by omega) hlen ?_) (Fr.of_eq hsz fun x hx => hoth x (fun e => hx ⟨_, rfl, e.symm⟩)) (fun c hc => .inl hc)
      · intro j v hj
        by_cases hjl : j < cs.length
        · rw [List.getElem?_append_left hjl] at hj
          rw [ho' _ (by omega)]; exact hcs j v hj
        · rw [List.getElem?_append_right (by omega)] at hj
          have := hn' _ v hj
          rw [hlen] at this
          rwa [show off + len * i.size + 0 + (j - len * i.size) = off + j by omega] at this
      · intro j v hj
        have hjl : j < cs.length := (List.getElem?_eq_some_iff.1 hj).1
        rw [ho' _ (by omega)]; exact hcs j v hj
  · rw [if_neg hcap]
    have hle := nextslicecap_le (need := len + n) (cap := cap) (by omega)
    refine den_of_rd (s := typeInfo elem) (rd_typeInfo hi) ?_
    have hmax : ¬ (((len + n : Nat) : Int) > IntKind.max .i64 ∧ (False ∨ i.bytes = 0)) := fun hc => by
      have : IntKind.max .i64 = 9223372036854775807 := rfl
      rw [this] at hc; omega
    show denSem P (if (((len + n : Nat) : Int) > IntKind.max .i64 ∧ (false = true ∨ i.bytes = 0)) then _ else _) h K
    rw [if_neg (by simpa using hmax)]
    refine den_of_rd (s := typeInfo elem) (rd_typeInfo hi) ?_
    have hnext : ¬ (Builtin.nextslicecap (len + n) cap * i.bytes > 2 ^ 48) := by
      have h1 : Builtin.nextslicecap (len + n) cap * i.bytes ≤ 2 * (len + n) * i.bytes := Nat.mul_le_mul_right _ hle
      rw [Nat.mul_assoc] at h1
      omega
    show denSem P (if Builtin.nextslicecap (len + n) cap * i.bytes > 2 ^ 48 then _ else _) h K
    rw [if_neg hnext]
    show denSem P (choose (.appendCap (len + n) cap elem) >>= _) h K
    rw [den_bind]
    unfold choose
    simp only [denSem, Question.forced, Bool.false_eq_true, if_false, Question.cut]
    intro tq
    refine den_of_rd (s := typeInfo elem) (rd_typeInfo hi) ?_
    rw [den_bind]
    have hroom : ∀ (m : Nat) (K' : Unit → Heap → Prop), K' () h → denSem P (askRoom m) h K' := fun m K' hk' => by
      unfold askRoom
      split
      · exact hk'
      · exact hk'
    refine hroom _ _ ?_
    refine den_of_rd (s := Builtin.firstCells i.size len (.slice p len cap)) (a := cs.toArray) (rd_firstCells own.row' own.length) ?_
    refine den_of_rd (s := Builtin.firstCells i.size n (.slice q n cq)) (a := ds.toArray) (rd_firstCells hq hd) ?_
    refine den_of_rd (s := zeroValue elem) (rd_zeroValue hi hz) ?_
    generalize hcap' : len + n + tq % (2 ^ 63 - (len + n)) = cap'
    have hge : len + n ≤ cap' := by omega
    show K (.slice (some ⟨h.size, 0, none⟩) (len + n) cap') (h.push (.cells (cs.toArray ++ ds.toArray ++ Builtin.zeroCells z.cells (cap' - (len + n))) elem))
    have hsize : (cs.toArray ++ ds.toArray ++ Builtin.zeroCells z.cells (cap' - (len + n))).size = cap' * i.size := by
      have h1 : (Builtin.zeroCells z.cells (cap' - (len + n))).size = (cap' - (len + n)) * i.size := by simp [Builtin.zeroCells, hsz]
      have h2 := own.length
      rw [Array.size_append, Array.size_append, h1]
      simp only [List.size_toArray]
      rw [h2, hd, ← Nat.add_mul, ← Nat.add_mul]
      congr 1; omega
    refine hk _ cap' _ (.row h.size 0 _ elem rfl push_new hge (by rw [hsize]; omega) (by rw [List.length_append, own.length, hd, Nat.add_mul]) ?_) (own.frame (Fr.push (S := fun _ => False) _ _) (fun _ _ => id)) (Fr.push _ _) ?_
    · intro j v hj
      rw [Nat.zero_add]
      have hjl : j < (cs ++ ds).length := (List.getElem?_eq_some_iff.1 hj).1
      rw [Array.getElem?_append_left (by simpa using hjl)]
      simpa using hj
    · rintro c ⟨a, e, rfl⟩
      cases e
      exact .inr (Nat.le_refl _)
structure SlTy (P : Program) (sT elem : TypeId) (sz bytes : Nat) (z : Value) : Prop where
  u : P.underlying sT = some (.slice elem)
  info : (P.info? elem).map (fun i => (i.size, i.bytes, i.zero)) = some (sz, bytes, some z)
  zs : z.cells.size = sz
theorem SlTy.i {sT elem : TypeId} {sz bytes : Nat} {z : Value} (T : SlTy P sT elem sz bytes z) : ∃ i, P.info? elem = some i ∧ i.size = sz ∧ i.bytes = bytes ∧ i.zero = some z := by
  have := T.info
  cases hi : P.info? elem with
  | none => grind
  | some i =>
    grind
theorem den_append {sT xT ty elem eT : TypeId} {sz bytes : Nat} {z : Value} {h : Heap} {p q : Option Addr} {len cap n cq : Nat} {cs ds : List Value} {K : Value → Heap → Prop}
    (T : SlTy P sT elem sz bytes z) (hx : P.underlying xT = some (.slice eT))
    (own : Own h p len cap sz cs) (hq : Row h q ds) (hd : ds.length = n * sz) (hone : ∀ v ∈ ds, oneCell v = true) (hb : (len + n) * bytes ≤ 70368744177664) (hb2 : len + n ≤ 9223372036854775807)
    (hk : ∀ p' cap' h', Own h' p' (len + n) cap' sz (cs ++ ds) → Own h' p len cap sz cs → Fr (inBlk p) h h' → (∀ c, inBlk p' c → inBlk p c ∨ h.size ≤ c) → K (.slice p' (len + n) cap') h') :
    denSem P (Builtin.append_ #[sT, xT] ty #[.slice p len cap, .slice q n cq]) h K := by
  obtain ⟨i, hi, rfl, rfl, hz⟩ := T.i
  exact den_append_i T.u hx hi hz T.zs own hq hd hone hb hb2 hk
end
section
open Go.RowKit
def Rok (P : Program) (h : Heap) : Nat → TypeId → List Value → Prop
  | 0, _, _ => False
  | n + 1, t, cs =>
    match P.underlying t with
    | some .bool => ∃ b, cs = [.bool b]
    | some (.int k) => ∃ a, cs = [.int k a] ∧ (Lit.int k a).wf = true
    | some .string => ∃ s, cs = [.string s] ∧ s.size ≤ maxLen
    | some (.pointer e) => cs = [.pointer none] ∨ ∃ a cs', cs = [.pointer (some a)] ∧ cs'.length = P.cellsOf e ∧ heldL a cs' 0 h ∧ Rok P h n e cs'
    | some (.slice e) => cs = [.slice none 0 0] ∨ ∃ a len cap, cs = [.slice (some a) len cap] ∧ len ≤ cap ∧ cap ≤ maxLen ∧ ∀ i, i < len → ∃ cs', cs'.length = P.cellsOf e ∧ heldL (a.add (i * P.cellsOf e)) cs' 0 h ∧ Rok P h n e cs'
    | some (.struct fs) => cs.length = P.cellsOf t ∧ ∀ f ∈ fs.toList, Rok P h n f.type ((cs.drop f.offset).take (P.cellsOf f.type))
    | some (.array m e) => cs.length = P.cellsOf t ∧ ∀ i, i < m → Rok P h n e ((cs.drop (i * P.cellsOf e)).take (P.cellsOf e))
    | _ => True
theorem cells_held {w : World} {base : Nat} {a : Addr} {n : Nat} {cs : List Value} (h : w.cells? base a n = some cs) : cs.length = n ∧ heldL a cs 0 w.heap := by
  have ⟨_, hl, hc⟩ := World.cells?_some h
  refine ⟨hl, heldL_at.2 fun j v hj => ?_⟩
  have hjl  := (List.getElem?_eq_some_iff.1 hj).1
  have := hc j (by omega)
  rw [cell_eq, hj] at this
  rw [Nat.zero_add]; exact this
theorem rok_of_trod {H : Type} {enc : TypeId × Value → H} {P : Program} {w : World} {base : Nat} {spare : Nat → Bool} {held : Bool} :
    ∀ (fuel : Nat) (t : TypeId) (cs : List Value) (x : DataW H × List MemPlace), DataW.trod enc P w base spare held fuel t cs = some x → Rok P w.heap fuel t cs
  | 0, _, _, _, h => by simp [DataW.trod] at h
  | fuel + 1, t, cs, x, h => by
    unfold Rok
    cases hd : P.underlying t with
    | none => trivial
    | some d =>
      cases d <;> simp only <;> first | trivial | skip
      case bool => obtain ⟨b, hc, _⟩ := DataW.trod_bool hd h; exact ⟨b, hc⟩
      case int k => obtain ⟨n, hc, _, hw⟩ := DataW.trod_int hd h; exact ⟨n, hc, hw⟩
      case string => obtain ⟨s, hc, _, hw⟩ := DataW.trod_string hd h; exact ⟨s, hc, hw⟩
      case pointer e =>
        rcases DataW.trod_pointer hd h with ⟨hc, _⟩ | ⟨a, cs', y, n, hn, hc, _, hcell, hy⟩
        · exact .inl hc
        · obtain ⟨hl, hh⟩ := cells_held hcell
          obtain rfl : n = fuel := by omega
          exact .inr ⟨a, cs', hc, hl, hh, rok_of_trod n e cs' y hy⟩
      case slice e =>
        rcases DataW.trod_slice hd h with ⟨hc, _⟩ | ⟨a, len, cap, elems, rest, n, hn, hc, _, _, hl, hm, hlen, hel, _⟩
        · exact .inl hc
        · obtain rfl : n = fuel := by omega
          refine .inr ⟨a, len, cap, hc, hl, hm, fun i hi => ?_⟩
          have h1 := hel i hi
          rw [List.getElem?_eq_getElem (by omega)] at h1
          cases hcell : w.cells? base (a.add (i * P.cellsOf e)) (P.cellsOf e) with
          | none => grind
          | some cs' =>
            rw [hcell] at h1
            obtain ⟨hl', hh⟩ := cells_held hcell
            exact ⟨cs', hl', hh, rok_of_trod n e cs' _ h1⟩
      case struct fs =>
        obtain ⟨xs, n, hn, _, hl, hxs, hf⟩ := DataW.trod_struct hd h
        obtain rfl : n = fuel := by omega
        refine ⟨hl, fun f hm => ?_⟩
        obtain ⟨i, hi⟩ := List.getElem?_of_mem hm
        have hi' : fs[i]? = some f := by simpa using hi
        have h1 := hf i f hi'
        have hlt : i < xs.length := by grind
        rw [List.getElem?_eq_getElem hlt] at h1
        exact rok_of_trod n _ _ _ h1
      case array m e =>
        obtain ⟨xs, n, hn, _, hl, hxs, hf⟩ := DataW.trod_array hd h
        obtain rfl : n = fuel := by omega
        refine ⟨hl, fun i hi => ?_⟩
        have h1 := hf i hi
        rw [List.getElem?_eq_getElem (by omega)] at h1
        exact rok_of_trod n _ _ _ h1
def RokV (P : Program) (h : Heap) (t : TypeId) (v : Value) : Prop := ∃ n, Rok P h n t v.cells.toList
theorem RokV.of {H : Type} {enc : TypeId × Value → H} {P : Program} {w : World} {base : Nat} {spare : Nat → Bool} {held : Bool} {t : TypeId} {v : Value} {d : DataW H} {ps : List MemPlace}
    (h : DataW.Trod enc P w base spare held t v d ps) : RokV P w.heap t v := by
  have ⟨n, hn⟩ := h
  exact ⟨n, rok_of_trod n _ _ _ hn⟩
theorem below_of {w w' : World} (hf : Fr (fun _ => False) w.heap w'.heap) (hs : Same w w') : Below w.heap.size w w' :=
  ⟨hs.1, hs.2.2, hs.2.1, hf.1, fun k hk => hf.2 k hk id⟩
def LawH (P : Program) (f : FuncId) (args : Array Value) (h : Heap) : Prop := CallsH P f args h (fun v h' => v = .bool true ∧ Fr (fun _ => False) h h')
theorem LawH.calls {P : Program} {f : FuncId} {args : Array Value} {w : World} (hl : LawH P f args w.heap) : Calls P f args w fun e w' => e = .returned (.bool true) ∧ Below w.heap.size w w' :=
  (hl w rfl).mono fun _ _ ⟨_, he, ⟨hv, hf⟩, hs⟩ => ⟨by grind, below_of hf hs⟩
section
variable {P : Program} {h : Heap} {t : TypeId} {v : Value}
theorem flat_len {α : Type} (enc : α → List Value) (sz : Nat) (henc : ∀ x, (enc x).length = sz) : ∀ xs : List α, (xs.flatMap enc).length = xs.length * sz
  | [] => by simp
  | x :: xs => by
    rw [List.flatMap_cons, List.length_append, henc, flat_len enc sz henc xs, List.length_cons, Nat.add_mul]; omega
theorem flat_at {α : Type} (enc : α → List Value) (sz : Nat) (henc : ∀ x, (enc x).length = sz) : ∀ (xs : List α) (i : Nat) (x : α), xs[i]? = some x → ∀ j v, (enc x)[j]? = some v → (xs.flatMap enc)[i * sz + j]? = some v
  | [], i, x, h, _, _, _ => by simp at h
  | y :: xs, 0, x, h, j, v, hj => by
    grind
  | y :: xs, i + 1, x, h, j, v, hj => by
    have := flat_at enc sz henc xs i x (by grind) j v hj
    rw [List.flatMap_cons, List.getElem?_append_right (by grind), henc]
    rwa [show (i + 1) * sz + j - sz = i * sz + j by grind]
end
def tlFields (P : Program) (r : TypeId → Option (List TypeId)) : List Field → Nat → Option (List TypeId)
  | [], _ => some []
  | f :: fs, off => (match Nat.beq f.offset off, r f.type with
    | true, some ts => (match Nat.beq ts.length (P.cellsOf f.type), tlFields P r fs (off + ts.length) with
      | true, some us => some (ts ++ us)
      | _, _ => none)
    | _, _ => none)
def tleaves (P : Program) : Nat → TypeId → Option (List TypeId)
  | 0, _ => none
  | n + 1, t => (match P.underlying t with
    | some (.struct fs) => tlFields P (tleaves P n) fs.toList 0
    | some (.array _ _) => none
    | _ => some [t])
def Leaves (P : Program) (h : Heap) (ts : List TypeId) (cs : List Value) : Prop := ∀ (i : Nat) (ti : TypeId), ts[i]? = some ti → ∃ v m, cs[i]? = some v ∧ Rok P h m ti [v]
theorem Leaves.append {P : Program} {h : Heap} {ts us : List TypeId} {cs : List Value} (h1 : Leaves P h ts (cs.take ts.length)) (h2 : Leaves P h us (cs.drop ts.length)) : Leaves P h (ts ++ us) cs := by
  intro i ti hi
  by_cases hlt : i < ts.length
  · rw [List.getElem?_append_left hlt] at hi
    have ⟨v, m, hv, hr⟩ := h1 i ti hi
    rw [List.getElem?_take, if_pos hlt] at hv
    exact ⟨v, m, hv, hr⟩
  · rw [List.getElem?_append_right (by omega)] at hi
    have ⟨v, m, hv, hr⟩ := h2 _ ti hi
    exact ⟨v, m, by grind, hr⟩
theorem tlFields_ok {P : Program} {h : Heap} {r : TypeId → Option (List TypeId)} {n : Nat}
    (hr : ∀ t ts cs, r t = some ts → cs.length = ts.length → Rok P h n t cs → Leaves P h ts cs) :
    ∀ (fs : List Field) (off : Nat) (us : List TypeId) (cs : List Value), tlFields P r fs off = some us → off + us.length ≤ cs.length → (∀ f ∈ fs, Rok P h n f.type ((cs.drop f.offset).take (P.cellsOf f.type))) →
      Leaves P h us (cs.drop off)
  | [], off, us, cs, hu, _, _ => by simp only [tlFields, Option.some.injEq] at hu; subst hu; intro i ti hi; simp at hi
  | f :: fs, off, us, cs, hu, hlen, hf => by
    simp only [tlFields] at hu
    split at hu
    · rename_i ts hoff hts
      split at hu
      · rename_i us' hl hus
        simp only [Option.some.injEq] at hu
        subst hu
        rw [List.length_append] at hlen
        have h1 := hf f List.mem_cons_self
        rw [(Nat.eq_of_beq_eq_true hoff), ← (Nat.eq_of_beq_eq_true hl)] at h1
        refine Leaves.append (hr _ _ _ hts (by grind) h1) ?_
        rw [List.drop_drop]
        exact tlFields_ok hr fs _ us' cs hus (by omega) (fun f' hm => hf f' (List.mem_cons_of_mem _ hm))
      · cases hu
    · cases hu
theorem tleaves_ok {P : Program} {h : Heap} : ∀ (d n : Nat) (t : TypeId) (ts : List TypeId) (cs : List Value), tleaves P d t = some ts → cs.length = ts.length → Rok P h n t cs → Leaves P h ts cs
  | 0, _, _, _, _, ht, _, _ => by simp [tleaves] at ht
  | d + 1, n, t, ts, cs, ht, hl, hr => by
    simp only [tleaves] at ht
    cases n with
    | zero => exact hr.elim
    | succ n =>
      split at ht
      · rename_i fs hfs
        unfold Rok at hr
        rw [hfs] at hr
        have := tlFields_ok (fun t ts cs h1 h2 h3 => tleaves_ok d n t ts cs h1 h2 h3) fs.toList 0 ts cs ht (by omega) hr.2
        simpa using this
      · cases ht
      · simp only [Option.some.injEq] at ht
        subst ht
        intro i ti hi
        match cs, hl with
        | [v], _ =>
          grind
theorem Leaves.get {P : Program} {h : Heap} {ts : List TypeId} {cs : List Value} (hl : Leaves P h ts cs) (i : Nat) {ti : TypeId} {v : Value} (hi : ts[i]? = some ti) (hv : cs[i]? = some v) : ∃ m, Rok P h m ti [v] := by
  have ⟨u, m, hu, hr⟩ := hl i ti hi
  rw [hu] at hv; cases hv
  exact ⟨m, hr⟩
theorem JoinP.of {α : Type} {F : α} {B : α → Prop} (h : ∀ J, J = F → B J) : JoinP F B := h F rfl
end
end Go.Den
namespace Go.Den
theorem Fr.fresh {S : Nat → Prop} {h h1 h2 : Heap} (f : Fr (fun _ => False) h h1) (g : Fr S h1 h2) (hs : ∀ c, S c → h.size ≤ c) : Fr (fun _ => False) h h2 :=
  f.step g fun c hc hx => by have := hs c hx; omega
theorem hset_push {h : Heap} {c : Array Value} {t : TypeId} {f : Nat × Nat} {i : Nat} {v : Value} : hset (h.push (.cells c t f)) ⟨h.size, i, none⟩ v = h.push (.cells (c.setIfInBounds i v) t f) := by
  apply Array.ext
  · simp [hset]
  · intro j h1 h2
    have e : ∀ (x : Heap) (hx : j < x.size), x[j]? = some x[j] := fun x hx => Array.getElem?_eq_getElem hx
    have : (hset (h.push (.cells c t f)) ⟨h.size, i, none⟩ v)[j]? = (h.push (.cells (c.setIfInBounds i v) t f))[j]? := by
      by_cases q : j = h.size
      · subst q
        rw [hset_same push_new, push_new]
      · rw [hset_other q,Array.getElem?_push, Array.getElem?_push, if_neg q, if_neg q]
    rw [e _ h1, e _ h2] at this
    exact Option.some.inj this
theorem storeP_push {h : Heap} {c : Array Value} {t : TypeId} {i : Nat} {v : Value} {K : Heap → Prop} (hi : i < c.size) (hk : K (h.push (.cells (c.setIfInBounds i v) t (0, 0)))) : StoreP (h.push (.cells c t (0, 0))) ⟨h.size, i, none⟩ v K := by
  refine ⟨?_, hfrozen_blk push_new, ?_⟩
  · rw [hcell_blk push_new]; simp [hi]
  · rintro _ rfl
    rw [hset_push]; exact hk
theorem newP_of {h : Heap} {o : Obj} {K : Nat → Heap → Prop} (hk : K h.size (h.push o)) : NewP h o K := by
  rintro b h' rfl rfl; exact hk
section
variable {P : Program}
theorem den_append1 {sT xT ty elem eT t : TypeId} {sz bytes : Nat} {z : Value} {h : Heap} {p : Option Addr} {len cap : Nat} {cs : List Value} {xs : Array Value} {K : Value → Heap → Prop}
    (T : SlTy P sT elem sz bytes z) (hx : P.underlying xT = some (.slice eT))
    (own : Own h p len cap sz cs) (hxs : xs.size = sz) (hone : ∀ v ∈ xs.toList, oneCell v = true) (hb : (len + 1) * bytes ≤ 70368744177664) (hb2 : len + 1 ≤ 9223372036854775807)
    (hk : ∀ p' cap' h', Own h' p' (len + 1) cap' sz (cs ++ xs.toList) → Fr (inBlk p) h h' → (∀ c, inBlk p' c → inBlk p c ∨ h.size ≤ c) → K (.slice p' (len + 1) cap') h') :
    NewP h (.cells xs t) fun b h1 => denSem P (Builtin.append_ #[sT, xT] ty #[.slice p len cap, .slice (some ⟨b, 0, none⟩) 1 1]) h1 K := by
  refine newP_of ?_
  have f1 : Fr (fun _ => False) h (h.push (.cells xs t)) := Fr.push _ _
  refine den_append T hx (own.frame f1 (fun _ _ => id)) (.inr ⟨_, rfl, heldL_blk push_new (fun j v hj => by grind)⟩) (by simp [hxs]) hone hb hb2 ?_
  intro p' cap' h' o1 _ f2 g
  exact hk p' cap' h' o1 (Fr.no f1 f2) (fun c hc => (g c hc).imp id (fun h2 => by grind))
end
end Go.Den
namespace Go.Den
theorem row_new {h : Heap} {cs : List Value} {t : TypeId} : Row (h.push (.cells cs.toArray t)) (some ⟨h.size, 0, none⟩) cs := .inr ⟨_, rfl, heldL_blk push_new (fun j v hj => by rw [Nat.zero_add]; simpa using hj)⟩
theorem add_zero_addr (a : Addr) : a.add 0 = a := by simp [Addr.add]
theorem Row.sub {h : Heap} {p : Option Addr} {cs : List Value} (hr : Row h p cs) {cap l u sz : Nat} (h1 : l ≤ u) (h2 : u ≤ cap) : Row h (slBase p cap l sz) ((cs.take (u * sz)).drop (l * sz)) := by
  by_cases hc : cap = l
  · left
    have : u = l := by omega
    subst this
    rw [List.drop_eq_nil_iff, List.length_take]
    exact Nat.min_le_left _ _
  · unfold slBase
    rw [if_neg hc]
    rcases hr with rfl | ⟨a, rfl, hh⟩
    · left; simp
    · refine .inr ⟨a.add (l * sz), rfl, heldL_at.2 fun j v hj => ?_⟩
      rw [add_add, Nat.zero_add]
      rw [List.getElem?_drop, List.getElem?_take] at hj
      split at hj
      · have := heldL_at.1 hh (l * sz + j) v hj
        rwa [Nat.zero_add] at this
      · cases hj
structure Ft where
  M : Nat → Prop
  D : Nat → Prop
structure StepF (F : Ft) (h : Heap) (F' : Ft) (h' : Heap) : Prop where
  fr : Fr F.M h h'
  newM : ∀ c, F'.M c → F.M c ∨ h.size ≤ c
  newD : ∀ c, F'.D c → F.D c ∨ h.size ≤ c
  oldD : ∀ c, F.D c → F'.D c
theorem StepF.trans {F F1 F2 : Ft} {h h1 h2 : Heap} (a : StepF F h F1 h1) (b : StepF F1 h1 F2 h2) : StepF F h F2 h2 := by
  have z := a.fr.1
  refine ⟨a.fr.trans b.fr (fun _ _ => id) (fun c hc hx => (a.newM c hx).resolve_right (by omega)), fun c hc => ?_, fun c hc => ?_, fun c hc => b.oldD c (a.oldD c hc)⟩
  · rcases b.newM c hc with hc | hc
    · exact a.newM c hc
    · omega
  · rcases b.newD c hc with hc | hc
    · exact a.newD c hc
    · exact .inr (by omega)
theorem StepF.of_fr {F : Ft} {h h' : Heap} (f : Fr F.M h h') : StepF F h F h' := ⟨f, fun _ => .inl, fun _ => .inl, fun _ => id⟩
theorem StepF.of_no {F : Ft} {h h' : Heap} (f : Fr (fun _ => False) h h') : StepF F h F h' := .of_fr (f.mono fun _ _ => False.elim)
theorem StepF.no {F F1 : Ft} {h h1 h2 : Heap} (f : Fr (fun _ => False) h h1) (b : StepF F h1 F1 h2) : StepF F h F1 h2 := (StepF.of_no f).trans b
theorem StepF.apartM {F F' : Ft} {Q : Nat → Prop} {h h' : Heap} (st : StepF F h F' h') (hd : ∀ c, F.M c → ¬ Q c) (hq : ∀ c, Q c → c < h.size) : ∀ c, F'.M c → ¬ Q c := fun c hc hx => by
  have := hq c hx
  rcases st.newM c hc with h1 | h1
  · exact hd c h1 hx
  · omega
structure UpF (h0 : Heap) (F : Ft) (h : Heap) : Prop where
  fr : Fr (fun _ => False) h0 h
  ge : ∀ c, F.M c ∨ F.D c → h0.size ≤ c
theorem storeL_from {b : Nat} {t : TypeId} : ∀ (vs : List Value) (i : Nat) (h : Heap) (c : Array Value) (K : Heap → Prop), h[b]? = some (.cells c t (0, 0)) → i + vs.length ≤ c.size → vs.all oneCell = true →
    (∀ h' c', h'[b]? = some (.cells c' t (0, 0)) → c'.size = c.size → (∀ j, j < i ∨ i + vs.length ≤ j → c'[j]? = c[j]?) → (∀ j v, vs[j]? = some v → c'[i + j]? = some v) → h'.size = h.size → (∀ x, x ≠ b → h'[x]? = h[x]?) → K h') →
    storeL ⟨b, 0, none⟩ vs i h K
  | [], i, h, c, K, hb, _, _, hk => hk h c hb rfl (fun _ _ => rfl) (fun j v hj => by simp at hj) rfl (fun _ _ => rfl)
  | v :: vs, i, h, c, K, hb, hl, hv, hk => by
    rw [List.all_cons, Bool.and_eq_true] at hv
    rw [List.length_cons] at hl
    unfold storeL
    rw [hv.1]
    rw [add_blk, Nat.zero_add]
    refine storeP_blk hb (by omega) fun h1 a1 s1 o1 => (storeL_from vs (i + 1) h1 _ K a1 (by grind) hv.2 fun h2 c2 b2 z2 q2 r2 s2 o2 => hk h2 c2 b2 (by grind) (fun j hj => ?_) (fun j u hj => ?_) (by omega) (fun x hx => by grind))
    · grind
    · grind
theorem storeL_full {h : Heap} {b : Nat} {c : Array Value} {t : TypeId} {vs : List Value} {K : Heap → Prop} (hb : h[b]? = some (.cells c t (0, 0))) (hl : vs.length = c.size) (hv : vs.all oneCell = true)
    (hk : ∀ h', h'[b]? = some (.cells vs.toArray t (0, 0)) → h'.size = h.size → (∀ x, x ≠ b → h'[x]? = h[x]?) → K h') : storeL ⟨b, 0, none⟩ vs 0 h K := by
  refine storeL_from vs 0 h c K hb (by omega) hv fun h' c' b' z _ r s o => hk h' ?_ s o
  have : c' = vs.toArray := by
    apply Array.ext'
    apply List.ext_getElem?
    intro j
    by_cases hj : j < vs.length
    · grind
    · grind
  rw [← this]; exact b'
theorem new_full {h : Heap} {c : Array Value} {t : TypeId} {vs : List Value} {K : Nat → Heap → Prop} (hl : vs.length = c.size) (hv : vs.all oneCell = true)
    (hk : ∀ b h', b = h.size → h'[b]? = some (.cells vs.toArray t (0, 0)) → Fr (fun _ => False) h h' → K b h') : NewP h (.cells c t) fun b h0 => storeL ⟨b, 0, none⟩ vs 0 h0 (K b) :=
  newP_of (storeL_full push_new hl hv fun h' b' s o => hk _ h' rfl b' ((Fr.push h _).fresh ⟨by omega, fun y _ hn => o y hn⟩ (fun y e => Nat.le_of_eq e.symm)))
end Go.Den
namespace Go.Den
def bc (bs : List UInt8) : List Value := bs.map fun b => .int .u8 (b.toNat : Int)
theorem bc_len (bs : List UInt8) : (bc bs).length = bs.length := by simp [bc]
theorem bc_append (bs cs : List UInt8) : bc (bs ++ cs) = bc bs ++ bc cs := by simp [bc]
theorem bc_one (bs : List UInt8) : ∀ v ∈ bc bs, oneCell v = true := by
  intro v hv
  simp only [bc, List.mem_map] at hv
  obtain ⟨b, _, rfl⟩ := hv
  rfl
def str (bs : List UInt8) : ByteArray := ⟨bs.toArray⟩
theorem toList_loop (b : ByteArray) : ∀ (k i : Nat) (r : List UInt8), b.size - i = k → i ≤ b.size → ByteArray.toList.loop b i r = r.reverse ++ b.data.toList.drop i
  | 0, i, r, hk, hi => by
    have : i = b.size := by omega
    unfold ByteArray.toList.loop
    rw [if_neg (by omega)]
    have : b.data.toList.length ≤ i := by simp_all
    rw [List.drop_of_length_le this]; simp
  | k + 1, i, r, hk, hi => by
    have hlt : i < b.size := by omega
    unfold ByteArray.toList.loop
    rw [if_pos hlt, toList_loop b k (i + 1) _ (by omega) (by omega)]
    have hl : i < b.data.toList.length := by simp_all
    rw [List.drop_eq_getElem_cons hl]
    have : b.get! i = b.data.toList[i] := by
      show b.data[i]! = _
      rw [getElem!_pos b.data i hlt]; simp
    rw [this]; simp
theorem toList_data (b : ByteArray) : b.toList = b.data.toList := by
  unfold ByteArray.toList
  rw [toList_loop b _ 0 [] rfl (Nat.zero_le _)]; simp
theorem str_list (bs : List UInt8) : (str bs).toList = bs := by simp [str]
section
variable {P : Program}
theorem rd_forBytes (h : Heap) : ∀ (bs : List UInt8) (s : ByteArray), rd P (forIn (bc bs).toArray s fun c s => (do
      let .int .u8 n := c | stuck "bytesToString: byte expected"
      pure (ForInStep.yield (s.push (UInt8.ofNat n.toNat))))) h = some ⟨s.data ++ bs.toArray⟩ := by
  intro bs
  simp only [List.forIn_toArray]
  induction bs with
  | nil => intro s; show some s = _; cases s; simp
  | cons b bs ih =>
    intro s
    have e : bc (b :: bs) = .int .u8 (b.toNat) :: bc bs := rfl
    rw [e, List.forIn_cons,rd_bind _ _ h (ForInStep.yield (s.push b)) (by show some (ForInStep.yield (s.push (UInt8.ofNat b.toNat))) = _; simp)]
    rw [ih]
    simp [ByteArray.push]
theorem conv_str {sT dT e : TypeId} {h : Heap} {p : Option Addr} {c n : Nat} {bs : List UInt8} (hs : P.underlying sT = some (.slice e)) (he : P.underlying e = some (.int .u8)) (hd : P.underlying dT = some .string)
    (hr : Row h p (bc bs)) (hn : n = bs.length) : ConvV P sT dT (.slice p n c) h (str bs) := by
  subst hn
  unfold ConvV convert
  rw [rd_bind _ _ _ _ (rd_underlying hs), rd_bind _ _ _ _ (rd_underlying hd)]
  show rd P (underlying e >>= _) h = _
  rw [rd_bind _ _ _ _ (rd_underlying he)]
  show rd P (Conv.bytesToString (.slice p bs.length c)) h = _
  cases p with
  | none =>
    have : bs = [] := by
      rcases hr with hr | ⟨a, e, _⟩
      · cases bs with
        | nil => rfl
        | cons b bs => cases hr
      · cases e
    subst this
    rfl
  | some a =>
    have hh : heldL a (bc bs) 0 h := by
      rcases hr with hr | ⟨a', e, hh⟩
      · rw [hr]; trivial
      · cases e; exact hh
    have hl : rd P (loadCells a bs.length) h = some (bc bs).toArray := by
      unfold loadCells
      rw [← bc_len, rd_loadCellsFrom (bc bs) 0 #[] h hh]; simp
    show rd P (loadCells a bs.length >>= fun cells => (forIn cells ByteArray.empty fun c s => (do
      let .int .u8 n := c | stuck "bytesToString: byte expected"
      pure (ForInStep.yield (s.push (UInt8.ofNat n.toNat))))) >>= fun s => pure (Value.string s)) h = _
    rw [rd_bind _ _ _ _ hl, rd_bind _ _ _ _ (rd_forBytes h bs ByteArray.empty)]
    show some (Value.string ⟨ByteArray.empty.data ++ bs.toArray⟩) = _
    have : (⟨ByteArray.empty.data ++ bs.toArray⟩ : ByteArray) = str bs := by
      unfold str; congr 1; show #[] ++ bs.toArray = bs.toArray; simp
    rw [this]
theorem den_lit {t e : TypeId} {h : Heap} {a : Addr} {n c : Nat} {K : Value → Heap → Prop} (hs : P.underlying t = some (.slice e)) (he : P.underlying e = some (.int .u8)) {cs : Array Value} {ct : TypeId} {f : Nat × Nat} (hb : h[a.block]? = some (.cells cs ct f))
    (hk : ∀ h' f', h'[a.block]? = some (.cells cs ct f') → h'.size = h.size → (∀ x, x ≠ a.block → h'[x]? = h[x]?) → K (.slice (some a) n c) h') : denSem P (convert t t (.slice (some a) n c)) h K := by
  unfold convert
  refine den_of_rd (s := underlying t) (rd_underlying hs) ?_
  refine den_of_rd (s := underlying t) (rd_underlying hs) ?_
  show denSem P (underlying e >>= _) h K
  refine den_of_rd (s := underlying e) (rd_underlying he) ?_
  have ht : (t == t) = true := by simp
  rw [ht]
  show denSem P (markStringish a >>= fun _ => pure (.slice (some a) n c)) h K
  rw [den_bind]
  unfold markStringish shape
  have hsh : hshape h a.block = some (ct, cs.size) := by simp [hshape, hb]
  show denSem P (match hshape h a.block with | some (_, n) => freeze { block := a.block, off := n } 1 | _ => pure ()) h _
  rw [hsh]
  show K (.slice (some a) n c) (hfreeze h { block := a.block, off := cs.size } 1)
  unfold hfreeze
  rw [if_neg (by omega)]
  obtain ⟨lo, hi⟩ := f
  refine hk _ (if lo == hi then (cs.size, cs.size + 1) else (min lo cs.size, max hi (cs.size + 1))) ?_ (by simp) (fun x hx => ?_)
  · simp [Array.getElem?_modify, hb]
  · simp [Array.getElem?_modify, Ne.symm hx]
end
theorem wrap_u8_nat (n : Nat) : IntKind.wrap .u8 (n : Int) = ((n % 256 : Nat) : Int) := by
  rfl
structure BV where
  p : Option Addr
  c : Nat
  b : List UInt8
abbrev BV.val (x : BV) : Value := .slice x.p x.b.length x.c
structure BV.ok (h : Heap) (D : Nat → Prop) (x : BV) : Prop where
  row : Row h x.p (bc x.b)
  own : x.b ≠ [] → ∀ c, inBlk x.p c → D c
  cap : x.b.length ≤ x.c
theorem BV.ok.frame {h h' : Heap} {D Q : Nat → Prop} {x : BV} (H : x.ok h D) (f : Fr Q h h') (hn : ∀ c, D c → ¬ Q c) : x.ok h' D := by
  refine ⟨?_, H.own, H.cap⟩
  by_cases hc : x.b = []
  · rw [hc]; exact .inl rfl
  · exact H.row.frame f (fun a e => hn a.block (H.own hc a.block ⟨a, e, rfl⟩))
theorem BV.ok.mono {h : Heap} {D D' : Nat → Prop} {x : BV} (H : x.ok h D) (hd : ∀ c, D c → D' c) : x.ok h D' := ⟨H.row, fun hc c hx => hd c (H.own hc c hx), H.cap⟩
theorem BV.of_own {h : Heap} {D : Nat → Prop} {p : Option Addr} {c : Nat} {b : List UInt8} (o : Own h p b.length c 1 (bc b)) (hd : ∀ x, inBlk p x → D x) : BV.ok h D ⟨p, c, b⟩ := ⟨o.row', fun _ => hd, o.le⟩
theorem slBase_zero (p : Option Addr) (m sz : Nat) : slBase p m 0 sz = p := by
  unfold slBase
  split
  · rfl
  · cases p with
    | none => rfl
    | some a => simp [Addr.add]
theorem Own.heldAt {h : Heap} {a : Addr} {len cap sz : Nat} {α : Type} {enc : α → List Value} {xs : List α} (own : Own h (.some a) len cap sz (xs.flatMap enc)) (henc : ∀ x, (enc x).length = sz) {i : Nat} {x : α} (hi : xs[i]? = .some x) : heldL (a.add (i * sz)) (enc x) 0 h := by
  refine heldL_at.2 fun j v hj => ?_
  rw [Nat.zero_add, add_add]
  exact own.cell (flat_at enc sz henc xs i x hi j v hj)
theorem Row.heldAt {h : Heap} {a : Addr} {sz : Nat} {α : Type} {enc : α → List Value} {xs : List α} (own : Row h (.some a) (xs.flatMap enc)) (henc : ∀ x, (enc x).length = sz) {i : Nat} {x : α} (hi : xs[i]? = .some x) : heldL (a.add (i * sz)) (enc x) 0 h := by
  refine heldL_at.2 fun j v hj => ?_
  rw [Nat.zero_add, add_add]
  exact own.cell (flat_at enc sz henc xs i x hi j v hj)
theorem Own.addr {h : Heap} {p : Option Addr} {len cap sz : Nat} {cs : List Value} (own : Own h p len cap sz cs) (hl : 0 < len) : ∃ b off, p = .some ⟨b, off, none⟩ := by
  cases own with
  | nil _ h2 _ _ => omega
  | row b off c t hp _ _ _ _ _ => grind
theorem flat_set {α : Type} (enc : α → List Value) (sz : Nat) (henc : ∀ x, (enc x).length = sz) : ∀ (xs : List α) (i : Nat) (y : α), i < xs.length → ∀ (cs : List Value), cs.length = (xs.flatMap enc).length → (∀ j, j / sz ≠ i ∨ sz = 0 → cs[j]? = (xs.flatMap enc)[j]?) → (∀ j v, j < sz → (enc y)[j]? = some v → cs[i * sz + j]? = some v) → cs = (xs.set i y).flatMap enc := by
  intro xs i y hi cs hl h1 h2
  apply List.ext_getElem?
  intro j
  by_cases hsz : sz = 0
  · rw [h1 j (.inr hsz)]
    have e1 : ∀ zs : List α, zs.flatMap enc = [] := fun zs => by
      simp_all
    rw [e1, e1]
  have hpos : 0 < sz := by omega
  by_cases hj : j / sz = i
  · have hjm : j = i * sz + j % sz := by rw [← hj, Nat.mul_comm]; exact (Nat.div_add_mod j sz).symm
    have hm := Nat.mod_lt j hpos
    have hy : (enc y)[j % sz]? = some ((enc y)[j % sz]'(by grind)) := List.getElem?_eq_getElem _
    have a := h2 _ _ hm hy
    have b := flat_at enc sz henc (xs.set i y) i y (by simp [hi]) _ _ hy
    rw [← hjm] at a b
    rw [a, b]
  · rw [h1 j (.inl hj)]
    by_cases hjl : j / sz < xs.length
    · have hjm : j = (j / sz) * sz + j % sz := by rw [Nat.mul_comm]; exact (Nat.div_add_mod j sz).symm
      have hx' : (xs.set i y)[j / sz]? = some (xs[j / sz]) := by grind
      have hy : (enc xs[j / sz])[j % sz]? = some ((enc xs[j / sz])[j % sz]'(by rw [henc]; exact (Nat.mod_lt j hpos))) := List.getElem?_eq_getElem _
      have a := flat_at enc sz henc xs _ _ (List.getElem?_eq_getElem hjl) _ _ hy
      have b := flat_at enc sz henc (xs.set i y) _ _ hx' _ _ hy
      rw [← hjm] at a b
      rw [a, b]
    · have hge  := by
        have := (Nat.le_div_iff_mul_le hpos).1 (Nat.le_of_not_lt hjl); exact this
      rw [List.getElem?_eq_none (by rw [flat_len enc sz henc]; exact hge), List.getElem?_eq_none (by rw [flat_len enc sz henc, List.length_set]; exact hge)]
section
variable {P : Program}
theorem den_clone {sT xT ty elem eT t : TypeId} {sz bytes : Nat} {z : Value} {h : Heap} {q : Option Addr} {n cq : Nat} {ds : List Value} {K : Value → Heap → Prop}
    (T : SlTy P sT elem sz bytes z) (hx : P.underlying xT = some (.slice eT)) (hq : Row h q ds) (hd : ds.length = n * sz) (hone : ∀ v ∈ ds, oneCell v = true) (hb : n * bytes ≤ 70368744177664) (hb2 : n ≤ 9223372036854775807)
    (hk : ∀ p' cap' h', Own h' p' n cap' sz ds → Fr (fun _ => False) h h' → (∀ c, inBlk p' c → h.size ≤ c) → K (.slice p' n cap') h') :
    NewP h (.cells #[] t) fun b h1 => denSem P (Builtin.append_ #[sT, xT] ty #[.slice (some ⟨b, 0, none⟩) 0 0, .slice q n cq]) h1 K := by
  refine newP_of ?_
  have f1 : Fr (fun _ => False) h (h.push (.cells #[] t)) := Fr.push _ _
  refine den_append (cs := []) T hx (.row h.size 0 #[] t rfl push_new (Nat.le_refl _) (by simp) (by simp) (fun j v hj => by cases hj)) (hq.frame f1 (fun _ _ => id)) hd hone (by simpa using hb) (by omega) ?_
  intro p' c' h' o1 _ f2 g
  rw [Nat.zero_add, List.nil_append] at o1
  rw [Nat.zero_add]
  refine hk p' c' h' o1 (f1.step f2 (fun c hc ⟨a, e, e2⟩ => by cases e; simp at e2; omega)) (fun x hx => ?_)
  rcases g x hx with ⟨a, e, rfl⟩ | h2
  · cases e; exact Nat.le_refl _
  · simp at h2; omega
end
theorem clone_all {P : Program} {sT xT ty elem eT t : TypeId} {sz bytes : Nat} {z : Value} {h : Heap} {p : Option Addr} {n c : Nat} {ds : List Value} {R : Value → Heap → Prop}
    (T : SlTy P sT elem sz bytes z) (hx : P.underlying xT = some (.slice eT)) (hs : 0 < sz) (hr : Row h p ds) (hd : ds.length = n * sz) (hone : ∀ v ∈ ds, oneCell v = true) (hb : n * bytes ≤ 70368744177664) (hb2 : n ≤ 9223372036854775807)
    (hk : ∀ p' c' h', Own h' p' n c' sz ds → Fr (fun _ => False) h h' → (∀ x, inBlk p' x → h.size ≤ x) → R (.slice p' n c') h') :
    if p.isNone = true then R (.slice none 0 0) h else NewP h (.cells #[] t) fun b h1 => denSem P (Builtin.append_ #[sT, xT] ty #[.slice (some ⟨b, 0, none⟩) 0 0, .slice p n c]) h1 fun v h2 => ∃ a l d, v = .slice a l d ∧ R (.slice a l d) h2 := by
  cases p with
  | none =>
    rcases hr with rfl | ⟨a, e, _⟩
    · obtain rfl : n = 0 := by
        cases n with
        | zero => rfl
        | succ n => rw [List.length_nil, Nat.succ_mul] at hd; omega
      exact hk none 0 h (.nil rfl rfl rfl rfl) (Fr.refl _ _) (fun x ⟨a, e, _⟩ => by cases e)
    · cases e
  | some a => exact den_clone T hx hr hd hone hb hb2 fun p' c' h' o f g => ⟨_, _, _, rfl, hk p' c' h' o f g⟩
end Go.Den
set_option linter.unusedSectionVars false
namespace Go.Den
section
variable {P : Program} {α : Type} [DecidableEq α]
structure KeyOk (P : Program) (kt : TypeId) (enc : α → Value) : Prop where
  eq : ∀ (a b : α) (h : Heap), rd P (Op.equal kt (enc a) (enc b)) h = some (decide (a = b))
  chk : ∀ (e : Bool) (a : α) (h : Heap), rd P (Instr.checkKey e 10000 kt (enc a)) h = some ()
  now : ∃ d, P.underlying kt = some d ∧ ∀ a b, Instr.sameNow d (enc a) (enc b) = none ∨ Instr.sameNow d (enc a) (enc b) = some (decide (a = b))
  bits : ∀ a, Instr.sameBits 10000 (enc a) (enc a) = true
abbrev ent (enc : α → Value) (t : α × Value × Nat) : MapEntry := ⟨enc t.1, t.2.1, t.2.2⟩
abbrev pr (t : α × Value × Nat) : α × Value := (t.1, t.2.1)
structure MapT (h : Heap) (m : Nat) (enc : α → Value) (T : List (α × Value × Nat)) (clock : Nat) : Prop where
  blk : h[m]? = some (.map (T.map (ent enc)).toArray clock)
  keys : (T.map (·.1)).Nodup
  old : ∀ t ∈ T, t.2.2 < clock
  born : (T.map (·.2.2)).Nodup
def MapP (h : Heap) (m : Nat) (enc : α → Value) (l : List (α × Value)) : Prop := ∃ T clock, MapT h m enc T clock ∧ (T.map pr).Perm l
def gdel (l : List (α × Value)) (k : α) : List (α × Value) := l.filter (fun e => !decide (e.1 = k))
def gput (l : List (α × Value)) (k : α) (v : Value) : List (α × Value) := (k, v) :: gdel l k
theorem MapP.of_get {h h' : Heap} {m : Nat} {enc : α → Value} {l : List (α × Value)} (H : MapP h m enc l) (he : h'[m]? = h[m]?) : MapP h' m enc l := by
  have ⟨T, c, ⟨a, b, d, e⟩, h2⟩ := H
  exact ⟨T, c, ⟨he.trans a, b, d, e⟩, h2⟩
theorem MapP.lt {h : Heap} {m : Nat} {enc : α → Value} {l : List (α × Value)} (H : MapP h m enc l) : m < h.size := by
  have ⟨T, c, h1, _⟩ := H; exact lt_of_get h1.blk
theorem MapP.frame {S : Nat → Prop} {h h' : Heap} {m : Nat} {enc : α → Value} {l : List (α × Value)} (H : MapP h m enc l) (hf : Fr S h h') (hn : ¬ S m) : MapP h' m enc l := H.of_get (hf.2 m H.lt hn)
theorem MapP.push (h : Heap) (enc : α → Value) : MapP (h.push (.map #[] 0)) h.size enc [] := ⟨[], 0, ⟨push_new, by simp, by simp, by simp⟩, .refl _⟩
theorem MapP.nodup {h : Heap} {m : Nat} {enc : α → Value} {l : List (α × Value)} (H : MapP h m enc l) : (l.map (·.1)).Nodup := by
  have ⟨T, c, h1, h2⟩ := H
  have h3 := h2.map (·.1)
  rw [List.map_map] at h3
  exact h3.nodup_iff.1 h1.keys
def findT (k : α) : List (α × Value × Nat) → Nat → Option (Nat × Value)
  | [], _ => none
  | t :: T, i => if k = t.1 then some (i, t.2.1) else findT k T (i + 1)
theorem findT_none {k : α} : ∀ {T : List (α × Value × Nat)} {i : Nat}, findT k T i = none → ∀ t ∈ T, t.1 ≠ k
  | [], _, _, _, ht => by cases ht
  | u :: T, i, h, t, ht => by
    unfold findT at h
    split at h
    · cases h
    · rename_i hne
      rcases List.mem_cons.1 ht with rfl | ht
      · grind
      · exact findT_none h t ht
theorem findT_some {k : α} : ∀ {T : List (α × Value × Nat)} {i j : Nat} {v : Value}, findT k T i = some (j, v) → ∃ A B b, T = A ++ (k, v, b) :: B ∧ j = i + A.length
  | [], _, _, _, h => by cases h
  | u :: T, i, j, v, h => by
    unfold findT at h
    split at h
    · rename_i he
      obtain ⟨rfl, rfl⟩ := h
      subst he
      exact ⟨[], T, u.2.2, rfl, rfl⟩
    · obtain ⟨A, B, b, rfl, rfl⟩ := findT_some h
      exact ⟨u :: A, B, b, rfl, by grind⟩
theorem findNow_ent {kt : TypeId} {enc : α → Value} {d : TypeDesc} (hd : ∀ a b, Instr.sameNow d (enc a) (enc b) = none ∨ Instr.sameNow d (enc a) (enc b) = some (decide (a = b))) (k : α) :
    ∀ (T : List (α × Value × Nat)) (i : Nat), Instr.findNow d (enc k) (T.map (ent enc)) i = none ∨ Instr.findNow d (enc k) (T.map (ent enc)) i = some (findT k T i)
  | [], i => .inr rfl
  | t :: T, i => by
    rw [List.map_cons]
    unfold Instr.findNow findT
    rcases hd k t.1 with e | e <;> rw [e]
    · simp
    · by_cases hk : k = t.1
      · grind
      · rw [decide_eq_false hk, if_neg hk]; exact findNow_ent (kt := kt) hd k T (i + 1)
theorem rd_asking {kt : TypeId} {enc : α → Value} (K : KeyOk P kt enc) (k : α) (h : Heap) : ∀ (T : List (α × Value × Nat)) (i : Nat), rd P (Instr.findAsking kt (enc k) (T.map (ent enc)) i) h = some (findT k T i)
  | [], i => rfl
  | t :: T, i => by
    rw [List.map_cons]
    unfold Instr.findAsking findT
    rw [rd_bind _ _ _ _ (K.eq k t.1 h)]
    by_cases hk : k = t.1
    · rw [decide_eq_true hk, if_pos hk, if_pos rfl]; rfl
    · rw [decide_eq_false hk, if_neg hk, if_neg (by simp)]; exact rd_asking K k h T (i + 1)
theorem rd_find {kt : TypeId} {enc : α → Value} (K : KeyOk P kt enc) (k : α) (h : Heap) (T : List (α × Value × Nat)) : rd P (Instr.findKey kt (enc k) (T.map (ent enc))) h = some (findT k T 0) := by
  have ⟨d, h1, h2⟩ := K.now
  unfold Instr.findKey
  rw [rd_bind _ _ _ _ (rd_underlying h1)]
  rcases findNow_ent (kt := kt) h2 k T 0 with e | e <;> rw [e]
  · exact rd_asking K k h T 0
  · rfl
structure MapKy (P : Program) (t : TypeId) (enc : α → Value) (z : Value) : Prop where
  ty : ∃ k e, P.underlying t = some (.map k e) ∧ KeyOk P k enc ∧ ∃ i, P.info? e = some i ∧ i.zero = some z
theorem MapKy.of {t : TypeId} {enc : α → Value} {z : Value} (k e : TypeId) (h1 : P.underlying t = some (.map k e)) (h2 : KeyOk P k enc) (h3 : (P.info? e).bind (·.zero) = some z) : MapKy P t enc z := by
  cases hi : P.info? e with
  | none => grind
  | some i => exact ⟨k, e, h1, h2, i, hi, by grind⟩
def gget (l : List (α × Value)) (k : α) : Option Value := (l.find? (fun e => decide (e.1 = k))).map (·.2)
theorem gget_none {l : List (α × Value)} {k : α} : gget l k = none ↔ ∀ e ∈ l, e.1 ≠ k := by
  unfold gget
  simp
theorem gget_some {l : List (α × Value)} {k : α} {v : Value} (hn : (l.map (·.1)).Nodup) : gget l k = some v ↔ (k, v) ∈ l := by
  induction l with
  | nil => simp [gget]
  | cons e l ih =>
    unfold gget at ih ⊢
    by_cases h : e.1 = k
    · grind
    · grind
theorem MapP.find {h : Heap} {m : Nat} {enc : α → Value} {l : List (α × Value)} (H : MapP h m enc l) {T : List (α × Value × Nat)} (hp : (T.map pr).Perm l) (k : α) : (findT k T 0).map (·.2) = gget l k := by
  cases e : findT k T 0 with
  | none =>
    symm
    rw [Option.map_none, gget_none]
    intro x hx
    obtain ⟨t, ht, rfl⟩ := List.mem_map.1 (hp.mem_iff.2 hx)
    exact findT_none e t ht
  | some jv =>
    obtain ⟨A, B, b, rfl, _⟩ := findT_some e
    symm
    rw [Option.map_some, gget_some H.nodup]
    exact hp.mem_iff.1 (by simp)
theorem lookP {t : TypeId} {enc : α → Value} {z : Value} (K : MapKy P t enc z) {h : Heap} {m : Nat} {l : List (α × Value)} (H : MapP h m enc l) (k : α) (ok : Bool) :
    rd P (Instr.lookup t (.map (some m)) (enc k) ok) h = some (if ok then .tuple #[(gget l k).getD z, .bool (gget l k).isSome] else (gget l k).getD z) := by
  have ⟨kt, e, ht, hk, i, hi, hz⟩ := K.ty
  have H0 := H
  have ⟨T, c, H, hp⟩ := H
  rw [← H0.find hp k]
  unfold Instr.lookup
  rw [rd_bind _ _ _ _ (rd_underlying ht)]
  rw [rd_bind _ _ _ _ (rd_getObj H.blk)]
  rw [rd_bind _ _ _ _ (rd_pure _), rd_bind _ _ _ _ (hk.chk _ k h), rd_bind _ _ _ _ (rd_find hk k h T)]
  cases hf : findT k T 0 with
  | none =>
    rw [rd_bind _ _ _ _ (rd_zeroValue hi hz)]
    cases ok <;> rfl
  | some jv => rfl
theorem lookV_P {t : TypeId} {enc : α → Value} {z : Value} (K : MapKy P t enc z) {h : Heap} {m : Nat} {l : List (α × Value)} (H : MapP h m enc l) (k : α) : LookV P t (.map (some m)) (enc k) false h ((gget l k).getD z) := fun h' hs => by
  have := lookP K (H.of_get hs) k false
  simpa using this
theorem lenV_P {t ty : TypeId} {enc : α → Value} {z : Value} (K : MapKy P t enc z) {h : Heap} {m : Nat} {l : List (α × Value)} (H : MapP h m enc l) : LenV P #[t] ty (.map (some m)) h (.int .i64 (l.length : Int)) := fun h' hs => by
  have ⟨kt, e, ht, _⟩ := K.ty
  have ⟨T, c, H, hp⟩ := H
  have hl : T.length = l.length := by rw [← hp.length_eq, List.length_map]
  show rd P (underlying t >>= _) h' = _
  rw [rd_bind _ _ _ _ (rd_underlying ht)]
  show rd P (getObj m >>= _) h' = _
  rw [rd_bind _ _ _ _ (rd_getObj (Eq.trans hs H.blk))]
  show some (goInt _) = _
  simp [hl, goInt]
theorem modify_mid {β : Type} (A B : List β) (t : β) (f : β → β) : (A ++ t :: B).modify A.length f = A ++ f t :: B := by
  induction A with
  | nil => rfl
  | cons a A ih => grind
theorem gdel_perm {l l' : List (α × Value)} (p : l.Perm l') (k : α) : (gdel l k).Perm (gdel l' k) := p.filter _
theorem gdel_mid {A B : List (α × Value × Nat)} {k : α} {v : Value} {b : Nat} (hn : ((A ++ (k, v, b) :: B).map (·.1)).Nodup) : gdel ((A ++ (k, v, b) :: B).map pr) k = (A ++ B).map pr := by
  rw [List.map_append, List.map_cons, List.nodup_append] at hn
  have ⟨_, h2, h3⟩ := hn
  rw [List.nodup_cons] at h2
  unfold gdel
  rw [List.map_append, List.map_cons, List.filter_append, List.filter_cons, if_neg (by simp), List.map_append]
  congr 1
  · rw [List.filter_eq_self]
    intro e he
    obtain ⟨t, ht, rfl⟩ := List.mem_map.1 he
    have := h3 t.1 (List.mem_map_of_mem ht) k (by simp)
    simp [this]
  · rw [List.filter_eq_self]
    intro e he
    obtain ⟨t, ht, rfl⟩ := List.mem_map.1 he
    have : t.1 ≠ k := fun e => h2.1 (List.mem_map.2 ⟨t, ht, e⟩)
    simp [this]
theorem gdel_none {l : List (α × Value)} {k : α} (hn : ∀ e ∈ l, e.1 ≠ k) : gdel l k = l := by
  unfold gdel
  rw [List.filter_eq_self]
  intro e he
  simp [hn e he]
theorem den_putP {t : TypeId} {enc : α → Value} {z : Value} (K : MapKy P t enc z) {h : Heap} {m : Nat} {l : List (α × Value)} (H : MapP h m enc l) {k : α} {v : Value} {Q : Unit → Heap → Prop}
    (hk : ∀ h', MapP h' m enc (gput l k v) → h'.size = h.size → (∀ c, c ≠ m → h'[c]? = h[c]?) → Q () h') : denSem P (Instr.mapUpdate t (.map (some m)) (enc k) v) h Q := by
  obtain ⟨kt, e, ht, hkt, _⟩ := K.ty
  obtain ⟨T, c, H, hp⟩ := H
  have hlt := lt_of_get H.blk
  unfold Instr.mapUpdate
  refine den_of_rd (rd_underlying ht) ?_
  simp only
  refine den_of_rd (rd_getObj H.blk) ?_
  simp only
  refine den_of_rd (hkt.chk _ k h) ?_
  have fin : ∀ (T' : List (α × Value × Nat)) (es' : Array MapEntry) (c' : Nat), es'.toList = T'.map (ent enc) → (T'.map (·.1)).Nodup → (∀ t ∈ T', t.2.2 < c') → (T'.map (·.2.2)).Nodup → (T'.map pr).Perm (gput l k v) → denSem P (setObj m (.map es' c')) h Q := fun T' es' c' h0 h1 h2 h3 h4 => by
    refine ⟨⟨_, H.blk, fun c e f he => by cases he⟩, ?_⟩
    refine hk _ ⟨T', c', ⟨?_, h1, h2, h3⟩, h4⟩ (by simp) (fun x hx => ?_)
    · rw [← h0]; simp [hlt]
    · rw [Array.getElem?_setIfInBounds, if_neg (Ne.symm hx)]
  refine den_of_rd (rd_find hkt k h T) ?_
  cases hf : findT k T 0 with
  | none =>
    simp only
    have hno := findT_none hf
    refine fin (T ++ [(k, v, c)]) _ _ (by simp) ?_ ?_ ?_ ?_
    · rw [List.map_append, List.nodup_append]
      refine ⟨H.keys, by simp, fun a ha b hb => ?_⟩
      obtain ⟨t, ht, rfl⟩ := List.mem_map.1 ha
      simp at hb; subst hb
      exact hno t ht
    · intro t ht
      rcases List.mem_append.1 ht with ht | ht
      · exact Nat.lt_succ_of_lt (H.old t ht)
      · obtain rfl := List.mem_singleton.1 ht; exact Nat.lt_succ_self _
    · rw [List.map_append, List.nodup_append]
      refine ⟨H.born, by simp, fun a ha b hb => ?_⟩
      obtain ⟨t, ht, rfl⟩ := List.mem_map.1 ha
      simp at hb; subst hb
      exact Nat.ne_of_lt (H.old t ht)
    · unfold gput
      rw [gdel_none (fun e he => by obtain ⟨t, ht, rfl⟩ := List.mem_map.1 (hp.mem_iff.2 he); exact hno t ht), List.map_append]
      exact (List.perm_append_comm.trans (.refl _)).trans (List.Perm.cons _ hp)
  | some jv =>
    obtain ⟨j, u⟩ := jv
    obtain ⟨A, B, b, rfl, hj⟩ := findT_some hf
    rw [Nat.zero_add] at hj
    subst hj
    simp only
    have hst : rd P (Instr.keyThatStays (((((A ++ (k, u, b) :: B).map (ent enc)).toArray[A.length]?).map (·.key)).getD (enc k)) (enc k)) h = some (enc k) := by
      have : ((A ++ (k, u, b) :: B).map (ent enc)).toArray[A.length]? = some (ent enc (k, u, b)) := by simp
      rw [this]
      simp only [Option.map_some, Option.getD_some]
      unfold Instr.keyThatStays
      rw [if_pos (hkt.bits k)]; rfl
    refine den_of_rd hst ?_
    refine fin (A ++ (k, v, b) :: B) _ _ ?_ ?_ ?_ ?_ ?_
    · rw [Array.toList_modify, List.map_append, List.map_cons]
      have := modify_mid (A.map (ent enc)) (B.map (ent enc)) (ent enc (k, u, b)) (fun e => { e with key := enc k, val := v })
      rw [List.length_map] at this
      rw [this, List.map_append, List.map_cons]
    · have := H.keys; simpa using this
    · intro t ht
      rcases List.mem_append.1 ht with ht | ht
      · exact H.old t (List.mem_append_left _ ht)
      · rcases List.mem_cons.1 ht with rfl | ht
        · exact H.old (k, u, b) (by simp)
        · exact H.old t (by simp [ht])
    · have := H.born; simpa using this
    · unfold gput
      refine List.Perm.trans ?_ (List.Perm.cons _ ((gdel_mid H.keys ▸ gdel_perm hp k)))
      rw [List.map_append, List.map_cons, List.map_append]
      exact List.perm_middle
end
end Go.Den
namespace Go.Den
section
variable {P : Program} {α : Type}
theorem den_rangeS {t : TypeId} {s : ByteArray} {h : Heap} {Q : Value → Heap → Prop} (ht : P.underlying t = some .string) (hk : ∀ r h', r = h.size → h'[r]? = some (.stringIter s 0) → Fr (fun _ => False) h h' → Q (.pointer (some ⟨r, 0, none⟩)) h') :
    denSem P (Instr.range t (.string s)) h Q := by
  refine den_of_rd (rd_underlying ht) (hk h.size _ rfl push_new (Fr.push _ _))
theorem den_nextS {ty : TypeId} {s : ByteArray} {h : Heap} {r pos : Nat} {Q : Value → Heap → Prop} (hr : h[r]? = some (.stringIter s pos)) (k1 : s.size ≤ pos → Q (.tuple #[.bool false]) h)
    (k2 : pos < s.size → ∀ h', h'[r]? = some (.stringIter s (pos + (Utf8.decode s pos).2)) → h'.size = h.size → (∀ c, c ≠ r → h'[c]? = h[c]?) → Q (.tuple #[.bool true, .int .i64 (pos : Int), .int .i32 ((Utf8.decode s pos).1 : Int)]) h') :
    denSem P (Instr.next (.pointer (some ⟨r, 0, none⟩)) true ty) h Q := by
  unfold Instr.next
  have hri : rd P (getObj r) h = some (.stringIter s pos) := by unfold getObj; simp only [rd, hr]
  refine den_of_rd hri ?_
  simp only
  by_cases hp : pos < s.size
  · rw [if_pos hp]
    refine ⟨⟨_, hr, fun _ _ _ e => by cases e⟩, (k2 hp _ (by simp [(lt_of_get hr)]) (by simp) (fun c hc => by grind))⟩
  · rw [if_neg hp]
    exact k1 (by omega)
end
end Go.Den
namespace Go.Den
section
variable {P : Program}
def eqStep (P : Program) (eq : TypeId → Value → Value → Option Bool) (xs ys : Array Value) (t : TypeId) (off : Nat) (acc : Option Bool) : Option Bool :=
  match runPure P (part t xs off), runPure P (part t ys off) with
  | some u, some v => (match eq t u v, acc with | some b, some c => some (b && c) | _, _ => none)
  | _, _ => none
def eqT (P : Program) : Nat → TypeId → Value → Value → Option Bool
  | 0, _, _, _ => none
  | n + 1, t, x, y =>
    match P.underlying t with
    | some .bool => (match x, y with | .bool a, .bool b => some (a == b) | _, _ => none)
    | some (.int _) => (match x, y with | .int k a, .int k' b => (match decide (k = k') with | true => some (a == b) | false => none) | _, _ => none)
    | some .string => (match x, y with | .string a, .string b => some (a == b) | _, _ => none)
    | some (.struct fs) => (match x, y with
      | .agg xs, .agg ys => (match P.stoodInHeld t with
        | true => none
        | false => fs.toList.foldr (fun f acc => match decide (f.name = "_") with | true => acc | false => eqStep P (eqT P n) xs ys f.type f.offset acc) (some true))
      | _, _ => none)
    | some (.array len e) => (match x, y, P.info? e with
      | .agg xs, .agg ys, some i => (List.range len).foldr (fun k acc => eqStep P (eqT P n) xs ys e (k * i.size) acc) (some true)
      | _, _, _ => none)
    | _ => none
theorem rd_forAll {β : Type} {h : Heap} {step : β → Option Bool → Option Bool} {body : β → Option Bool × Unit → Sem (ForInStep (Option Bool × Unit))} : ∀ (l : List β) (b : Bool), l.foldr step (some true) = some b →
    (∀ f acc b, step f acc = some b → (acc = some b ∧ rd P (body f (none, ())) h = some (.yield (none, ()))) ∨ ∃ q c, acc = some c ∧ b = (q && c) ∧ rd P (body f (none, ())) h = some (if q = true then .yield (none, ()) else .done (some false, ()))) →
    rd P (forIn l (none, ()) body) h = some (if b = true then (none, ()) else (some false, ()))
  | [], b, hb, _ => by
    cases Option.some.inj hb; rfl
  | f :: l, b, hb, hs => by
    rw [List.forIn_cons]
    rcases hs f _ b hb with ⟨h1, h2⟩ | ⟨q, c, h1, rfl, h2⟩
    · rw [rd_bind _ _ _ _ h2]
      exact rd_forAll l b h1 hs
    · rw [rd_bind _ _ _ _ h2]
      cases q with
      | true => exact rd_forAll l c h1 hs
      | false => rfl
theorem eqStep_ok {eq : TypeId → Value → Value → Option Bool} {n : Nat} (heq : ∀ t x y b, eq t x y = some b → ∀ h, rd P (Op.equalIn n t x y) h = some b) {xs ys : Array Value} {t : TypeId} {off : Nat} {acc : Option Bool} {b : Bool} {h : Heap} (hh : eqStep P eq xs ys t off acc = some b) :
    ∃ q c u v, acc = some c ∧ b = (q && c) ∧ rd P (part t xs off) h = some u ∧ rd P (part t ys off) h = some v ∧ rd P (Op.equalIn n t u v) h = some q := by
  unfold eqStep at hh
  split at hh
  · rename_i u v hu hv
    split at hh
    · rename_i q c hq
      exact ⟨q, c, u, v, rfl, (Option.some.inj hh).symm, runPure_rd _ _ hu h, runPure_rd _ _ hv h, heq _ _ _ _ hq h⟩
    · cases hh
  · cases hh
theorem eqT_ok : ∀ (n : Nat) (t : TypeId) (x y : Value) (b : Bool), eqT P n t x y = some b → ∀ h, rd P (Op.equalIn n t x y) h = some b
  | 0, _, _, _, _, hh => by cases hh
  | n + 1, t, x, y, b, hh => by
    intro h
    unfold eqT at hh
    unfold Op.equalIn
    split at hh
    · rename_i hu
      rw [rd_bind _ _ _ _ (rd_underlying hu)]
      split at hh
      · rw [← hh]; rfl
      · cases hh
    · rename_i d hu
      rw [rd_bind _ _ _ _ (rd_underlying hu)]
      split at hh
      · rename_i k a k' c
        split at hh
        · rename_i hk
          simp only [of_decide_eq_true hk, if_true]
          rw [← hh]; rfl
        · cases hh
      · cases hh
    · rename_i hu
      rw [rd_bind _ _ _ _ (rd_underlying hu)]
      split at hh
      · rw [← hh]; rfl
      · cases hh
    · rename_i fs hu
      rw [rd_bind _ _ _ _ (rd_underlying hu)]
      split at hh
      · rename_i xs ys
        split at hh
        · cases hh
        · rename_i hst
          dsimp only
          rw [rd_bind _ _ _ _ (show rd P program h = some P from rfl), hst]
          simp only [Bool.false_eq_true, if_false]
          rw [← Array.forIn_toList, rd_bind _ _ _ _ (rd_forAll (h := h) fs.toList b hh ?_)]
          · cases b <;> rfl
          · intro f acc b hs
            split at hs
            · rename_i he
              refine .inl ⟨hs, ?_⟩
              rw [if_neg (by grind)]
              rfl
            · rename_i he
              obtain ⟨q, c, u, v, h1, h2, h3, h4, h5⟩ := eqStep_ok (h := h) (fun t x y b hb h => eqT_ok n t x y b hb h) hs
              refine .inr ⟨q, c, h1, h2, ?_⟩
              rw [if_pos (by grind), rd_bind _ _ _ _ h3, rd_bind _ _ _ _ h4, rd_bind _ _ _ _ h5]
              cases q <;> rfl
      · cases hh
    · rename_i len e hu
      rw [rd_bind _ _ _ _ (rd_underlying hu)]
      split at hh
      · rename_i xs ys i hi
        dsimp only
        rw [rd_bind _ _ _ _ (rd_sizeOf hi), Std.Legacy.Range.forIn_eq_forIn_range']
        have hr : List.range' ([:len] : Std.Legacy.Range).start ([:len] : Std.Legacy.Range).size ([:len] : Std.Legacy.Range).step = List.range len := by
          simp [Std.Legacy.Range.size, List.range_eq_range']
        rw [hr, rd_bind _ _ _ _ (rd_forAll (h := h) (List.range len) b hh ?_)]
        · cases b <;> rfl
        · intro k acc b hs
          obtain ⟨q, c, u, v, h1, h2, h3, h4, h5⟩ := eqStep_ok (h := h) (fun t x y b hb h => eqT_ok n t x y b hb h) hs
          refine .inr ⟨q, c, h1, h2, ?_⟩
          rw [rd_bind _ _ _ _ h3, rd_bind _ _ _ _ h4, rd_bind _ _ _ _ h5]
          cases q <;> rfl
      · cases hh
    · cases hh
theorem EqV.of {t : TypeId} {x y : Value} {b : Bool} (hh : eqT P 10000 t x y = some b) : EqV P t x y b := fun h => eqT_ok 10000 t x y b hh h
end
end Go.Den
