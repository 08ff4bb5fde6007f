/-
  What is proved here: a heap-level reading of the model's operations and code ('den') is enough for the model's own 'Calls' (soundness). No condition.
-/
import Derived.OrdersHeld
import Derived.Scope
import Derived.KernelRfl
namespace Go.Den

abbrev Heap := Array Obj
abbrev Env := Nat → Option Value

/-! ### heaps -/
def hcell (h : Heap) (a : Addr) : Option Value :=
  match h[a.block]? with
  | some (.cells c _ _) => if a.spot.isSome then none else c[a.off]?
  | _ => none
def hshape (h : Heap) (r : Nat) : Option (TypeId × Nat) :=
  match h[r]? with
  | some (.cells c elem _) => some (elem, c.size)
  | _ => none
def hfrozen (h : Heap) (a : Addr) : Bool :=
  match h[a.block]? with
  | some (.cells _ _ (lo, hi)) => lo ≤ a.off && a.off < hi
  | _ => false
def hfreeze (h : Heap) (a : Addr) (n : Nat) : Heap :=
  if n = 0 then h else
  h.modify a.block fun
      | .cells c elem (lo, hi) => .cells c elem (if lo == hi then (a.off, a.off + n) else (min lo a.off, max hi (a.off + n)))
      | o => o
def hset (h : Heap) (a : Addr) (v : Value) : Heap :=
  h.modify a.block fun
      | .cells c elem frozen => .cells (if a.spot.isSome then c else c.setIfInBounds a.off v) elem frozen
      | o => o

theorem cell_eq (w : World) (a : Addr) : w.cell? a = hcell w.heap a := rfl
theorem shape_eq (w : World) (r : Nat) : w.shape? r = hshape w.heap r := rfl
theorem frozen_eq (w : World) (a : Addr) : w.frozen? a = hfrozen w.heap a := rfl
theorem set_eq (w : World) (a : Addr) (v : Value) : (w.setCell a v).heap = hset w.heap a v := rfl
theorem freeze_eq (w : World) (a : Addr) (n : Nat) : (w.freeze a n).heap = hfreeze w.heap a n := by
  unfold World.freeze hfreeze; split <;> rfl

def Same (w w' : World) : Prop := w'.os = w.os ∧ w'.output = w.output ∧ w'.tape = w.tape
theorem Same.refl (w : World) : Same w w := ⟨rfl, rfl, rfl⟩
theorem Same.trans {a b c : World} (h : Same a b) (h' : Same b c) : Same a c := ⟨h'.1.trans h.1, h'.2.1.trans h.2.1, h'.2.2.trans h.2.2⟩

def oneCell : Value → Bool
  | .agg _ | .tuple _ => false
  | _ => true

/-! ### what an operation asks, read off its tree -/
def denSem (P : Program) {α : Type} : Sem α → Heap → (α → Heap → Prop) → Prop
  | .pure a, h, K => K a h
  | .load _ a k, h, K => ∃ v, hcell h a = some v ∧ denSem P (k v) h K
  | .store _ a v k, h, K => oneCell v = true ∧ (hcell h a).isSome = true ∧ hfrozen h a = false ∧ denSem P k (hset h a v) K
  | .new o k, h, K => denSem P (k h.size) (h.push o) K
  | .shape r k, h, K => denSem P (k (hshape h r)) h K
  | .freeze a n k, h, K => denSem P k (hfreeze h a n) K
  | .frozen a k, h, K => denSem P (k (hfrozen h a)) h K
  | .getObj r k, h, K => ∃ o, h[r]? = some o ∧ (∀ c e f, o ≠ .cells c e f) ∧ denSem P (k o) h K
  | .setObj r o k, h, K => (∃ o', h[r]? = some o' ∧ (∀ c e f, o' ≠ .cells c e f)) ∧ denSem P k (h.setIfInBounds r o) K
  | .choose q k, h, K => if q.forced = true then denSem P (k 0) h K else ∀ t, denSem P (k (q.cut t)) h K
  | .sys _ _, _, _ => False
  | .program k, h, K => denSem P (k P) h K
  | .mark _ k, h, K => denSem P k h K
  | .halt _, _, _ => False

theorem denSem_mono {P : Program} {α : Type} (s : Sem α) : ∀ (h : Heap) {K K' : α → Heap → Prop}, (∀ a h, K a h → K' a h) → denSem P s h K → denSem P s h K' := by
  induction s with
  | pure a => intro h K K' hk hh; exact hk _ _ hh
  | load m a k ih => intro h K K' hk hh; obtain ⟨v, h1, h2⟩ := hh; exact ⟨v, h1, ih v h hk h2⟩
  | store m a v k ih => intro h K K' hk hh; obtain ⟨h1, h2, h3, h4⟩ := hh; exact ⟨h1, h2, h3, ih _ hk h4⟩
  | new o k ih => intro h K K' hk hh; exact ih _ _ hk hh
  | shape r k ih => intro h K K' hk hh; exact ih _ _ hk hh
  | freeze a n k ih => intro h K K' hk hh; exact ih _ hk hh
  | frozen a k ih => intro h K K' hk hh; exact ih _ _ hk hh
  | getObj r k ih => intro h K K' hk hh; obtain ⟨o, h1, h2, h3⟩ := hh; exact ⟨o, h1, h2, ih _ _ hk h3⟩
  | setObj r o k ih => intro h K K' hk hh; exact ⟨hh.1, ih _ hk hh.2⟩
  | choose q k ih =>
    intro h K K' hk hh
    unfold denSem at hh ⊢
    split
    · rename_i hq; rw [if_pos hq] at hh; exact ih _ _ hk hh
    · rename_i hq; rw [if_neg hq] at hh; exact fun t => ih _ _ hk (hh t)
  | sys c k ih => intro h K K' hk hh; exact hh
  | program k ih => intro h K K' hk hh; exact ih _ _ hk hh
  | mark m k ih => intro h K K' hk hh; exact ih _ hk hh
  | halt x => intro h K K' hk hh; exact hh

theorem denSem_bind {P : Program} {α β : Type} (s : Sem α) (f : α → Sem β) : ∀ (h : Heap) (K : β → Heap → Prop), denSem P (s.bind f) h K ↔ denSem P s h (fun a h' => denSem P (f a) h' K) := by
  induction s with
  | pure a => intro h K; exact Iff.rfl
  | load m a k ih => intro h K; simp only [Sem.bind, denSem, ih]
  | store m a v k ih => intro h K; simp only [Sem.bind, denSem, ih]
  | new o k ih => intro h K; simp only [Sem.bind, denSem, ih]
  | shape r k ih => intro h K; simp only [Sem.bind, denSem, ih]
  | freeze a n k ih => intro h K; simp only [Sem.bind, denSem, ih]
  | frozen a k ih => intro h K; simp only [Sem.bind, denSem, ih]
  | getObj r k ih => intro h K; simp only [Sem.bind, denSem, ih]
  | setObj r o k ih => intro h K; simp only [Sem.bind, denSem, ih]
  | choose q k ih => intro h K; simp only [Sem.bind, denSem, ih]
  | sys c k ih => intro h K; simp only [Sem.bind, denSem]
  | program k ih => intro h K; simp only [Sem.bind, denSem, ih]
  | mark m k ih => intro h K; simp only [Sem.bind, denSem, ih]
  | halt x => intro h K; simp only [Sem.bind, denSem]

theorem denSem_sound {P : Program} {α : Type} (s : Sem α) : ∀ (h : Heap) (K : α → Heap → Prop), denSem P s h K →
    ∀ w : World, w.heap = h → ∃ a w', s.run P w = .ok a w' ∧ K a w'.heap ∧ Same w w' := by
  induction s with
  | pure a => intro h K hh w hw; subst hw; exact ⟨a, w, rfl, hh, Same.refl w⟩
  | load m a k ih =>
    intro h K hh w hw; subst hw
    obtain ⟨v, h1, h2⟩ := hh
    obtain ⟨x, w', r1, r2⟩ := ih v _ _ h2 w rfl
    exact ⟨x, w', by simp [Sem.run, cell_eq, h1, r1], r2⟩
  | store m a v k ih =>
    intro h K hh w hw; subst hw
    obtain ⟨h1, h2, h3, h4⟩ := hh
    obtain ⟨u, hu⟩ := Option.isSome_iff_exists.1 h2
    obtain ⟨x, w', r1, r2, r3⟩ := ih _ _ h4 (w.setCell a v) (set_eq w a v)
    refine ⟨x, w', ?_, r2, r3⟩
    rw [← cell_eq] at hu
    rw [← frozen_eq] at h3
    cases v <;> simp [oneCell] at h1 <;> simp [Sem.run, hu, h3, r1]
  | new o k ih =>
    intro h K hh w hw; subst hw
    obtain ⟨x, w', r1, r2, r3⟩ := ih _ _ _ hh { w with heap := w.heap.push o } rfl
    exact ⟨x, w', r1, r2, r3⟩
  | shape r k ih =>
    intro h K hh w hw; subst hw
    obtain ⟨x, w', r1, r2⟩ := ih _ _ _ hh w rfl
    exact ⟨x, w', by rw [← shape_eq] at r1; simp [Sem.run, r1], r2⟩
  | freeze a n k ih =>
    intro h K hh w hw; subst hw
    obtain ⟨x, w', r1, r2, r3⟩ := ih _ _ hh (w.freeze a n) (freeze_eq w a n)
    refine ⟨x, w', by simp [Sem.run, r1], r2, ?_⟩
    refine Same.trans ?_ r3
    unfold World.freeze; split <;> exact ⟨rfl, rfl, rfl⟩
  | frozen a k ih =>
    intro h K hh w hw; subst hw
    obtain ⟨x, w', r1, r2⟩ := ih _ _ _ hh w rfl
    exact ⟨x, w', by rw [← frozen_eq] at r1; simp [Sem.run, r1], r2⟩
  | getObj r k ih =>
    intro h K hh w hw; subst hw
    obtain ⟨o, h1, h2, h3⟩ := hh
    obtain ⟨x, w', r1, r2⟩ := ih _ _ _ h3 w rfl
    refine ⟨x, w', ?_, r2⟩
    cases o <;> first | exact absurd rfl (h2 _ _ _) | simp [Sem.run, h1, r1]
  | setObj r o k ih =>
    intro h K hh w hw; subst hw
    obtain ⟨⟨o', h1, h2⟩, h3⟩ := hh
    obtain ⟨x, w', r1, r2, r3⟩ := ih _ _ h3 { w with heap := w.heap.setIfInBounds r o } rfl
    refine ⟨x, w', ?_, r2, r3⟩
    cases o' <;> first | exact absurd rfl (h2 _ _ _) | simp [Sem.run, h1, r1]
  | choose q k ih =>
    intro h K hh w hw; subst hw
    unfold denSem at hh
    split at hh
    · rename_i hq
      obtain ⟨x, w', r1, r2⟩ := ih _ _ _ hh w rfl
      exact ⟨x, w', by simp [Sem.run, hq, r1], r2⟩
    · rename_i hq
      obtain ⟨x, w', r1, r2, r3⟩ := ih _ _ _ (hh (w.tape w.drawn q)) { w with drawn := w.drawn + 1 } rfl
      exact ⟨x, w', by simp only [Sem.run, if_neg hq]; exact r1, r2, r3⟩
  | sys c k ih => intro h K hh; exact hh.elim
  | program k ih =>
    intro h K hh w hw; subst hw
    obtain ⟨x, w', r1, r2⟩ := ih _ _ _ hh w rfl
    exact ⟨x, w', by simp [Sem.run, r1], r2⟩
  | mark m k ih =>
    intro h K hh w hw; subst hw
    obtain ⟨x, w', r1, r2⟩ := ih _ _ hh w rfl
    exact ⟨x, w', by simp [Sem.run, r1], r2⟩
  | halt x => intro h K hh; exact hh.elim

/-- what a tree that only reads yields -/
def rd (P : Program) {α : Type} : Sem α → Heap → Option α
  | .pure a, _ => some a
  | .load _ a k, h => (match hcell h a with | some v => rd P (k v) h | none => none)
  | .shape r k, h => rd P (k (hshape h r)) h
  | .frozen a k, h => rd P (k (hfrozen h a)) h
  | .getObj r k, h => (match h[r]? with | some (.cells _ _ _) => none | some o => rd P (k o) h | none => none)
  | .program k, h => rd P (k P) h
  | .mark _ k, h => rd P k h
  | _, _ => none
theorem rd_den {P : Program} {α : Type} (s : Sem α) : ∀ (h : Heap) (a : α), rd P s h = some a → ∀ K : α → Heap → Prop, K a h → denSem P s h K := by
  induction s with
  | pure b => intro h a e K hk; simp only [rd, Option.some.injEq] at e; subst e; exact hk
  | load m b k ih =>
    intro h a e K hk
    simp only [rd] at e
    split at e
    · rename_i v hv; exact ⟨v, hv, ih v h a e K hk⟩
    · cases e
  | shape r k ih => intro h a e K hk; exact ih _ h a e K hk
  | frozen b k ih => intro h a e K hk; exact ih _ h a e K hk
  | getObj r k ih =>
    intro h a e K hk
    simp only [rd] at e
    split at e
    · cases e
    · rename_i o hne ho
      exact ⟨o, ho, fun c e f hc => hne c e f (hc ▸ rfl), ih _ h a e K hk⟩
    · cases e
  | program k ih => intro h a e K hk; exact ih _ h a e K hk
  | mark m k ih => intro h a e K hk; exact ih h a e K hk
  | _ => intro h a e; simp [rd] at e
theorem rd_run {P : Program} {α : Type} (s : Sem α) : ∀ (w : World) (a : α), rd P s w.heap = some a → s.run P w = .ok a w := by
  induction s with
  | pure b => intro w a e; simp only [rd, Option.some.injEq] at e; subst e; rfl
  | load m b k ih =>
    intro w a e
    simp only [rd] at e
    split at e
    · rename_i v hv; rw [← cell_eq] at hv; simp only [Sem.run, hv]; exact ih v w a e
    · cases e
  | shape r k ih => intro w a e; exact ih _ w a e
  | frozen b k ih => intro w a e; exact ih _ w a e
  | getObj r k ih =>
    intro w a e
    simp only [rd] at e
    split at e
    · cases e
    · rename_i o hne ho
      cases o <;> first | exact absurd rfl (hne _ _ _) | (simp only [Sem.run, ho]; exact ih _ w a e)
    · cases e
  | program k ih => intro w a e; exact ih _ w a e
  | mark m k ih => intro w a e; exact ih w a e
  | _ => intro w a e; simp [rd] at e
theorem rd_bind {P : Program} {α β : Type} (s : Sem α) (f : α → Sem β) : ∀ (h : Heap) (a : α), rd P s h = some a → rd P (s >>= f) h = rd P (f a) h := by
  show ∀ (h : Heap) (a : α), rd P s h = some a → rd P (s.bind f) h = rd P (f a) h
  induction s with
  | pure b => intro h a e; simp only [rd, Option.some.injEq] at e; subst e; rfl
  | load m b k ih =>
    intro h a e
    simp only [rd] at e
    split at e
    · rename_i v hv; simp only [Sem.bind, rd, hv]; exact ih v h a e
    · cases e
  | shape r k ih => intro h a e; exact ih _ h a e
  | frozen b k ih => intro h a e; exact ih _ h a e
  | getObj r k ih =>
    intro h a e
    simp only [rd] at e
    split at e
    · cases e
    · rename_i o hne ho
      cases o <;> first | exact absurd rfl (hne _ _ _) | (simp only [Sem.bind, rd, ho]; exact ih _ h a e)
    · cases e
  | program k ih => intro h a e; exact ih _ h a e
  | mark m k ih => intro h a e; exact ih h a e
  | _ => intro h a e; simp [rd] at e

/-- A call, on heaps: it returns, and nothing but the heap (and the count of draws) has changed. -/
def CallsH (P : Program) (f : FuncId) (args : Array Value) (h : Heap) (R : Value → Heap → Prop) : Prop :=
  ∀ w : World, w.heap = h → Calls P f args w (fun e w' => ∃ v, e = .returned v ∧ R v w'.heap ∧ Same w w')

theorem CallsH.mono {P : Program} {f : FuncId} {args : Array Value} {h : Heap} {R R' : Value → Heap → Prop} (hh : CallsH P f args h R) (hr : ∀ v h', R v h' → R' v h') : CallsH P f args h R' :=
  fun w hw => (hh w hw).mono fun _ _ ⟨v, he, hR, hs⟩ => ⟨v, he, hr _ _ hR, hs⟩

def nextK (P : Program) (K : Value → Heap → Prop) : Next → Heap → Prop
  | .value v, h => K v h
  | .skip, h => K undef h
  | .enter f args, h => CallsH P f args h K
  | _, _ => False

/-- what an operation asks -/
def OpWp (P : Program) (o : Oper) (ρ : Operand → Value) (h : Heap) (K : Value → Heap → Prop) : Prop :=
  denSem P (execOp ρ o) h (nextK P K)

theorem OpWp.wp {P : Program} {o : Oper} {a : Act} {w : World} {K : Value → Heap → Prop} {next : Act → World → Prop} {Q : Exit → Act → World → Prop}
    (hh : OpWp P o a.eval w.heap K) (hn : ∀ v w', K v w'.heap → Same w w' → next (a.put o.dst v) w') : o.wp P a w next Q := by
  obtain ⟨x, w', r1, r2, r3⟩ := denSem_sound _ _ _ hh w rfl
  unfold Oper.wp
  rw [r1]
  cases x with
  | value v => exact hn _ _ r2 r3
  | skip => exact hn _ _ r2 r3
  | enter f args =>
    refine (r2 w' rfl).mono ?_
    rintro e w'' ⟨v, rfl, hR, hs⟩
    exact hn _ _ hR (r3.trans hs)
  | _ => exact r2.elim

end Go.Den
