/-
  What is proved here: rows of records (slices of slices of bytes) in memory. No condition.
-/
import Derived.Test.YtgccegnmggjkjaaDoorWriter
import Derived.Test.YtgccegnmggjkjaaDoorSep
set_option maxRecDepth 100000
namespace Go.Proofs.YtgccegnmggjkjaaDoor
open Go.Den Go.Fields
namespace Fld
variable {h h' h0 : Heap} {R : Value → Heap → Prop} {p q : Option Addr} {l c : Nat} {bs : List (List UInt8)}

abbrev nenc (n : BV) : List Value := [n.val]
theorem tN : SlTy Tryd.prog T.s_s_uint8 T.s_uint8 1 24 (.slice none 0 0) := ⟨by kernel_rfl, by kernel_rfl, rfl⟩
theorem uN : Tryd.prog.underlying T.s_s_uint8 = some (.slice T.s_uint8) := by kernel_rfl
theorem nenc_len (n : BV) : (nenc n).length = 1 := rfl
theorem nenc_one (xs : List BV) : ∀ v ∈ xs.flatMap nenc, oneCell v = true := by
  intro v hv
  obtain ⟨a, _, ha⟩ := List.mem_flatMap.1 hv
  simp at ha
  subst ha; rfl

/-- records that were written behind h0 -/
def BL (h0 h : Heap) (p : Option Addr) (l c : Nat) (bs : List (List UInt8)) : Prop :=
  ∃ (xs : List BV) (D : Nat → Prop), l = xs.length ∧ Own h p l c 1 (xs.flatMap nenc) ∧ xs.map BV.b = bs ∧ (∀ x ∈ xs, x.ok h D) ∧ (∀ y, D y → h0.size ≤ y ∧ y < h.size ∧ ¬ inBlk p y) ∧ ∀ y, inBlk p y → h0.size ≤ y
theorem BL.nil : BL h0 h none 0 0 [] := ⟨[], fun _ => False, rfl, .nil rfl rfl rfl rfl, rfl, (fun x hx => by cases hx), (fun y hy => hy.elim), fun y ⟨a, e, _⟩ => by cases e⟩
theorem BL.on (H : BL h0 h p l c bs) (f : Fr (fun _ => False) h h') : BL h0 h' p l c bs := by
  obtain ⟨xs, D, h1, h2, h3, h4, h5, h6⟩ := H
  exact ⟨xs, D, h1, h2.frame f (fun _ _ => id), h3, fun x hx => (h4 x hx).frame f (fun _ _ => id), fun y hy => ⟨(h5 y hy).1, Nat.lt_of_lt_of_le (h5 y hy).2.1 f.1, (h5 y hy).2.2⟩, h6⟩
theorem BL.len (H : BL h0 h p l c bs) : l = bs.length := by
  obtain ⟨xs, D, h1, _, h3, _⟩ := H
  rw [h1, ← h3, List.length_map]
theorem BL.lt (H : BL h0 h p l c bs) {y : Nat} (hy : inBlk p y) : y < h.size := by
  obtain ⟨xs, D, _, h2, _⟩ := H
  exact h2.blk_lt hy
theorem BL.mono {h1 : Heap} (H : BL h1 h p l c bs) (hz : h0.size ≤ h1.size) : BL h0 h p l c bs := by
  obtain ⟨xs, D, h1, h2, h3, h4, h5, h6⟩ := H
  exact ⟨xs, D, h1, h2, h3, h4, fun y hy => ⟨Nat.le_trans hz (h5 y hy).1, (h5 y hy).2⟩, fun y hy => Nat.le_trans hz (h6 y hy)⟩
/-- one record more -/
theorem BL.push {b : List UInt8} {q' : Option Addr} {d : Nat} {K : Value → Heap → Prop} (H : BL h0 h p l c bs) (up : h0.size ≤ h.size) (o : Own h q' b.length d 1 (bc b)) (hq : ∀ y, inBlk q' y → h0.size ≤ y ∧ ¬ inBlk p y) (hl : l ≤ 1000000)
    (hk : ∀ p' c' h', BL h0 h' p' (l + 1) c' (bs ++ [b]) → Fr (inBlk p) h h' → (∀ y, inBlk p' y → inBlk p y ∨ h.size ≤ y) → K (.slice p' (l + 1) c') h') :
    NewP h (.cells #[.slice q' b.length d] T.s_uint8) fun b' h1 => denSem Tryd.prog (Builtin.append_ #[T.s_s_uint8, T.s_s_uint8] T.s_s_uint8 #[.slice p l c, .slice (some ⟨b', 0, none⟩) 1 1]) h1 K := by
  obtain ⟨xs, D, h1, h2, h3, h4, h5, h6⟩ := H
  refine den_append1 tN uN h2 rfl (fun v hv => by simp at hv; subst hv; rfl) (by omega) (by omega) ?_
  intro p' c' h' o' f' g'
  have lt : ∀ y, inBlk q' y → y < h.size := fun y hy => o.blk_lt hy
  refine hk p' c' h' ⟨xs ++ [⟨q', d, b⟩], fun y => D y ∨ inBlk q' y, by rw [List.length_append, h1]; rfl, ?_, ?_, ?_, ?_, ?_⟩ f' g'
  · rw [List.flatMap_append]; simpa using o'
  · rw [List.map_append, h3]; rfl
  · intro x hx
    rcases List.mem_append.1 hx with hx | hx
    · exact ((h4 x hx).frame f' (fun y hy => (h5 y hy).2.2)).mono (fun y => .inl)
    · simp at hx; subst hx
      exact BV.of_own (o.frame f' (fun y hy => (hq y hy).2)) (fun y => .inr)
  · have z := f'.1
    rintro y (hy | hy)
    · exact ⟨(h5 y hy).1, by have := (h5 y hy).2.1; omega, fun hx => (g' y hx).elim (h5 y hy).2.2 (fun h2 => by have := (h5 y hy).2.1; omega)⟩
    · exact ⟨(hq y hy).1, by have := lt y hy; omega, fun hx => (g' y hx).elim (hq y hy).2 (fun h2 => by have := lt y hy; omega)⟩
  · intro y hy
    rcases g' y hy with h2 | h2
    · exact h6 y h2
    · omega
/-- what records say, row by row -/
theorem BL.rows (H : BL h0 h p l c bs) : ∃ xs : List BV, l = xs.length ∧ Row h p (xs.flatMap nenc) ∧ xs.map BV.b = bs ∧ l ≤ c ∧ ∀ x ∈ xs, Row h x.p (bc x.b) := by
  obtain ⟨xs, D, h1, h2, h3, h4, h5, h6⟩ := H
  exact ⟨xs, h1, h2.row', h3, h2.le, fun x hx => (h4 x hx).row⟩
end Fld
end Go.Proofs.YtgccegnmggjkjaaDoor
