/-
  What is proved here: 'append(nil, make([]E, n)...)' on heaps. No condition.
-/
import Derived.Test.YtlonfpolnmiglaaSep
namespace Go.Den
section
variable {P : Program}
theorem den_grow {sT xT ty elem : TypeId} {sz bytes : Nat} {z : Value} {h : Heap} {n : Nat} {K : Value → Heap → Prop}
    (T : SlTy P sT elem sz bytes z) (hx : P.underlying xT = some (.int .i64)) (hn : 0 < n) (hb : n * bytes ≤ 70368744177664) (hb2 : n ≤ 4611686018427387904)
    (hk : ∀ cap' h', Own h' (some ⟨h.size, 0, none⟩) 0 cap' sz [] → n ≤ cap' → Fr (fun _ => False) h h' → K (.slice (some ⟨h.size, 0, none⟩) n cap') h') :
    denSem P (Builtin.append_ #[sT, xT] ty #[.slice none 0 0, .int .i64 (n : Int)]) h K := by
  obtain ⟨i, hi, rfl, rfl, hz⟩ := T.i
  have hsz := T.zs
  unfold Builtin.append_
  refine den_of_rd (s := underlying sT) (rd_underlying T.u) ?_
  refine den_of_rd (s := sizeOf elem) (rd_sizeOf hi) ?_
  refine den_of_rd (s := underlying xT) (rd_underlying hx) ?_
  refine den_of_rd (s := (pure true : Sem Bool)) (a := true) rfl ?_
  have hw : IntKind.wrap .i64 (n : Int) = (n : Int) := wrap_id (by omega) (by omega)
  refine den_of_rd (s := asInt (.int .i64 (n : Int))) (a := (n : Int)) rfl ?_
  show denSem P (if IntKind.wrap .i64 (n : Int) < 0 then _ else _) h K
  rw [if_neg (by rw [hw]; omega)]
  refine den_of_rd (s := typeInfo elem) (rd_typeInfo hi) ?_
  show denSem P (if IntKind.wrap .i64 (n : Int) * (i.bytes : Int) > 2 ^ 48 then _ else _) h K
  have hbi : (n : Int) * (i.bytes : Int) = ((n * i.bytes : Nat) : Int) := by simp
  rw [if_neg (by rw [hw, hbi]; omega)]
  refine den_of_rd (s := (pure (IntKind.wrap .i64 (n : Int)).toNat : Sem Nat)) (a := n) (by rw [hw]; rfl) ?_
  show denSem P (if 0 + n ≤ 0 then _ else _) h K
  rw [if_neg (by omega)]
  refine den_of_rd (s := typeInfo elem) (rd_typeInfo hi) ?_
  show denSem P (if (((0 + n : Nat) : Int) > IntKind.max .i64 ∧ (true = true ∨ i.bytes = 0)) then _ else _) h K
  have hmax : IntKind.max .i64 = 9223372036854775807 := rfl
  rw [if_neg (by rw [hmax]; omega)]
  refine den_of_rd (s := typeInfo elem) (rd_typeInfo hi) ?_
  have hle := nextslicecap_le (need := 0 + n) (cap := 0) (by omega)
  have hnext : ¬ (Builtin.nextslicecap (0 + n) 0 * i.bytes > 2 ^ 48) := by
    have h1 : Builtin.nextslicecap (0 + n) 0 * i.bytes ≤ 2 * (0 + n) * i.bytes := Nat.mul_le_mul_right _ hle
    rw [Nat.mul_assoc, Nat.zero_add] at h1
    rw [Nat.zero_add]
    omega
  show denSem P (if Builtin.nextslicecap (0 + n) 0 * i.bytes > 2 ^ 48 then _ else _) h K
  rw [if_neg hnext]
  show denSem P (choose (.appendCap (0 + n) 0 elem) >>= _) h K
  rw [den_bind]
  unfold choose
  simp only [denSem, Question.forced, Bool.false_eq_true, if_false, Question.cut]
  intro tq
  refine den_of_rd (s := typeInfo elem) (rd_typeInfo hi) ?_
  rw [den_bind]
  have hroom : ∀ (m : Nat) (K' : Unit → Heap → Prop), K' () h → denSem P (askRoom m) h K' := fun m K' hk' => by
    unfold askRoom
    split
    · exact hk'
    · exact hk'
  refine hroom _ _ ?_
  refine den_of_rd (s := Builtin.firstCells i.size 0 (.slice none 0 0)) (a := #[]) (rd_firstCells (ds := []) (.inl rfl) (by simp)) ?_
  have rz := rd_zeroValue (h := h) hi hz
  refine den_of_rd (a := if n * i.size = 0 then #[] else Builtin.zeroCells z.cells n) ?_ ?_
  · show rd P (if n * i.size = 0 then pure #[] else _) h = _
    by_cases hz0 : n * i.size = 0
    · rw [if_pos hz0, if_pos hz0]; rfl
    · rw [if_neg hz0, if_neg hz0, rd_bind _ _ _ _ rz]; rfl
  refine den_of_rd (s := zeroValue elem) (rd_zeroValue hi hz) ?_
  generalize hcap' : 0 + n + tq % (2 ^ 63 - (0 + n)) = cap'
  have hge : n ≤ cap' := by omega
  have h1 : ∀ m, (Builtin.zeroCells z.cells m).size = m * i.size := fun m => by simp [Builtin.zeroCells, hsz]
  show K (.slice (some ⟨h.size, 0, none⟩) (0 + n) cap') (h.push (.cells (#[] ++ (if n * i.size = 0 then #[] else Builtin.zeroCells z.cells n) ++ Builtin.zeroCells z.cells (cap' - (0 + n))) elem))
  rw [Nat.zero_add]
  refine hk cap' _ (.row h.size 0 _ elem rfl push_new (Nat.zero_le _) ?_ (by simp) (fun j v hj => by cases hj)) hge (Fr.push _ _)
  rw [Array.size_append, h1]
  have : (#[] ++ (if n * i.size = 0 then #[] else Builtin.zeroCells z.cells n) : Array Value).size = n * i.size := by
    by_cases hz0 : n * i.size = 0
    · rw [if_pos hz0, hz0]; rfl
    · rw [if_neg hz0, Array.size_append, h1]; simp
  rw [this, ← Nat.add_mul, Nat.zero_add, show n + (cap' - n) = cap' by omega]
  omega
end
end Go.Den
