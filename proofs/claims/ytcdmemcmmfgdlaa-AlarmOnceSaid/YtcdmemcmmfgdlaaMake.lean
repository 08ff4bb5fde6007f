/-
  What is proved here: 'make' of a slice whose elements are one cell. No condition.
-/
import Derived.Test.YtcdmemcmmfgdlaaSlice
namespace Go.Den
section
variable {P : Program}
/-- 'make([]T, n)', one cell an element -/
theorem den_make {t elem : TypeId} {bytes : Nat} {z z0 : Value} {h : Heap} {K : Value → Heap → Prop} (T : SlTy P t elem 1 bytes z) (hz0 : z.cells = #[z0]) (n : Nat) (hb : n * bytes ≤ 70368744177664) (hn : n ≤ 9223372036854775807)
    (hk : ∀ h' p', Own h' p' n n 1 (List.replicate n z0) → Fr (fun _ => False) h h' → (∀ c, inBlk p' c → h.size ≤ c) → K (.slice p' n n) h') :
    denSem P (Instr.makeSlice t (.int .i64 (n : Int)) (.int .i64 (n : Int))) h K := by
  obtain ⟨i, hi, hsz, rfl, hz⟩ := T.i
  unfold Instr.makeSlice
  refine den_of_rd (s := underlying t) (rd_underlying T.u) ?_
  refine den_of_rd (s := asInt (.int .i64 (n : Int))) (a := (n : Int)) rfl ?_
  refine den_of_rd (s := asInt (.int .i64 (n : Int))) (a := (n : Int)) rfl ?_
  refine den_of_rd (s := typeInfo elem) (rd_typeInfo hi) ?_
  simp only []
  rw [wrap_id (n := (n : Int)) (by omega) (by omega)]
  have hm : (i.bytes : Int) * (n : Int) = ((n * i.bytes : Nat) : Int) := by rw [Nat.mul_comm]; simp
  have hl : (decide ((n : Int) < 0) || decide ((i.bytes : Int) * (n : Int) > 2 ^ 48)) = false := by
    rw [hm]
    have h1 : ¬ (n : Int) < 0 := by omega
    have h2 : ¬ ((n * i.bytes : Nat) : Int) > 2 ^ 48 := by omega
    rw [decide_eq_false h1, decide_eq_false h2]; rfl
  have hc : (((decide ((n : Int) < 0) || decide ((i.bytes : Int) * (n : Int) > 2 ^ 48)) || decide ((n : Int) < 0)) || decide ((n : Int) > (n : Int))) = false := by
    rw [hl]; simp
  rw [if_neg (by rw [hc]; simp)]
  have hroom : ∀ (m : Nat) (K' : Unit → Heap → Prop), K' () h → denSem P (askRoom m) h K' := fun m K' hk' => by
    unfold askRoom
    split
    · exact hk'
    · exact hk'
  rw [den_bind]
  refine hroom _ _ ?_
  refine den_of_rd (s := sizeOf elem) (rd_sizeOf hi) ?_
  rw [Int.toNat_natCast, hsz, Nat.mul_one]
  have fin : ∀ zs : Array Value, (n = 0 ∨ zs = #[z0]) → denSem P (newRow elem ((Array.range n).map (zs[· % zs.size]!)) >>= fun a => pure (.slice (some a) n n)) h K := by
    intro zs hzs
    show K (.slice (some ⟨h.size, 0, none⟩) n n) (h.push (.cells ((Array.range n).map (zs[· % zs.size]!)) elem))
    refine hk _ _ (.row h.size 0 _ elem rfl push_new (Nat.le_refl _) (by simp) (by simp) ?_) (Fr.push _ _) ?_
    · intro j v hj
      have hjn : j < n := by have := (List.getElem?_eq_some_iff.1 hj).1; simpa using this
      have hv : v = z0 := by
        rw [List.getElem?_replicate, if_pos hjn] at hj; exact (Option.some.inj hj).symm
      subst hv
      rcases hzs with hz | rfl
      · omega
      · rw [Nat.zero_add]; simp [hjn, Nat.mod_one]
    · rintro c ⟨a, e, rfl⟩; cases e; exact Nat.le_refl _
  by_cases h0 : n = 0
  · rw [if_pos h0]
    exact fin #[] (.inl h0)
  · rw [if_neg h0]
    refine den_of_rd (s := zeroValue elem) (rd_zeroValue hi hz) ?_
    refine den_of_rd (s := (pure z.cells : Sem (Array Value))) (a := z.cells) rfl ?_
    rw [hz0]
    exact fin #[z0] (.inr rfl)
end
end Go.Den
