/-
  What is proved here: plain: lists of numbers that are sorted step by step. No program in sight. No condition.
-/
import Derived.Test.YtgccegnmggjkjaaRow
set_option maxRecDepth 100000
namespace Go.Srt
open Go.Den
abbrev V (xs : List Int) (k : Nat) : Int := xs.getD k 0
theorem V_at {xs : List Int} {k : Nat} (h : k < xs.length) : xs[k]? = some (V xs k) := by
  rw [List.getElem?_eq_getElem h]; simp [V, h]
theorem V_swp {xs : List Int} {i j : Nat} (hi : i < xs.length) (hj : j < xs.length) (k : Nat) : V (swp xs i j) k = if k = j then V xs i else if k = i then V xs j else V xs k := by
  unfold V
  rw [List.getD_eq_getElem?_getD, swp_at hi hj]
  split
  · rw [← List.getD_eq_getElem?_getD]
  · split <;> rw [← List.getD_eq_getElem?_getD]
theorem ext_V {xs ys : List Int} (hl : xs.length = ys.length) (h : ∀ k, k < xs.length → V xs k = V ys k) : xs = ys := by
  apply List.ext_getElem?
  intro k
  by_cases hk : k < xs.length
  · rw [V_at hk, V_at (by omega), h k hk]
  · rw [List.getElem?_eq_none (by omega), List.getElem?_eq_none (by omega)]
def SO (xs : List Int) (a b : Nat) : Prop := ∀ p q, a ≤ p → p < q → q < b → V xs p < V xs q
theorem SO.pair {xs : List Int} (h : SO xs 0 xs.length) : xs.Pairwise (· < ·) := by
  rw [List.pairwise_iff_getElem]
  intro i j hi hj hij
  have := h i j (Nat.zero_le _) hij hj
  simpa [V, hi, hj] using this
structure PermOn (a b : Nat) (ys xs : List Int) : Prop where
  perm : ys.Perm xs
  out : ∀ k, k < a ∨ b ≤ k → V ys k = V xs k
variable {a b i j k : Nat} {xs ys zs ws : List Int}
theorem PermOn.refl : PermOn a b xs xs := ⟨.refl _, fun _ _ => rfl⟩
theorem PermOn.trans (h1 : PermOn a b zs ys) (h2 : PermOn a b ys xs) : PermOn a b zs xs := ⟨h1.perm.trans h2.perm, fun k hk => (h1.out k hk).trans (h2.out k hk)⟩
theorem PermOn.mono {a' b' : Nat} (h : PermOn a' b' ys xs) (h1 : a ≤ a') (h2 : b' ≤ b) : PermOn a b ys xs := ⟨h.perm, fun k hk => h.out k (by omega)⟩
theorem PermOn.len (h : PermOn a b ys xs) : ys.length = xs.length := h.perm.length_eq
theorem PermOn.swp (hi1 : a ≤ i) (hi2 : i < b) (hj1 : a ≤ j) (hj2 : j < b) (hb : b ≤ xs.length) : PermOn a b (swp xs i j) xs :=
  ⟨swp_perm (by omega) (by omega), fun k hk => by rw [V_swp (by omega) (by omega), if_neg (by omega), if_neg (by omega)]⟩
theorem PermOn.seg (h : PermOn a b ys xs) (hab : a ≤ b) : ((ys.drop a).take (b - a)).Perm ((xs.drop a).take (b - a)) := by
  have hl := h.len
  have at_ : ∀ k, k < a ∨ b ≤ k → ys[k]? = xs[k]? := fun k hk => by
    by_cases hlt : k < ys.length
    · rw [V_at hlt, V_at (by omega), h.out k hk]
    · rw [List.getElem?_eq_none (by omega), List.getElem?_eq_none (by omega)]
  have e1 : ys.take a = xs.take a := by
    apply List.ext_getElem?
    intro k
    rw [List.getElem?_take, List.getElem?_take]
    split
    · exact at_ k (by omega)
    · rfl
  have e2 : ys.drop b = xs.drop b := by
    apply List.ext_getElem?
    intro k
    rw [List.getElem?_drop, List.getElem?_drop]
    exact at_ _ (by omega)
  have sp : ∀ l : List Int, l = l.take a ++ ((l.drop a).take (b - a) ++ l.drop b) := fun l => by
    have : l.drop b = (l.drop a).drop (b - a) := by rw [List.drop_drop]; congr 1; omega
    rw [this, List.take_append_drop, List.take_append_drop]
  have hp := h.perm
  rw [sp ys, sp xs, e1, e2, List.perm_append_left_iff, List.perm_append_right_iff] at hp
  exact hp
theorem PermOn.from (h : PermOn a b ys xs) (hb : b ≤ xs.length) (h1 : a ≤ k) (h2 : k < b) : ∃ l, a ≤ l ∧ l < b ∧ V ys k = V xs l := by
  have hl := h.len
  have hm : V ys k ∈ (ys.drop a).take (b - a) := by
    refine List.mem_of_getElem? (i := k - a) ?_
    rw [List.getElem?_take, if_pos (by omega), List.getElem?_drop, show a + (k - a) = k by omega]
    exact V_at (by omega)
  have hm := (h.seg (by omega)).mem_iff.1 hm
  obtain ⟨l, hl2⟩ := List.getElem?_of_mem hm
  rw [List.getElem?_take] at hl2
  split at hl2
  · rw [List.getElem?_drop, V_at (by omega)] at hl2
    exact ⟨a + l, by omega, by omega, (Option.some.inj hl2).symm⟩
  · cases hl2
theorem nd_ne (hn : xs.Nodup) (hi : i < xs.length) (hj : j < xs.length) (hij : i ≠ j) : V xs i ≠ V xs j := fun e => by
  apply hij
  exact (List.getElem?_inj hi hn).1 (by rw [V_at hi, V_at hj, e])
theorem PermOn.nd (h : PermOn a b ys xs) (hn : xs.Nodup) : ys.Nodup := h.perm.nodup_iff.2 hn

/-! ### all but what lies between -/
def But (ys : List Int) (a b a' b' : Nat) : Prop := ∀ p q, a ≤ p → p < q → q < b → ¬ (a' ≤ p ∧ q < b') → V ys p < V ys q
variable {a' b' m : Nat}
theorem But.all : But ys a b a b := fun p q h1 _ h3 h4 => absurd ⟨h1, h3⟩ h4
theorem But.perm (h : But ys a b a' b') (ha' : a ≤ a') (hb' : b' ≤ b) (hp : PermOn a' b' zs ys) (hb : b' ≤ ys.length) : But zs a b a' b' := by
  intro p q h1 h2 h3 h4
  by_cases hpin : a' ≤ p ∧ p < b'
  · obtain ⟨l, l1, l2, l3⟩ := hp.from hb hpin.1 hpin.2
    rw [l3, hp.out q (by omega)]
    exact h l q (by omega) (by omega) h3 (by omega)
  · rw [hp.out p (by omega)]
    by_cases hqin : a' ≤ q ∧ q < b'
    · obtain ⟨l, l1, l2, l3⟩ := hp.from hb hqin.1 hqin.2
      rw [l3]
      exact h p l h1 (by omega) (by omega) (by omega)
    · rw [hp.out q (by omega)]
      exact h p q h1 h2 h3 h4
theorem But.done (h : But zs a b a' b') (hs : SO zs a' b') : SO zs a b := fun p q h1 h2 h3 => by
  by_cases hin : a' ≤ p ∧ q < b'
  · exact hs p q hin.1 h2 hin.2
  · exact h p q h1 h2 h3 hin
/-- what stands ahead is less -/
def LB (ys : List Int) (a b : Nat) : Prop := a = 0 ∨ ∀ k, a ≤ k → k < b → V ys (a - 1) < V ys k
theorem LB.perm (h : LB ys a b) (hp : PermOn a b zs ys) (hb : b ≤ ys.length) : LB zs a b := by
  rcases h with h | h
  · exact .inl h
  · by_cases h0 : a = 0
    · exact .inl h0
    · refine .inr fun k h1 h2 => ?_
      obtain ⟨l, l1, l2, l3⟩ := hp.from hb h1 h2
      rw [hp.out (a - 1) (by omega), l3]
      exact h l l1 l2
structure Part (zs : List Int) (a b m : Nat) : Prop where
  lo : ∀ k, a ≤ k → k < m → V zs k < V zs m
  hi : ∀ k, m < k → k < b → V zs m < V zs k
theorem But.left (h : But zs a b a' b') (ha' : a ≤ a') (hb' : b' ≤ b) (hP : Part zs a' b' m) (h1 : a' ≤ m) (h2 : m < b') (hb : b' ≤ zs.length) (hp : PermOn a' m ws zs) (hs : SO ws a' m) : But ws a b (m + 1) b' ∧ Part ws a' b' m := by
  have hB : But ws a b a' b' := h.perm ha' hb' (hp.mono (Nat.le_refl _) (by omega)) hb
  have hm : V ws m = V zs m := hp.out m (by omega)
  have hP' : Part ws a' b' m := ⟨fun k k1 k2 => by
    obtain ⟨l, l1, l2, l3⟩ := hp.from (by omega) k1 k2
    rw [l3, hm]; exact hP.lo l l1 l2, fun k k1 k2 => by rw [hm, hp.out k (by omega)]; exact hP.hi k k1 k2⟩
  refine ⟨fun p q p1 pq q1 hno => ?_, hP'⟩
  by_cases hin : a' ≤ p ∧ q < b'
  · by_cases hpm : p < m
    · by_cases hqm : q < m
      · exact hs p q hin.1 pq hqm
      · have l1 := hP'.lo p hin.1 hpm
        by_cases e : q = m
        · rw [e]; exact l1
        · exact Int.lt_trans l1 (hP'.hi q (by omega) hin.2)
    · have e : p = m := by omega
      rw [e]; exact hP'.hi q (by omega) hin.2
  · exact hB p q p1 pq q1 hin
theorem But.right (h : But zs a b a' b') (ha' : a ≤ a') (hb' : b' ≤ b) (hP : Part zs a' b' m) (h1 : a' ≤ m) (h2 : m < b') (hb : b' ≤ zs.length) (hp : PermOn (m + 1) b' ws zs) (hs : SO ws (m + 1) b') : But ws a b a' m ∧ Part ws a' b' m := by
  have hB : But ws a b a' b' := h.perm ha' hb' (hp.mono (by omega) (Nat.le_refl _)) hb
  have hm : V ws m = V zs m := hp.out m (by omega)
  have hP' : Part ws a' b' m := ⟨fun k k1 k2 => by rw [hm, hp.out k (by omega)]; exact hP.lo k k1 k2, fun k k1 k2 => by
    obtain ⟨l, l1, l2, l3⟩ := hp.from hb (by omega : m + 1 ≤ k) k2
    rw [l3, hm]; exact hP.hi l (by omega) l2⟩
  refine ⟨fun p q p1 pq q1 hno => ?_, hP'⟩
  by_cases hin : a' ≤ p ∧ q < b'
  · by_cases hqm : q = m
    · rw [hqm]; exact hP'.lo p hin.1 (by omega)
    · have hq : m < q := by omega
      by_cases hpm : p < m
      · exact Int.lt_trans (hP'.lo p hin.1 hpm) (hP'.hi q hq hin.2)
      · by_cases e : p = m
        · rw [e]; exact hP'.hi q hq hin.2
        · exact hs p q (by omega) pq hin.2
  · exact hB p q p1 pq q1 hin

/-! ### insertion -/
structure InsI (xs ys : List Int) (a i j : Nat) : Prop where
  perm : PermOn a (i + 1) ys xs
  so : ∀ p q, a ≤ p → p < q → q ≤ i → p ≠ j → q ≠ j → V ys p < V ys q
  up : ∀ q, j < q → q ≤ i → V ys j < V ys q
theorem InsI.start (h : SO xs a i) : InsI xs xs a i i := ⟨.refl, fun p q h1 h2 h3 _ h5 => h p q h1 h2 (by omega), fun q h1 h2 => by omega⟩
theorem InsI.swap (H : InsI xs ys a i j) (hj : a < j) (hji : j ≤ i) (hi : i < ys.length) (hl : V ys j < V ys (j - 1)) : InsI xs (swp ys j (j - 1)) a i (j - 1) := by
  have at_ : ∀ k : Nat, V (swp ys j (j - 1)) k = if k = j - 1 then V ys j else if k = j then V ys (j - 1) else V ys k := V_swp (by omega) (by omega)
  refine ⟨(PermOn.swp (by omega) (by omega) (by omega) (by omega) (by omega)).trans H.perm, fun p q h1 h2 h3 h4 h5 => ?_, fun q h1 h2 => ?_⟩
  · rw [at_, at_, if_neg h4, if_neg h5]
    by_cases p0 : p = j
    · rw [if_pos p0, if_neg (by omega)]
      exact H.so (j - 1) q (by omega) (by omega) h3 (by omega) (by omega)
    · rw [if_neg p0]
      by_cases q0 : q = j
      · rw [if_pos q0]; exact H.so p (j - 1) h1 (by omega) (by omega) p0 (by omega)
      · rw [if_neg q0]; exact H.so p q h1 h2 h3 p0 q0
  · rw [at_, at_, if_pos rfl, if_neg (by omega)]
    by_cases q0 : q = j
    · rw [if_pos q0]; exact hl
    · rw [if_neg q0]; exact H.up q (by omega) h2
theorem InsI.stop (H : InsI xs ys a i j) (hj : a ≤ j) (hji : j ≤ i) (he : j = a ∨ V ys (j - 1) < V ys j) : SO ys a (i + 1) := by
  intro p q h1 h2 h3
  by_cases p0 : p = j
  · subst p0; exact H.up q h2 (by omega)
  · by_cases q0 : q = j
    · subst q0
      rcases he with he | he
      · omega
      · by_cases p1 : p = q - 1
        · rw [p1]; exact he
        · exact Int.lt_trans (H.so p (q - 1) h1 (by omega) (by omega) p0 (by omega)) he
    · exact H.so p q h1 h2 (by omega) p0 q0

/-! ### heaps -/
variable {f lo hi r c : Nat}
def HeapOn (ys : List Int) (f lo hi : Nat) : Prop := ∀ i, lo ≤ i → (2 * i + 1 < hi → V ys (f + (2 * i + 1)) < V ys (f + i)) ∧ (2 * i + 2 < hi → V ys (f + (2 * i + 2)) < V ys (f + i))
theorem HeapOn.root (h : HeapOn ys f 0 hi) : ∀ k, 0 < k → k < hi → V ys (f + k) < V ys f := by
  intro k
  induction k using Nat.strongRecOn with
  | _ k ih =>
    intro h0 h1
    have hpar := h ((k - 1) / 2) (Nat.zero_le _)
    have hk : k = 2 * ((k - 1) / 2) + 1 ∨ k = 2 * ((k - 1) / 2) + 2 := by omega
    have hlt : V ys (f + k) < V ys (f + (k - 1) / 2) := by
      rcases hk with e | e
      · have := hpar.1 (by omega); rwa [← e] at this
      · have := hpar.2 (by omega); rwa [← e] at this
    by_cases e0 : (k - 1) / 2 = 0
    · rw [e0, Nat.add_zero] at hlt; exact hlt
    · exact Int.lt_trans hlt (ih _ (by omega) (by omega) (by omega))
/-- all but one root -/
structure SiftI (xs ys : List Int) (f lo hi r : Nat) : Prop where
  perm : PermOn f (f + hi) ys xs
  ot : ∀ i, lo ≤ i → i ≠ r → (2 * i + 1 < hi → V ys (f + (2 * i + 1)) < V ys (f + i)) ∧ (2 * i + 2 < hi → V ys (f + (2 * i + 2)) < V ys (f + i))
  par : ∀ q, lo ≤ q → (r = 2 * q + 1 ∨ r = 2 * q + 2) → (2 * r + 1 < hi → V ys (f + (2 * r + 1)) < V ys (f + q)) ∧ (2 * r + 2 < hi → V ys (f + (2 * r + 2)) < V ys (f + q))
theorem SiftI.start (h : HeapOn xs f (lo + 1) hi) : SiftI xs xs f lo hi lo := ⟨.refl, fun i h1 h2 => h i (by omega), fun q h1 h2 => by omega⟩
theorem SiftI.swap (H : SiftI xs ys f lo hi r) (hl : f + hi ≤ ys.length) (hr : lo ≤ r) (hc : c = 2 * r + 1 ∨ c = 2 * r + 2) (hch : c < hi) (hrc : V ys (f + r) < V ys (f + c))
    (h1 : c = 2 * r + 2 → V ys (f + (2 * r + 1)) < V ys (f + c)) (h2 : c = 2 * r + 1 → 2 * r + 2 < hi → V ys (f + (2 * r + 2)) < V ys (f + c)) : SiftI xs (swp ys (f + r) (f + c)) f lo hi c := by
  have at_ : ∀ k : Nat, V (swp ys (f + r) (f + c)) k = if k = f + c then V ys (f + r) else if k = f + r then V ys (f + c) else V ys k := V_swp (by omega) (by omega)
  refine ⟨(PermOn.swp (by omega) (by omega) (by omega) (by omega) hl).trans H.perm, fun i i1 i2 => ?_, fun q q1 q2 => ?_⟩
  · by_cases ir : i = r
    · subst ir
      refine ⟨fun g => ?_, fun g => ?_⟩
      · rw [at_, at_, if_neg (by omega : ¬ f + i = f + c), if_pos rfl]
        by_cases e : c = 2 * i + 1
        · rw [e, if_pos rfl]; rw [e] at hrc; exact hrc
        · rw [if_neg (by omega), if_neg (by omega)]; exact h1 (by omega)
      · rw [at_, at_, if_neg (by omega : ¬ f + i = f + c), if_pos rfl]
        by_cases e : c = 2 * i + 2
        · rw [e, if_pos rfl]; rw [e] at hrc; exact hrc
        · rw [if_neg (by omega), if_neg (by omega)]; exact h2 (by omega) g
    · have ho := H.ot i i1 ir
      have e0 : V (swp ys (f + r) (f + c)) (f + i) = V ys (f + i) := by rw [at_, if_neg (by omega), if_neg (by omega)]
      rw [e0]
      refine ⟨fun g => ?_, fun g => ?_⟩
      · rw [at_, if_neg (by omega)]
        by_cases e : r = 2 * i + 1
        · rw [if_pos (by omega)]
          have := H.par i i1 (.inl e)
          rcases hc with hc | hc
          · rw [hc]; exact this.1 (by omega)
          · rw [hc]; exact this.2 (by omega)
        · rw [if_neg (by omega)]; exact ho.1 g
      · rw [at_, if_neg (by omega)]
        by_cases e : r = 2 * i + 2
        · rw [if_pos (by omega)]
          have := H.par i i1 (.inr e)
          rcases hc with hc | hc
          · rw [hc]; exact this.1 (by omega)
          · rw [hc]; exact this.2 (by omega)
        · rw [if_neg (by omega)]; exact ho.2 g
  · have hq : q = r := by omega
    subst hq
    have ho := H.ot c (by omega) (by omega)
    have e0 : V (swp ys (f + q) (f + c)) (f + q) = V ys (f + c) := by rw [at_, if_neg (by omega), if_pos rfl]
    rw [e0]
    refine ⟨fun g => ?_, fun g => ?_⟩
    · rw [at_, if_neg (by omega), if_neg (by omega)]; exact ho.1 g
    · rw [at_, if_neg (by omega), if_neg (by omega)]; exact ho.2 g
theorem SiftI.stop (H : SiftI xs ys f lo hi r) (h1 : 2 * r + 1 < hi → V ys (f + (2 * r + 1)) < V ys (f + r)) (h2 : 2 * r + 2 < hi → V ys (f + (2 * r + 2)) < V ys (f + r)) : HeapOn ys f lo hi := fun i i1 => by
  by_cases e : i = r
  · subst e; exact ⟨h1, h2⟩
  · exact H.ot i i1 e

/-! ### a partition -/
structure PI (xs ws : List Int) (a b i j : Nat) : Prop where
  perm : PermOn a b ws xs
  lo : ∀ k, a < k → k < i → V ws k < V ws a
  hi : ∀ k, j < k → k < b → V ws a < V ws k
theorem PI.swap (H : PI xs ws a b i j) (h0 : a < i) (hij : i < j) (hj : j < b) (hb : b ≤ ws.length) (h1 : V ws a < V ws i) (h2 : V ws j < V ws a) : PI xs (swp ws i j) a b (i + 1) (j - 1) := by
  have at_ : ∀ k : Nat, V (swp ws i j) k = if k = j then V ws i else if k = i then V ws j else V ws k := V_swp (by omega) (by omega)
  have ea : V (swp ws i j) a = V ws a := by rw [at_, if_neg (by omega), if_neg (by omega)]
  refine ⟨(PermOn.swp (by omega) (by omega) (by omega) (by omega) hb).trans H.perm, fun k k1 k2 => ?_, fun k k1 k2 => ?_⟩
  · rw [ea, at_, if_neg (by omega)]
    by_cases e : k = i
    · rw [if_pos e]; exact h2
    · rw [if_neg e]; exact H.lo k k1 (by omega)
  · rw [ea, at_]
    by_cases e : k = j
    · rw [if_pos e]; exact h1
    · rw [if_neg e, if_neg (by omega)]; exact H.hi k (by omega) k2
theorem PI.stop (H : PI xs ws a b i j) (haj : a ≤ j) (hij : i = j + 1) (hj : j < b) (hb : b ≤ ws.length) : Part (swp ws j a) a b j ∧ PermOn a b (swp ws j a) xs := by
  have at_ : ∀ k : Nat, V (swp ws j a) k = if k = a then V ws j else if k = j then V ws a else V ws k := V_swp (by omega) (by omega)
  have ej : V (swp ws j a) j = V ws a := by
    rw [at_]
    by_cases e : j = a
    · rw [if_pos e, e]
    · rw [if_neg e, if_pos rfl]
  refine ⟨⟨fun k k1 k2 => ?_, fun k k1 k2 => ?_⟩, (PermOn.swp (by omega) (by omega) (by omega) (by omega) hb).trans H.perm⟩
  · rw [ej, at_]
    by_cases e : k = a
    · rw [if_pos e]; exact H.lo j (by omega) (by omega)
    · rw [if_neg e, if_neg (by omega)]; exact H.lo k (by omega) (by omega)
  · rw [ej, at_, if_neg (by omega), if_neg (by omega)]; exact H.hi k k1 k2
end Go.Srt
