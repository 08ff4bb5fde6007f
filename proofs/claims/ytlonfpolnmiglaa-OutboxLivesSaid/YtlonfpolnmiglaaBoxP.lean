/-
  What is proved here: plain facts on boxes. No program in sight. No condition.
-/
import Derived.Test.YtlonfpolnmiglaaBox
set_option maxRecDepth 100000
namespace Go.Proofs.Ytlonfpolnmiglaa
open Go.Den Go.Fields Go.Heapq
namespace Obx
open Alarm (isDue)
variable {L : List E} {s : BS} {items : List It} {now : Int}

def It.kv (x : It) : E := ((x.num : Int), (x.till : Int))
structure okB (s : BS) (L : List E) : Prop where
  le : s.items.length ≤ 16
  pm : L.Perm (s.items.map It.kv)
  it : ∀ x ∈ s.items, 1 ≤ x.num ∧ x.num < s.next ∧ 1 ≤ x.d.length ∧ x.d.length ≤ 600 ∧ 1 ≤ x.owner ∧ x.owner ≤ 1099511627776 ∧ x.till ≤ 1099511627776
  inc : (s.items.map It.num).Pairwise (· < ·)
  cnt : s.next = 1 + s.items.length + s.taken + s.canc + s.over
theorem okB.nil : okB ⟨[], 1, 0, 0, 0⟩ [] := ⟨by simp, .refl _, by simp, .nil, rfl⟩
def delI (items : List It) (num : Int) : List It := items.filter (fun y => !decide ((y.num : Int) = num))
theorem cutI_del : ∀ {items : List It} {i : Nat} {x : It}, (items.map It.num).Pairwise (· < ·) → items[i]? = some x → cutI items i = delI items (x.num : Int)
  | [], i, x, _, h => by simp at h
  | y :: r, 0, x, hp, h => by
    simp at h
    subst h
    rw [List.map_cons, List.pairwise_cons] at hp
    unfold cutI delI
    rw [List.filter_cons]
    simp only [decide_true, Bool.not_true, Bool.false_eq_true, if_false, List.take_zero, List.nil_append, List.drop_succ_cons, List.drop_zero]
    symm
    rw [List.filter_eq_self]
    intro z hz
    have := hp.1 z.num (List.mem_map_of_mem hz)
    have : ¬ (z.num : Int) = (y.num : Int) := by omega
    simp [this]
  | y :: r, i + 1, x, hp, h => by
    rw [List.map_cons, List.pairwise_cons] at hp
    rw [List.getElem?_cons_succ] at h
    have ih := cutI_del hp.2 h
    have hx := hp.1 x.num (List.mem_map_of_mem (List.mem_of_getElem? h))
    have hne : ¬ (y.num : Int) = (x.num : Int) := by omega
    unfold cutI delI at ih ⊢
    rw [List.filter_cons]
    simp only [hne, decide_false, Bool.not_false, if_true, List.take_succ_cons, List.drop_succ_cons, List.cons_append]
    rw [ih]
theorem del_perm {num : Int} (h : L.Perm (items.map It.kv)) : (dropK L num).Perm ((delI items num).map It.kv) := by
  have := h.filter (fun e => !(e.1 == num))
  unfold dropK
  refine this.trans ?_
  rw [List.filter_map]
  refine List.Perm.of_eq ?_
  unfold delI
  refine congrArg _ (List.filter_congr ?_)
  intro x _
  show (!((x.num : Int) == num)) = _
  by_cases q : (x.num : Int) = num <;> simp [q]
theorem okB.sub {items' : List It} {L' : List E} {t c o : Nat} (ok : okB s L) (hs : items'.Sublist s.items) (hp : L'.Perm (items'.map It.kv)) (hc : s.next = 1 + items'.length + t + c + o) : okB ⟨items', s.next, t, c, o⟩ L' :=
  ⟨Nat.le_trans hs.length_le ok.le, hp, fun x hx => ok.it x (hs.subset hx), ok.inc.sublist (hs.map _), hc⟩
theorem idx_some {num : Int} {i : Nat} (h : idxI items num = some i) : ∃ x, items[i]? = some x ∧ (x.num : Int) = num := by
  unfold idxI at h
  rw [List.findIdx?_eq_some_iff_getElem] at h
  obtain ⟨h1, h2, _⟩ := h
  exact ⟨_, List.getElem?_eq_getElem h1, by simpa using h2⟩
theorem idx_none {num : Int} (h : idxI items num = none) : ∀ x ∈ items, (x.num : Int) ≠ num := by
  unfold idxI at h
  rw [List.findIdx?_eq_none_iff] at h
  intro x hx
  simpa using h x hx
theorem uniq (h : (items.map It.num).Pairwise (· < ·)) {x y : It} (hx : x ∈ items) (hy : y ∈ items) (e : x.num = y.num) : x = y := by
  induction items with
  | nil => cases hx
  | cons z r ih =>
    rw [List.map_cons, List.pairwise_cons] at h
    rcases List.mem_cons.1 hx with e1 | hx1
    · rcases List.mem_cons.1 hy with e2 | hy1
      · rw [e1, e2]
      · have := h.1 y.num (List.mem_map_of_mem hy1); rw [e1] at e; omega
    · rcases List.mem_cons.1 hy with e2 | hy1
      · have := h.1 x.num (List.mem_map_of_mem hx1); rw [e2] at e; omega
      · exact ih h.2 hx1 hy1
/-! ### what has come -/
theorem sorted_split : ∀ {L : List E}, Sorted L → Alarm.due L now = L.filter (isDue now) ∧ Alarm.rest L now = L.filter (fun e => !isDue now e)
  | [], _ => ⟨rfl, rfl⟩
  | e :: r, hs => by
    have hs' := List.pairwise_cons.1 hs
    obtain ⟨i1, i2⟩ := sorted_split (L := r) hs'.2
    unfold Alarm.due at i1 ⊢
    unfold Alarm.rest at i2 ⊢
    by_cases he : isDue now e = true
    · rw [List.takeWhile_cons, List.dropWhile_cons, List.filter_cons, List.filter_cons, he]
      simp only [if_true, Bool.not_true, Bool.false_eq_true, if_false]
      rw [i1, i2]
      exact ⟨rfl, rfl⟩
    · have he' : isDue now e = false := by simpa using he
      have all : ∀ x ∈ r, isDue now x = false := by
        intro x hx
        have h1 := hs'.1 x hx
        unfold isDue at he' ⊢
        have h2 := of_decide_eq_false he'
        apply decide_eq_false
        rcases h1 with h1 | h1 <;> omega
      rw [List.takeWhile_cons, List.dropWhile_cons, List.filter_cons, List.filter_cons, he']
      simp only [Bool.false_eq_true, if_false, Bool.not_false, if_true]
      refine ⟨?_, ?_⟩
      · symm; rw [List.filter_eq_nil_iff]; intro x hx; rw [all x hx]; simp
      · congr 1; symm; rw [List.filter_eq_self]; intro x hx; rw [all x hx]; rfl
def remI (items : List It) (K : List Int) : List It := items.filter (fun x => decide ((x.num : Int) ∉ K))
theorem remI_nil : remI items [] = items := by unfold remI; simp
theorem remI_del {K : List Int} {k : Int} : delI (remI items K) k = remI items (K ++ [k]) := by
  unfold delI remI
  rw [List.filter_filter]
  apply List.filter_congr
  intro x _
  by_cases h1 : (x.num : Int) = k
  · simp [h1]
  · by_cases h2 : (x.num : Int) ∈ K <;> simp [h1, h2]
theorem remI_due (ok : okB s L) (so : Sorted L) (nd : (keys L).Nodup) : remI s.items (keys (Alarm.due L now)) = s.items.filter (fun x => decide (now < (x.till : Int))) := by
  obtain ⟨e1, _⟩ := sorted_split (now := now) so
  unfold remI
  apply List.filter_congr
  intro x hx
  have hm : x.kv ∈ L := ok.pm.mem_iff.2 (List.mem_map_of_mem hx)
  by_cases ht : now < (x.till : Int)
  · simp only [ht, decide_true, decide_eq_true_eq]
    intro hk
    rw [e1] at hk
    obtain ⟨e, he, ek⟩ := List.mem_map.1 hk
    have h2 := List.mem_filter.1 he
    obtain ⟨y, hy, rfl⟩ := List.mem_map.1 (ok.pm.mem_iff.1 h2.1)
    have : y = x := uniq ok.inc hy hx (by have : (y.num : Int) = (x.num : Int) := ek; omega)
    subst this
    have := of_decide_eq_true h2.2
    unfold It.kv at this
    dsimp only at this
    omega
  · simp only [ht, decide_false, decide_eq_false_iff_not, Classical.not_not]
    rw [e1]
    refine List.mem_map.2 ⟨x.kv, List.mem_filter.2 ⟨hm, decide_eq_true ?_⟩, rfl⟩
    unfold It.kv; dsimp only; omega
theorem rest_perm (ok : okB s L) (so : Sorted L) : (Alarm.rest L now).Perm ((s.items.filter (fun x => decide (now < (x.till : Int)))).map It.kv) := by
  rw [(sorted_split (now := now) so).2]
  refine (ok.pm.filter _).trans (List.Perm.of_eq ?_)
  rw [List.filter_map]
  congr 1
  apply List.filter_congr
  intro x _
  show (!decide ((x.till : Int) ≤ now)) = _
  by_cases q : now < (x.till : Int)
  · simp [q]
  · simp [q]; omega
theorem due_perm (ok : okB s L) (so : Sorted L) : (Alarm.due L now).Perm ((s.items.filter (fun x => decide ((x.till : Int) ≤ now))).map It.kv) := by
  rw [(sorted_split (now := now) so).1]
  refine (ok.pm.filter _).trans (List.Perm.of_eq ?_)
  rw [List.filter_map]
  rfl
end Obx
end Go.Proofs.Ytlonfpolnmiglaa
