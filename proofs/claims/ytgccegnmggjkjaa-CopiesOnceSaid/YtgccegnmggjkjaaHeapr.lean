/-
  What is proved here: plain facts on heaps and lists: an entry is taken out, or put in. No program in sight. No condition.
-/
import Derived.Test.YtgccegnmggjkjaaHeapq
set_option maxRecDepth 100000
namespace Go.Heapq

theorem take_last {es : List E} {n : Nat} (hn : es.length = n + 1) : es = es.take n ++ [at_ es n] := by
  have h : n < es.length := by omega
  rw [at_get h]
  have := List.take_append_getElem h
  rw [this, List.take_of_length_le (by omega)]
theorem at_take {es : List E} {n i : Nat} (hi : i < n) : at_ (es.take n) i = at_ es i := by
  unfold at_
  rw [List.getD_eq_getElem?_getD, List.getD_eq_getElem?_getD, List.getElem?_take, if_pos hi]
theorem at_append {es : List E} {x : E} {i : Nat} : at_ (es ++ [x]) i = if i < es.length then at_ es i else if i = es.length then x else (0, 0) := by
  unfold at_
  rw [List.getD_eq_getElem?_getD, List.getD_eq_getElem?_getD]
  by_cases h : i < es.length
  · rw [List.getElem?_append_left h, if_pos h]
  · rw [List.getElem?_append_right (by omega), if_neg h]
    by_cases e : i = es.length
    · subst e; simp
    · rw [if_neg e, List.getElem?_eq_none (by simp; omega)]; rfl
theorem mem_keys {es : List E} {k : Int} (h : k ∈ keys es) : ∃ j, j < es.length ∧ (at_ es j).1 = k := by
  obtain ⟨e, he, rfl⟩ := List.mem_map.1 h
  obtain ⟨j, hj⟩ := List.getElem?_of_mem he
  have hl := (List.getElem?_eq_some_iff.1 hj).1
  rw [at_some hl] at hj
  exact ⟨j, hl, congrArg Prod.fst (Option.some.inj hj)⟩
theorem at_mem {es : List E} {j : Nat} (h : j < es.length) : at_ es j ∈ es := by rw [at_get h]; exact List.getElem_mem h
theorem keys_perm {l l' : List E} (h : l.Perm l') : (keys l).Perm (keys l') := h.map _

/-- entry j is gone; the last one stands in its place -/
def cut (es : List E) (n j : Nat) : List E := if j < n then (es.take n).set j (at_ es n) else es.take n
theorem cut_perm {es : List E} {n j : Nat} (hn : es.length = n + 1) (hj : j < es.length) : es.Perm (at_ es j :: cut es n j) := by
  unfold cut
  have hlen : (es.take n).length = n := by rw [List.length_take]; omega
  split
  · rename_i h
    have hT : j < (es.take n).length := by omega
    have e1 : at_ es j = (es.take n)[j] := by rw [← at_take h, at_get hT]
    have p1 : es.Perm (at_ es n :: es.take n) := by
      have : es.Perm (es.take n ++ [at_ es n]) := by rw [← take_last hn]
      exact this.trans (List.perm_append_singleton _ _)
    have p2 : (es.take n).Perm (at_ es j :: ((es.take n).take j ++ (es.take n).drop (j + 1))) := by
      rw [e1]
      have e2 : es.take n = (es.take n).take j ++ (es.take n)[j] :: (es.take n).drop (j + 1) := by rw [← List.drop_eq_getElem_cons hT, List.take_append_drop]
      have e3 : (es.take n).Perm ((es.take n).take j ++ (es.take n)[j] :: (es.take n).drop (j + 1)) := List.Perm.of_eq e2
      exact e3.trans List.perm_middle
    have p3 : ((es.take n).set j (at_ es n)).Perm (at_ es n :: ((es.take n).take j ++ (es.take n).drop (j + 1))) := by
      rw [List.set_eq_take_append_cons_drop, if_pos hT]
      exact List.perm_middle
    exact p1.trans ((p2.cons _).trans ((List.Perm.swap _ _ _).trans (p3.symm.cons _)))
  · have : j = n := by omega
    subst this
    have : es.Perm (es.take j ++ [at_ es j]) := by rw [← take_last hn]
    exact this.trans (List.perm_append_singleton _ _)
theorem cut_drop {es l : List E} {n j : Nat} (hn : es.length = n + 1) (hj : j < es.length) (hd : (keys es).Nodup) (hp : es.Perm l) : (cut es n j).Perm (dropK l (at_ es j).1) := by
  have h1 := cut_perm hn hj
  have hk : (at_ es j).1 ∉ keys (cut es n j) := by
    have := (keys_perm h1).nodup_iff.1 hd
    exact (List.nodup_cons.1 this).1
  have h2 := dropK_perm (h1.symm.trans hp) (at_ es j).1
  have h3 : dropK (at_ es j :: cut es n j) (at_ es j).1 = cut es n j := by
    have : dropK (at_ es j :: cut es n j) (at_ es j).1 = dropK (cut es n j) (at_ es j).1 := by
      unfold dropK; rw [List.filter_cons]; simp
    rw [this, dropK_none hk]
  rw [h3] at h2
  exact h2
theorem cut_len {es : List E} {n j : Nat} (hn : es.length = n + 1) : (cut es n j).length = n := by
  unfold cut
  split
  · rw [List.length_set, List.length_take]; omega
  · rw [List.length_take]; omega
theorem cut_at {es : List E} {n j i : Nat} (hn : es.length = n + 1) (hi : i < n) : at_ (cut es n j) i = if i = j then at_ es n else at_ es i := by
  have hlen : (es.take n).length = n := by rw [List.length_take]; omega
  unfold cut
  split
  · rw [at_set (by omega), at_take hi]
  · rw [at_take hi, if_neg (by omega)]
theorem cut_place {es : List E} {g : Int → Option Value} {n j : Nat} (h : PlaceOk es g) (hn : es.length = n + 1) (hj : j < es.length) :
    PlaceOk (cut es n j) (fun k => if j < n then (if k = (at_ es n).1 then some (.int .i64 j) else if k = (at_ es j).1 then none else g k) else if k = (at_ es j).1 then none else g k) := by
  obtain ⟨h1, h2, h3⟩ := h
  have hp := keys_perm (cut_perm hn hj)
  have hnd := hp.nodup_iff.1 h1
  refine ⟨(List.nodup_cons.1 hnd).2, fun i hi => ?_, fun k hk => ?_⟩
  · rw [cut_len hn] at hi
    rw [cut_at hn hi]
    by_cases e : i = j
    · subst e
      simp [hi]
    · rw [if_neg e]
      have n1 : (at_ es i).1 ≠ (at_ es n).1 := fun x => by have := key_inj h1 (by omega) (by omega) x; omega
      have n2 : (at_ es i).1 ≠ (at_ es j).1 := fun x => e (key_inj h1 (by omega) hj x)
      simp [n1, n2, h2 i (by omega)]
  · have hgo : ∀ k, k ∉ (cut es n j).map (·.1) → k ≠ (at_ es j).1 → g k = none := fun k hk hne => by
      refine h3 k fun hm => ?_
      rcases List.mem_cons.1 (hp.mem_iff.1 hm) with e | e
      · exact hne e
      · exact hk e
    by_cases hjn : j < n
    · have hl : (at_ es n).1 ∈ (cut es n j).map (·.1) := by
        have := at_mem (es := cut es n j) (j := j) (by rw [cut_len hn]; exact hjn)
        rw [cut_at hn hjn, if_pos rfl] at this
        exact List.mem_map_of_mem this
      have n1 : k ≠ (at_ es n).1 := fun e => hk (e ▸ hl)
      by_cases e : k = (at_ es j).1
      · subst e; simp [hjn, n1]
      · simp [hjn, n1, e, hgo k hk e]
    · by_cases e : k = (at_ es j).1
      · subst e; simp [hjn]
      · simp [hjn, e, hgo k hk e]
theorem cut_both {es : List E} {n j : Nat} (hn : es.length = n + 1) (hj : j < n) (hh : HeapO (at_ es) es.length) : ExBoth (at_ (cut es n j)) n j := by
  refine ⟨fun c h1 h2 h3 h4 => ?_, fun h0 c h1 h2 h3 => ?_⟩
  · rw [cut_at hn h2, cut_at hn (by omega), if_neg h3, if_neg h4]
    exact hh c h1 (by omega)
  · rw [cut_at hn h2, cut_at hn (by omega), if_neg (by omega), if_neg (by omega)]
    have := hh c h1 (by omega)
    rw [h3] at this
    exact le_trans (hh j h0 (by omega)) this
theorem cut_heap {es : List E} {n j : Nat} (hn : es.length = n + 1) (hj : ¬ j < n) (hh : HeapO (at_ es) es.length) : HeapO (at_ (cut es n j)) n := fun c h1 h2 => by
  rw [cut_at hn h2, cut_at hn (by omega), if_neg (by omega), if_neg (by omega)]
  exact hh c h1 (by omega)

theorem add_both {es : List E} {x : E} (hh : HeapO (at_ es) es.length) : ExBoth (at_ (es ++ [x])) (es.length + 1) es.length ∧ KidsOk (at_ (es ++ [x])) (es.length + 1) es.length := by
  refine ⟨⟨fun c h1 h2 h3 h4 => ?_, fun h0 c h1 h2 h3 => by omega⟩, fun c h1 h2 h3 => by omega⟩
  rw [at_append, at_append, if_pos (by omega), if_pos (by omega)]
  exact hh c h1 (by omega)
theorem add_place {es : List E} {g : Int → Option Value} {x : E} (h : PlaceOk es g) (hx : x.1 ∉ keys es) : PlaceOk (es ++ [x]) (fun k => if k = x.1 then some (.int .i64 es.length) else g k) := by
  obtain ⟨h1, h2, h3⟩ := h
  refine ⟨?_, fun i hi => ?_, fun k hk => ?_⟩
  · have : ((es ++ [x]).map (·.1)).Perm (x.1 :: es.map (·.1)) := by
      rw [List.map_append]; exact List.perm_append_singleton _ _
    exact this.nodup_iff.2 (List.nodup_cons.2 ⟨hx, h1⟩)
  · rw [List.length_append, List.length_singleton] at hi
    rw [at_append]
    by_cases e : i < es.length
    · rw [if_pos e]
      have : (at_ es i).1 ≠ x.1 := fun q => hx (q ▸ List.mem_map_of_mem (at_mem e))
      simp [this, h2 i e]
    · have : i = es.length := by omega
      subst this; simp
  · rw [List.map_append, List.mem_append] at hk
    have n1 : k ≠ x.1 := fun e => hk (.inr (by simp [e]))
    simp [n1, h3 k (fun hm => hk (.inl hm))]

/-- the time of a key -/
def lookK (l : List E) (k : Int) : Option Int := (l.find? (·.1 == k)).map (·.2)
theorem lookK_none {l : List E} {k : Int} (h : k ∉ keys l) : lookK l k = none := by
  unfold lookK
  rw [List.find?_eq_none.2 (fun e he hq => h (by have : e.1 = k := by simpa using hq
                                                 exact this ▸ List.mem_map_of_mem he))]
  rfl
theorem lookK_some {l : List E} {e : E} (hd : (keys l).Nodup) (he : e ∈ l) : lookK l e.1 = some e.2 := by
  unfold lookK
  induction l with
  | nil => cases he
  | cons x l ih =>
    rw [List.find?_cons]
    by_cases q : x.1 = e.1
    · rcases List.mem_cons.1 he with rfl | hm
      · simp
      · have : x.1 ∈ keys l := by rw [q]; exact List.mem_map_of_mem hm
        exact absurd this (List.nodup_cons.1 hd).1
    · have : (x.1 == e.1) = false := by simp [q]
      rw [this]
      rcases List.mem_cons.1 he with rfl | hm
      · exact absurd rfl q
      · exact ih (List.nodup_cons.1 hd).2 hm
theorem Sorted.head {e : E} {l : List E} (h : Sorted (e :: l)) : dropK (e :: l) e.1 = dropK l e.1 := by
  unfold dropK; rw [List.filter_cons]; simp
theorem dropK_head {e : E} {l : List E} (hd : (keys (e :: l)).Nodup) : dropK (e :: l) e.1 = l := by
  have h1 : dropK (e :: l) e.1 = dropK l e.1 := by unfold dropK; rw [List.filter_cons]; simp
  rw [h1, dropK_none (List.nodup_cons.1 hd).1]
end Go.Heapq
