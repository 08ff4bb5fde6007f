/-
  What is proved here: plain facts on the tables of copies: what is kept by each call. No condition.
-/
import Derived.Test.YtgccegnmggjkjaaCpLease
set_option maxRecDepth 100000
namespace Go.Proofs.Ytgccegnmggjkjaa
open Go.Den Go.Heapq
namespace Cps
open Eid Alarm Fld
variable {h h' : Heap} {t : Nat} {X X' : Ft} {s s' : CF} {p : Option Addr} {n c : Nat} {now : Int}

structure Ord (s : CF) : Prop where
  nd : (s.L.map Cp.num).Nodup
  o1 : Sorted s.E1
  o2 : Sorted s.E2
  n1 : (keys s.E1).Nodup
  n2 : (keys s.E2).Nodup
theorem Ct.ord (H : Ct h t X s) : Ord s := by
  obtain ⟨m, xs, a1, S1, a2, S2, lab, H⟩ := H
  refine ⟨?_, H.al1.sorted, H.al2.sorted, H.al1.nodup, H.al2.nodup⟩
  rw [← H.abs, List.map_map]
  exact H.so.imp (fun h => Nat.ne_of_lt h)
structure okC (s : CF) : Prop where
  bd : ∀ z ∈ s.L, 1 ≤ z.num ∧ z.num < s.next ∧ z.d.length ≤ 600
  sp : ∀ z ∈ s.L, 0 ≤ z.ses
  e1 : ∀ e, e ∈ s.E1 ↔ ∃ z ∈ s.L, e = ((z.num : Int), (z.till : Int))
  e2 : ∀ e, e ∈ s.E2 ↔ ∃ z ∈ s.L, z.ses ≠ 0 ∧ e = ((z.num : Int), (z.dl : Int))
  cnt : s.next = 1 + s.L.length + s.acked + s.over + s.gone
theorem Ord.inj (O : Ord s) {z y : Cp} (hz : z ∈ s.L) (hy : y ∈ s.L) (e : z.num = y.num) : z = y := by
  obtain ⟨i, hi⟩ := List.getElem?_of_mem hz
  obtain ⟨j, hj⟩ := List.getElem?_of_mem hy
  have li := (List.getElem?_eq_some_iff.1 hi).1
  by_cases hij : i = j
  · subst hij; rw [hi] at hj; exact Option.some.inj hj
  · exfalso
    have h1 : (s.L.map Cp.num)[i]? = some z.num := by rw [List.getElem?_map, hi]; rfl
    have h2 : (s.L.map Cp.num)[j]? = some y.num := by rw [List.getElem?_map, hj]; rfl
    have : i = j := (List.getElem?_inj (by rw [List.length_map]; exact li) O.nd).1 (h1.trans ((congrArg some e).trans h2.symm))
    exact hij this
theorem dropK_mem {L : List E} {k : Int} {e : E} : e ∈ dropK L k ↔ e ∈ L ∧ e.1 ≠ k := by unfold dropK; simp [List.mem_filter]
theorem setL_mem {L : List E} {k v : Int} {e : E} : e ∈ setL L k v ↔ e = (k, v) ∨ (e ∈ L ∧ e.1 ≠ k) := by
  unfold setL
  rw [(insertS_perm _ _).mem_iff, List.mem_cons, dropK_mem]
theorem setL_len (L : List E) (k v : Int) : (setL L k v).length ≤ L.length + 1 := by
  unfold setL
  rw [(insertS_perm _ _).length_eq, List.length_cons]
  have := dropK_len L k
  omega
theorem delL_mem {L : List Cp} {k : Int} {z : Cp} : z ∈ delL L k ↔ z ∈ L ∧ (z.num : Int) ≠ k := by unfold delL; simp [List.mem_filter]
theorem setC_mem {L : List Cp} {n : Nat} {a : Int} {b : Nat} {z : Cp} : z ∈ setC L n a b ↔ ∃ y ∈ L, z = if y.num = n then { y with ses := a, dl := b } else y := by
  unfold setC; rw [List.mem_map]
  exact ⟨fun ⟨y, h1, h2⟩ => ⟨y, h1, h2.symm⟩, fun ⟨y, h1, h2⟩ => ⟨y, h1, h2.symm⟩⟩
theorem setC_len (L : List Cp) (n : Nat) (a : Int) (b : Nat) : (setC L n a b).length = L.length := by unfold setC; rw [List.length_map]
theorem del_len : ∀ {L : List Cp}, (L.map Cp.num).Nodup → ∀ {z : Cp}, z ∈ L → (delL L (z.num : Int)).length + 1 = L.length
  | [], _, z, hz => by cases hz
  | y :: l, nd, z, hz => by
    rw [List.map_cons, List.nodup_cons] at nd
    unfold delL
    rw [List.filter_cons]
    rcases List.mem_cons.1 hz with rfl | hz
    · rw [if_neg (by simp), List.filter_eq_self.2 (fun x hx => ?_), List.length_cons]
      have : x.num ≠ z.num := fun e => nd.1 (by rw [← e]; exact List.mem_map_of_mem hx)
      simp; omega
    · have hne : y.num ≠ z.num := fun e => nd.1 (by rw [e]; exact List.mem_map_of_mem hz)
      rw [if_pos (by simp; omega), List.length_cons, List.length_cons]
      have := del_len nd.2 hz
      unfold delL at this
      omega
/-! ### one call each -/
theorem okC.add (ok : okC s) (x : Ev) (d : List UInt8) (till : Nat) : okC (addF s x d till) := by
  unfold addF
  by_cases he : addE s x d till = 0
  · rw [if_pos he]
    have hd : d.length ≤ 600 := by
      unfold addE at he
      split at he
      · rename_i hm
        unfold mayC at hm
        simp only [Bool.and_eq_true, decide_eq_true_eq] at hm
        exact hm.2.2.2.1
      · cases he
    refine ⟨fun z hz => ?_, fun z hz => ?_, fun e => ?_, fun e => ?_, ?_⟩
    · rcases List.mem_append.1 hz with hz | hz
      · have := ok.bd z hz; exact ⟨this.1, Nat.lt_succ_of_lt this.2.1, this.2.2⟩
      · obtain rfl := List.mem_singleton.1 hz
        exact ⟨by have := ok.cnt; show 1 ≤ s.next; omega, Nat.lt_succ_self _, hd⟩
    · rcases List.mem_append.1 hz with hz | hz
      · exact ok.sp z hz
      · obtain rfl := List.mem_singleton.1 hz
        exact Int.le_refl _
    · show e ∈ setL s.E1 _ _ ↔ ∃ z ∈ s.L ++ [_], _
      rw [setL_mem, ok.e1]
      constructor
      · rintro (rfl | ⟨⟨z, hz, rfl⟩, _⟩)
        · exact ⟨_, List.mem_append.2 (.inr (List.mem_singleton.2 rfl)), rfl⟩
        · exact ⟨z, List.mem_append.2 (.inl hz), rfl⟩
      · rintro ⟨z, hz, rfl⟩
        rcases List.mem_append.1 hz with hz | hz
        · exact .inr ⟨⟨z, hz, rfl⟩, by have := (ok.bd z hz).2.1; show (z.num : Int) ≠ _; omega⟩
        · obtain rfl := List.mem_singleton.1 hz; exact .inl rfl
    · show e ∈ s.E2 ↔ ∃ z ∈ s.L ++ [_], _
      rw [ok.e2]
      constructor
      · rintro ⟨z, hz, h2⟩; exact ⟨z, List.mem_append.2 (.inl hz), h2⟩
      · rintro ⟨z, hz, h2⟩
        rcases List.mem_append.1 hz with hz | hz
        · exact ⟨z, hz, h2⟩
        · obtain rfl := List.mem_singleton.1 hz; exact absurd rfl h2.1
    · have := ok.cnt
      show s.next + 1 = 1 + (s.L ++ [_]).length + s.acked + s.over + s.gone
      rw [List.length_append, List.length_singleton]; omega
  · rw [if_neg he]; exact ok
theorem okC.rem (ok : okC s) (O : Ord s) {z : Cp} (hz : z ∈ s.L) (hL : s'.L = delL s.L (z.num : Int)) (h1 : s'.E1 = dropK s.E1 (z.num : Int)) (h2 : s'.E2 = dropK s.E2 (z.num : Int)) (hn : s'.next = s.next) (hc : s'.acked + s'.over + s'.gone = s.acked + s.over + s.gone + 1) : okC s' := by
  refine ⟨fun y hy => ?_, fun y hy => ?_, fun e => ?_, fun e => ?_, ?_⟩
  · rw [hL, delL_mem] at hy; rw [hn]; exact ok.bd y hy.1
  · rw [hL, delL_mem] at hy; exact ok.sp y hy.1
  · rw [h1, dropK_mem, ok.e1, hL]
    constructor
    · rintro ⟨⟨y, hy, rfl⟩, hne⟩; exact ⟨y, delL_mem.2 ⟨hy, hne⟩, rfl⟩
    · rintro ⟨y, hy, rfl⟩; have := delL_mem.1 hy; exact ⟨⟨y, this.1, rfl⟩, this.2⟩
  · rw [h2, dropK_mem, ok.e2, hL]
    constructor
    · rintro ⟨⟨y, hy, hs, rfl⟩, hne⟩; exact ⟨y, delL_mem.2 ⟨hy, hne⟩, hs, rfl⟩
    · rintro ⟨y, hy, hs, rfl⟩; have := delL_mem.1 hy; exact ⟨⟨y, this.1, hs, rfl⟩, this.2⟩
  · have := del_len O.nd hz
    have := ok.cnt
    rw [hn, hL]; omega
theorem findE_ok {L : List Cp} {k ses : Int} (h : findE L k ses = 0) : ∃ z ∈ L, (z.num : Int) = k ∧ z.ses = ses ∧ ses ≠ 0 := by
  unfold findE at h
  cases hg : getC L k with
  | none => rw [hg] at h; cases h
  | some z =>
    rw [hg] at h
    dsimp only at h
    split at h
    · cases h
    · rename_i hn
      obtain ⟨h1, h2⟩ := getC_some hg
      refine ⟨z, h1, h2, ?_, ?_⟩ <;> (simp only [not_or, Decidable.not_not] at hn)
      · exact hn.2
      · rw [← hn.2]; exact hn.1
theorem findE_of (O : Ord s) {k ses : Int} {z : Cp} (hz : z ∈ s.L) (e : (z.num : Int) = k) (h1 : z.ses = ses) (h2 : ses ≠ 0) : findE s.L k ses = 0 := by
  unfold findE
  cases hg : getC s.L k with
  | none => exact absurd e (getC_none.1 hg z hz)
  | some y =>
    obtain ⟨g1, g2⟩ := getC_some hg
    obtain rfl := O.inj hz g1 (by omega)
    dsimp only
    rw [if_neg]
    rw [h1]; simp [h2]
theorem okC.ack (ok : okC s) (O : Ord s) (k ses : Int) : okC (ackF s k ses) := by
  unfold ackF
  by_cases he : findE s.L k ses = 0
  · rw [if_pos he]
    obtain ⟨z, hz, rfl, _, _⟩ := findE_ok he
    exact ok.rem O hz rfl rfl rfl rfl (by show s.acked + 1 + s.over + s.gone = _; omega)
  · rw [if_neg he]; exact ok
theorem okC.set (ok : okC s) (O : Ord s) {z : Cp} (hz : z ∈ s.L) {a : Int} {b : Nat} (ha : 0 ≤ a) (hL : s'.L = setC s.L z.num a b) (h1 : s'.E1 = s.E1) (h2 : ∀ e, e ∈ s'.E2 ↔ (a ≠ 0 ∧ e = ((z.num : Int), (b : Int))) ∨ (e ∈ s.E2 ∧ e.1 ≠ (z.num : Int))) (hn : s'.next = s.next) (hc : s'.acked + s'.over + s'.gone = s.acked + s.over + s.gone) : okC s' := by
  refine ⟨fun y hy => ?_, fun y hy => ?_, fun e => ?_, fun e => ?_, ?_⟩
  · rw [hL, setC_mem] at hy
    obtain ⟨u, hu, rfl⟩ := hy
    rw [hn]
    have := ok.bd u hu
    split <;> exact this
  · rw [hL, setC_mem] at hy
    obtain ⟨u, hu, rfl⟩ := hy
    split
    · exact ha
    · exact ok.sp u hu
  · rw [h1, ok.e1, hL]
    constructor
    · rintro ⟨y, hy, rfl⟩
      refine ⟨_, setC_mem.2 ⟨y, hy, rfl⟩, ?_⟩
      split <;> rfl
    · rintro ⟨y, hy, rfl⟩
      obtain ⟨u, hu, rfl⟩ := setC_mem.1 hy
      refine ⟨u, hu, ?_⟩
      split <;> rfl
  · rw [h2, ok.e2, hL]
    constructor
    · rintro (⟨h3, rfl⟩ | ⟨⟨y, hy, h4, rfl⟩, h5⟩)
      · refine ⟨_, setC_mem.2 ⟨z, hz, rfl⟩, ?_⟩
        rw [if_pos rfl]; exact ⟨h3, rfl⟩
      · refine ⟨_, setC_mem.2 ⟨y, hy, rfl⟩, ?_⟩
        rw [if_neg (fun e => h5 (by rw [e]))]; exact ⟨h4, rfl⟩
    · rintro ⟨y, hy, h4, rfl⟩
      obtain ⟨u, hu, rfl⟩ := setC_mem.1 hy
      by_cases e : u.num = z.num
      · rw [if_pos e] at h4 ⊢
        exact .inl ⟨h4, by rw [← e]⟩
      · rw [if_neg e] at h4 ⊢
        exact .inr ⟨⟨u, hu, h4, rfl⟩, by show (u.num : Int) ≠ _; omega⟩
  · have := ok.cnt
    rw [hn, hL, setC_len]; omega
theorem okC.rel (ok : okC s) (O : Ord s) (k ses : Int) : okC (relF s k ses) := by
  unfold relF
  by_cases he : findE s.L k ses = 0
  · rw [if_pos he]
    obtain ⟨z, hz, rfl, _, _⟩ := findE_ok he
    rw [Int.toNat_natCast]
    refine ok.set O hz (Int.le_refl 0) rfl rfl (fun e => ?_) rfl rfl
    show e ∈ dropK _ _ ↔ _
    rw [dropK_mem]
    simp
  · rw [if_neg he]; exact ok
theorem leaseC_mem {L : List Cp} {x : Ev} {z : Cp} (h : leaseC L x = some z) : z ∈ L ∧ z.e = x ∧ z.ses = 0 := by
  unfold leaseC ofL at h
  have h1 := List.mem_of_find?_eq_some h
  have h2 := List.find?_some h
  rw [List.mem_filter] at h1
  exact ⟨h1.1, by simpa using h1.2, by simpa using h2⟩
theorem okC.lease (ok : okC s) (O : Ord s) {z : Cp} (hz : z ∈ s.L) {ses : Int} {dl : Nat} (hm : mayS ses dl) : okC (leaseF s z ses dl) := by
  have h1 := hm.1
  refine ok.set O hz (by omega) rfl rfl (fun e => ?_) rfl rfl
  show e ∈ setL _ _ _ ↔ _
  rw [setL_mem]
  have : ses ≠ 0 := by omega
  simp [this]
end Cps
end Go.Proofs.Ytgccegnmggjkjaa
