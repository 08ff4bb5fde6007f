/-
  What is proved here: plain facts on the tables of copies: Pass and Drop. No condition.
-/
import Derived.Test.YtgccegnmggjkjaaCpP
set_option maxRecDepth 100000
namespace Go.Proofs.Ytgccegnmggjkjaa
open Go.Den Go.Heapq
namespace Cps
open Eid Alarm Fld
variable {h h' : Heap} {t : Nat} {X X' : Ft} {s s' : CF} {p : Option Addr} {n c : Nat} {now : Int}
theorem sorted_split : ∀ {L : List E}, Sorted L → Alarm.due L now = L.filter (isDue now) ∧ Alarm.rest L now = L.filter (fun e => !isDue now e)
  | [], _ => ⟨rfl, rfl⟩
  | e :: r, hs => by
    have hs' := List.pairwise_cons.1 hs
    obtain ⟨i1, i2⟩ := sorted_split (L := r) hs'.2
    unfold Alarm.due at i1 ⊢
    unfold Alarm.rest at i2 ⊢
    by_cases he : isDue now e = true
    · rw [List.takeWhile_cons, List.dropWhile_cons, List.filter_cons, List.filter_cons, he]
      simp only [if_true, Bool.not_true, Bool.false_eq_true, if_false]
      rw [i1, i2]
      exact ⟨rfl, rfl⟩
    · have he' : isDue now e = false := by simpa using he
      have all : ∀ x ∈ r, isDue now x = false := by
        intro x hx
        have h1 := hs'.1 x hx
        unfold isDue at he' ⊢
        have h2 := of_decide_eq_false he'
        apply decide_eq_false
        rcases h1 with h1 | h1 <;> omega
      rw [List.takeWhile_cons, List.dropWhile_cons, List.filter_cons, List.filter_cons, he']
      simp only [Bool.false_eq_true, if_false, Bool.not_false, if_true]
      refine ⟨?_, ?_⟩
      · symm; rw [List.filter_eq_nil_iff]; intro x hx; rw [all x hx]; simp
      · congr 1; symm; rw [List.filter_eq_self]; intro x hx; rw [all x hx]; rfl
def outC (L : List Cp) (ks : List Int) : List Cp := L.filter (fun z => !decide ((z.num : Int) ∈ ks))
def outE (L : List E) (ks : List Int) : List E := L.filter (fun e => !decide (e.1 ∈ ks))
theorem outC_nil (L : List Cp) : outC L [] = L := by unfold outC; exact List.filter_eq_self.2 (fun _ _ => by simp)
theorem outE_nil (L : List E) : outE L [] = L := by unfold outE; exact List.filter_eq_self.2 (fun _ _ => by simp)
theorem outC_cons (L : List Cp) (k : Int) (ks : List Int) : outC (delL L k) ks = outC L (k :: ks) := by
  unfold outC delL
  rw [List.filter_filter]
  apply List.filter_congr
  intro x _
  by_cases h1 : (x.num : Int) = k
  · simp [h1]
  · by_cases h2 : (x.num : Int) ∈ ks <;> simp [h1, h2]
theorem outE_cons (L : List E) (k : Int) (ks : List Int) : outE (dropK L k) ks = outE L (k :: ks) := by
  unfold outE dropK
  rw [List.filter_filter]
  apply List.filter_congr
  intro x _
  by_cases h1 : x.1 = k
  · simp [h1]
  · by_cases h2 : x.1 ∈ ks <;> simp [h1, h2]
theorem fold_over : ∀ (ks : List Int) (s : CF), ks.foldl remOver s = { s with L := outC s.L ks, E1 := outE s.E1 ks, E2 := outE s.E2 ks, over := s.over + ks.length }
  | [], s => by rw [outC_nil, outE_nil, outE_nil]; rfl
  | k :: ks, s => by
    rw [List.foldl_cons, fold_over ks]
    unfold remOver remF
    dsimp only
    rw [outC_cons, outE_cons, outE_cons, List.length_cons]
    congr 1; omega
theorem fold_gone : ∀ (ks : List Int) (s : CF), ks.foldl remGone s = { s with L := outC s.L ks, E1 := outE s.E1 ks, E2 := outE s.E2 ks, gone := s.gone + ks.length }
  | [], s => by rw [outC_nil, outE_nil, outE_nil]; rfl
  | k :: ks, s => by
    rw [List.foldl_cons, fold_gone ks]
    unfold remGone remF
    dsimp only
    rw [outC_cons, outE_cons, outE_cons, List.length_cons]
    congr 1; omega
def freeC (L : List Cp) (ks : List Int) : List Cp := L.map (fun z => if (z.num : Int) ∈ ks then { z with ses := 0, dl := 0 } else z)
theorem fold_free : ∀ (ks : List Int) (s : CF), (∀ k ∈ ks, 0 ≤ k) → ks.foldl (fun s k => freeF s k.toNat) s = { s with L := freeC s.L ks, E2 := outE s.E2 ks }
  | [], s, _ => by
    rw [outE_nil]
    have : freeC s.L [] = s.L := by unfold freeC; simp
    rw [this]; rfl
  | k :: ks, s, hp => by
    rw [List.foldl_cons, fold_free ks _ (fun j hj => hp j (List.mem_cons_of_mem _ hj))]
    have hk := hp k (by simp)
    unfold freeF
    dsimp only
    have e : ((k.toNat : Nat) : Int) = k := by omega
    rw [e, outE_cons]
    have : freeC (setC s.L k.toNat 0 0) ks = freeC s.L (k :: ks) := by
      unfold freeC setC
      rw [List.map_map]
      apply List.map_congr_left
      intro x _
      show (fun z : Cp => if (z.num : Int) ∈ ks then ({ z with ses := 0, dl := 0 } : Cp) else z) (if x.num = k.toNat then ({ x with ses := 0, dl := 0 } : Cp) else x) = _
      by_cases h1 : x.num = k.toNat
      · have h1' : (x.num : Int) = k := by omega
        rw [if_pos h1, if_pos (show (x.num : Int) ∈ k :: ks by rw [h1']; simp)]
        dsimp only
        split <;> rfl
      · have h1' : (x.num : Int) ≠ k := by omega
        rw [if_neg h1]
        dsimp only
        by_cases h2 : (x.num : Int) ∈ ks
        · rw [if_pos h2, if_pos (List.mem_cons_of_mem _ h2)]
        · rw [if_neg h2, if_neg (by simp [h1', h2])]
    rw [this]
theorem out_len : ∀ (ks : List Int) (L : List Cp), (L.map Cp.num).Nodup → ks.Nodup → (∀ k ∈ ks, ∃ z ∈ L, (z.num : Int) = k) → (outC L ks).length + ks.length = L.length
  | [], L, _, _, _ => by rw [outC_nil]; rfl
  | k :: ks, L, nd, nk, hk => by
    obtain ⟨z, hz, rfl⟩ := hk k (by simp)
    rw [← outC_cons, List.length_cons]
    have h1 := del_len nd hz
    have nk' := List.nodup_cons.1 nk
    have h2 := out_len ks (delL L (z.num : Int)) (List.Pairwise.sublist (List.Sublist.map _ List.filter_sublist) nd) nk'.2 (fun j hj => by
      obtain ⟨y, hy, e⟩ := hk j (List.mem_cons_of_mem _ hj)
      exact ⟨y, delL_mem.2 ⟨hy, fun e2 => nk'.1 (by rw [← e2, e]; exact hj)⟩, e⟩)
    omega
theorem outC_mem {L : List Cp} {ks : List Int} {z : Cp} : z ∈ outC L ks ↔ z ∈ L ∧ (z.num : Int) ∉ ks := by unfold outC; simp [List.mem_filter]
theorem outE_mem {L : List E} {ks : List Int} {e : E} : e ∈ outE L ks ↔ e ∈ L ∧ e.1 ∉ ks := by unfold outE; simp [List.mem_filter]
theorem freeC_mem {L : List Cp} {ks : List Int} {z : Cp} : z ∈ freeC L ks ↔ ∃ y ∈ L, z = if (y.num : Int) ∈ ks then { y with ses := 0, dl := 0 } else y := by
  unfold freeC; rw [List.mem_map]
  exact ⟨fun ⟨y, h1, h2⟩ => ⟨y, h1, h2.symm⟩, fun ⟨y, h1, h2⟩ => ⟨y, h1, h2.symm⟩⟩
/-! ### Drop -/
theorem of_nodup (O : Ord s) (x : Ev) : ((ofL s.L x).map (fun z => (z.num : Int))).Nodup := by
  have : ((ofL s.L x).map Cp.num).Nodup := List.Pairwise.sublist (List.Sublist.map _ List.filter_sublist) O.nd
  have e : (ofL s.L x).map (fun z => (z.num : Int)) = ((ofL s.L x).map Cp.num).map (fun n : Nat => (n : Int)) := by rw [List.map_map]; rfl
  rw [e]
  exact List.Pairwise.map _ (fun a b h => by omega) this
theorem of_mem (O : Ord s) {x : Ev} {z : Cp} (hz : z ∈ s.L) : (z.num : Int) ∈ (ofL s.L x).map (fun z => (z.num : Int)) ↔ z.e = x := by
  rw [List.mem_map]
  unfold ofL
  constructor
  · rintro ⟨y, hy, e⟩
    rw [List.mem_filter] at hy
    obtain rfl := O.inj hz hy.1 (by omega)
    simpa using hy.2
  · intro e; exact ⟨z, List.mem_filter.2 ⟨hz, by simpa using e⟩, rfl⟩
theorem okC.outs (ok : okC s) (O : Ord s) {ks : List Int} (nk : ks.Nodup) (hk : ∀ k ∈ ks, ∃ z ∈ s.L, (z.num : Int) = k) (hL : s'.L = outC s.L ks) (h1 : s'.E1 = outE s.E1 ks) (h2 : s'.E2 = outE s.E2 ks) (hn : s'.next = s.next) (hc : s'.acked + s'.over + s'.gone = s.acked + s.over + s.gone + ks.length) : okC s' := by
  refine ⟨fun y hy => ?_, fun y hy => ?_, fun e => ?_, fun e => ?_, ?_⟩
  · rw [hL, outC_mem] at hy; rw [hn]; exact ok.bd y hy.1
  · rw [hL, outC_mem] at hy; exact ok.sp y hy.1
  · rw [h1, outE_mem, ok.e1, hL]
    constructor
    · rintro ⟨⟨y, hy, rfl⟩, hne⟩; exact ⟨y, outC_mem.2 ⟨hy, hne⟩, rfl⟩
    · rintro ⟨y, hy, rfl⟩; have := outC_mem.1 hy; exact ⟨⟨y, this.1, rfl⟩, this.2⟩
  · rw [h2, outE_mem, ok.e2, hL]
    constructor
    · rintro ⟨⟨y, hy, hs, rfl⟩, hne⟩; exact ⟨y, outC_mem.2 ⟨hy, hne⟩, hs, rfl⟩
    · rintro ⟨y, hy, hs, rfl⟩; have := outC_mem.1 hy; exact ⟨⟨y, this.1, hs, rfl⟩, this.2⟩
  · have := out_len ks s.L O.nd nk hk
    have := ok.cnt
    rw [hn, hL]; omega
theorem okC.drop (ok : okC s) (O : Ord s) (x : Ev) : okC (dropF s x) := by
  unfold dropF
  rw [fold_gone]
  refine ok.outs O (of_nodup O x) (fun k hk => ?_) rfl rfl rfl rfl (by show s.acked + s.over + (s.gone + _) = _; omega)
  obtain ⟨z, hz, e⟩ := List.mem_map.1 hk
  exact ⟨z, (List.mem_filter.1 hz).1, e⟩
theorem drop_mem (O : Ord s) {x : Ev} {z : Cp} : z ∈ (dropF s x).L ↔ z ∈ s.L ∧ z.e ≠ x := by
  unfold dropF
  rw [fold_gone]
  show z ∈ outC _ _ ↔ _
  rw [outC_mem]
  constructor
  · rintro ⟨h1, h2⟩; exact ⟨h1, fun e => h2 ((of_mem O h1).2 e)⟩
  · rintro ⟨h1, h2⟩; exact ⟨h1, fun e => h2 ((of_mem O h1).1 e)⟩
/-! ### Pass -/
theorem due_mem (O : Ord s) {e : E} : e ∈ Alarm.due s.E1 now ↔ e ∈ s.E1 ∧ e.2 ≤ now := by
  rw [(sorted_split O.o1).1, List.mem_filter]
  unfold isDue
  simp
theorem due_nodup (O : Ord s) (now : Int) : (keys (Alarm.due s.E1 now)).Nodup := by
  unfold keys
  exact List.Pairwise.sublist (List.Sublist.map _ (List.takeWhile_sublist _)) O.n1
theorem due_num (ok : okC s) (O : Ord s) {z : Cp} (hz : z ∈ s.L) : (z.num : Int) ∈ keys (Alarm.due s.E1 now) ↔ (z.till : Int) ≤ now := by
  unfold keys
  rw [List.mem_map]
  constructor
  · rintro ⟨e, he, e1⟩
    obtain ⟨h1, h2⟩ := (due_mem O).1 he
    obtain ⟨y, hy, rfl⟩ := (ok.e1 e).1 h1
    obtain rfl := O.inj hy hz (Int.ofNat.inj e1)
    exact h2
  · intro h; exact ⟨(z.num, z.till), (due_mem O).2 ⟨(ok.e1 _).2 ⟨z, hz, rfl⟩, h⟩, rfl⟩
theorem due_in (ok : okC s) (O : Ord s) {k : Int} (hk : k ∈ keys (Alarm.due s.E1 now)) : ∃ z ∈ s.L, (z.num : Int) = k := by
  unfold keys at hk
  obtain ⟨e, he, rfl⟩ := List.mem_map.1 hk
  obtain ⟨z, hz, rfl⟩ := (ok.e1 e).1 ((due_mem O).1 he).1
  exact ⟨z, hz, rfl⟩
theorem outE_rest (O : Ord s) : outE (Alarm.rest s.E1 now) (keys (Alarm.due s.E1 now)) = outE s.E1 (keys (Alarm.due s.E1 now)) := by
  rw [(sorted_split O.o1).1, (sorted_split O.o1).2]
  unfold outE keys
  rw [List.filter_filter]
  apply List.filter_congr
  intro e he
  by_cases hd : isDue now e = true
  · have : e.1 ∈ (s.E1.filter (isDue now)).map (·.1) := List.mem_map_of_mem (List.mem_filter.2 ⟨he, hd⟩)
    simp only [this, decide_true, Bool.not_true, Bool.false_and]
  · simp [hd]
def freeZ (now : Int) (z : Cp) : Cp := if z.ses ≠ 0 ∧ (z.dl : Int) ≤ now then { z with ses := 0, dl := 0 } else z
def overF (s : CF) (now : Int) : CF := { L := outC s.L (keys (Alarm.due s.E1 now)), next := s.next, acked := s.acked, over := s.over + (keys (Alarm.due s.E1 now)).length, gone := s.gone, E1 := outE s.E1 (keys (Alarm.due s.E1 now)), E2 := outE s.E2 (keys (Alarm.due s.E1 now)) }
def freeG (s1 : CF) (now : Int) : CF := (keys (Alarm.due s1.E2 now)).foldl (fun s k => freeF s k.toNat) { s1 with E2 := Alarm.rest s1.E2 now }
theorem passF_eq (O : Ord s) : passF s now = freeG (overF s now) now := by
  unfold passF freeG overF
  dsimp only
  rw [fold_over]
  dsimp only
  rw [outE_rest O]
theorem pass_all (ok : okC s) (O : Ord s) (now : Int) : okC (passF s now) ∧ (∀ z, z ∈ (passF s now).L ↔ ∃ y ∈ s.L, now < (y.till : Int) ∧ z = freeZ now y) ∧ (passF s now).next = s.next ∧ (passF s now).E1.length ≤ s.E1.length ∧ (passF s now).E2.length ≤ s.E2.length := by
  rw [passF_eq O]
  generalize hs1 : overF s now = s1
  have ok1 : okC s1 := by
    subst hs1
    exact ok.outs O (due_nodup O now) (fun k hk => due_in ok O hk) rfl rfl rfl rfl (by show s.acked + (s.over + _) + s.gone = _; omega)
  have O1 : Ord s1 := by
    subst hs1
    exact ⟨List.Pairwise.sublist (List.Sublist.map _ List.filter_sublist) O.nd, List.Pairwise.filter _ O.o1, List.Pairwise.filter _ O.o2, List.Pairwise.sublist (List.Sublist.map _ List.filter_sublist) O.n1, List.Pairwise.sublist (List.Sublist.map _ List.filter_sublist) O.n2⟩
  have m1 : ∀ z, z ∈ s1.L ↔ z ∈ s.L ∧ now < (z.till : Int) := fun z => by
    subst hs1
    show z ∈ outC _ _ ↔ _
    rw [outC_mem]
    constructor
    · rintro ⟨h1, h2⟩; exact ⟨h1, Int.not_le.1 (fun e => h2 ((due_num ok O h1).2 e))⟩
    · rintro ⟨h1, h2⟩; exact ⟨h1, fun e => absurd ((due_num ok O h1).1 e) (Int.not_le.2 h2)⟩
  have n1 : s1.next = s.next := by subst hs1; rfl
  have l1 : s1.E1.length ≤ s.E1.length := by subst hs1; exact List.length_filter_le _ _
  have l2 : s1.E2.length ≤ s.E2.length := by subst hs1; exact List.length_filter_le _ _
  clear hs1
  have dm : ∀ e, e ∈ Alarm.due s1.E2 now ↔ e ∈ s1.E2 ∧ e.2 ≤ now := fun e => by
    rw [(sorted_split O1.o2).1, List.mem_filter]; unfold isDue; simp
  have dn : ∀ z ∈ s1.L, ((z.num : Int) ∈ keys (Alarm.due s1.E2 now) ↔ z.ses ≠ 0 ∧ (z.dl : Int) ≤ now) := fun z hz => by
    unfold keys
    rw [List.mem_map]
    constructor
    · rintro ⟨e, he, e1⟩
      obtain ⟨h1, h2⟩ := (dm e).1 he
      obtain ⟨y, hy, hs, rfl⟩ := (ok1.e2 e).1 h1
      obtain rfl := O1.inj hy hz (Int.ofNat.inj e1)
      exact ⟨hs, h2⟩
    · rintro ⟨h1, h2⟩; exact ⟨(z.num, z.dl), (dm _).2 ⟨(ok1.e2 _).2 ⟨z, hz, h1, rfl⟩, h2⟩, rfl⟩
  have dp : ∀ k ∈ keys (Alarm.due s1.E2 now), 0 ≤ k := fun k hk => by
    unfold keys at hk
    obtain ⟨e, he, rfl⟩ := List.mem_map.1 hk
    obtain ⟨z, hz, _, rfl⟩ := (ok1.e2 e).1 ((dm e).1 he).1
    show (0 : Int) ≤ (z.num : Int); omega
  unfold freeG
  rw [fold_free _ _ dp]
  have fz : ∀ z ∈ s1.L, (if (z.num : Int) ∈ keys (Alarm.due s1.E2 now) then ({ z with ses := 0, dl := 0 } : Cp) else z) = freeZ now z := fun z hz => by
    unfold freeZ
    by_cases hd : z.ses ≠ 0 ∧ (z.dl : Int) ≤ now
    · rw [if_pos hd, if_pos ((dn z hz).2 hd)]
    · rw [if_neg hd, if_neg (fun e => hd ((dn z hz).1 e))]
  have fm : ∀ z, z ∈ freeC s1.L (keys (Alarm.due s1.E2 now)) ↔ ∃ y ∈ s1.L, z = freeZ now y := fun z => by
    rw [freeC_mem]
    constructor
    · rintro ⟨y, hy, rfl⟩; exact ⟨y, hy, fz y hy⟩
    · rintro ⟨y, hy, rfl⟩; exact ⟨y, hy, (fz y hy).symm⟩
  have fnum : ∀ y, (freeZ now y).num = y.num := fun y => by unfold freeZ; split <;> rfl
  have ftill : ∀ y, (freeZ now y).till = y.till := fun y => by unfold freeZ; split <;> rfl
  have fd : ∀ y, (freeZ now y).d = y.d := fun y => by unfold freeZ; split <;> rfl
  refine ⟨⟨fun z hz => ?_, fun z hz => ?_, fun e => ?_, fun e => ?_, ?_⟩, fun z => ?_, n1, l1, ?_⟩
  · obtain ⟨y, hy, rfl⟩ := (fm z).1 hz
    rw [fnum, fd]; exact ok1.bd y hy
  · obtain ⟨y, hy, rfl⟩ := (fm z).1 hz
    unfold freeZ
    split
    · exact Int.le_refl _
    · exact ok1.sp y hy
  · show e ∈ s1.E1 ↔ ∃ z ∈ freeC _ _, _
    rw [ok1.e1]
    constructor
    · rintro ⟨y, hy, rfl⟩; exact ⟨_, (fm _).2 ⟨y, hy, rfl⟩, by rw [fnum, ftill]⟩
    · rintro ⟨z, hz, rfl⟩
      obtain ⟨y, hy, rfl⟩ := (fm z).1 hz
      exact ⟨y, hy, by rw [fnum, ftill]⟩
  · show e ∈ outE (Alarm.rest s1.E2 now) _ ↔ ∃ z ∈ freeC _ _, _
    rw [outE_mem, (sorted_split O1.o2).2, List.mem_filter]
    constructor
    · rintro ⟨⟨h1, h2⟩, h3⟩
      obtain ⟨y, hy, hs, rfl⟩ := (ok1.e2 e).1 h1
      have hd : ¬ (y.ses ≠ 0 ∧ (y.dl : Int) ≤ now) := fun hd => h3 ((dn y hy).2 hd)
      refine ⟨_, (fm _).2 ⟨y, hy, rfl⟩, ?_⟩
      unfold freeZ
      rw [if_neg hd]
      exact ⟨hs, rfl⟩
    · rintro ⟨z, hz, hs, rfl⟩
      obtain ⟨y, hy, rfl⟩ := (fm z).1 hz
      unfold freeZ at hs ⊢
      by_cases hd : y.ses ≠ 0 ∧ (y.dl : Int) ≤ now
      · rw [if_pos hd] at hs; exact absurd rfl hs
      · rw [if_neg hd] at hs ⊢
        refine ⟨⟨(ok1.e2 _).2 ⟨y, hy, hs, rfl⟩, ?_⟩, fun hk => hd ((dn y hy).1 hk)⟩
        have : ¬ (y.dl : Int) ≤ now := fun e => hd ⟨hs, e⟩
        unfold isDue
        simpa using this
  · have := ok1.cnt
    show s1.next = 1 + (freeC _ _).length + _ + _ + _
    unfold freeC
    rw [List.length_map]; exact this
  · show z ∈ freeC _ _ ↔ _
    rw [fm]
    constructor
    · rintro ⟨y, hy, rfl⟩; have := (m1 y).1 hy; exact ⟨y, this.1, this.2, rfl⟩
    · rintro ⟨y, hy, hn, rfl⟩; exact ⟨y, (m1 y).2 ⟨hy, hn⟩, rfl⟩
  · refine Nat.le_trans (List.length_filter_le _ _) (Nat.le_trans (rest_len _ _) l2)
end Cps
end Go.Proofs.Ytgccegnmggjkjaa
