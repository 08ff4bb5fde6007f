/-
  What is proved here: plain facts on records of sessions: what is loaded of what was saved. No program in sight. No condition.
-/
import Derived.Test.YtlnofnmdiddmkaaSesSave
namespace Go.Proofs.Ytlnofnmdiddmkaa
open Go.Den Go.Fields
namespace Ses
open Fld
variable {A : List Ses}

abbrev Recs := List (List UInt8)
structure HD where
  num : Nat
  token : Nat
  up : Bool
  watch : Bool
  k : Nat
  n : Nat
  e : Int
def rdHead (b : List UInt8) : HD :=
  let a := readInt 0 b
  let t := readNum a.2.1 a.2.2
  let u := readMost 1 t.2.1 t.2.2
  let w := readMost 1 u.2.1 u.2.2
  let k := readInt w.2.1 w.2.2
  let n := readInt k.2.1 k.2.2
  ⟨a.1, t.1, decide (u.1 = 1), decide (w.1 = 1), k.1, n.1, readEnd n.2.1 n.2.2⟩
def headOK (A : List Ses) (b : List UInt8) : Prop := (rdHead b).e = 0 ∧ (rdHead b).k ≤ 6 ∧ (rdHead b).n ≤ 6 ∧ openE A (rdHead b).token = 0 ∧ openN A (rdHead b).token = ((rdHead b).num : Int)
instance (A : List Ses) (b : List UInt8) : Decidable (headOK A b) := by unfold headOK; infer_instance
def ansI (b : List UInt8) : Nat := (readNum 0 b).1
def ansD (b : List UInt8) : List UInt8 := (readText (readNum 0 b).2.1 (readNum 0 b).2.2).1
def ansE (b : List UInt8) : Int := readEnd (readText (readNum 0 b).2.1 (readNum 0 b).2.2).2.1 (readText (readNum 0 b).2.1 (readNum 0 b).2.2).2.2
def ansOK (K : List (Nat × List UInt8)) (b : List UInt8) : Prop := ansE b = 0 ∧ keptL K (ansI b) = none ∧ ansI b ≤ 1099511627776 ∧ (ansD b).length ≤ 1000
instance (K : List (Nat × List UInt8)) (b : List UInt8) : Decidable (ansOK K b) := by unfold ansOK; infer_instance
def keptN (ls : Recs) : Nat → Option (List (Nat × List UInt8) × Recs)
  | 0 => some ([], ls)
  | j + 1 => match keptN ls j with
    | none => none
    | some (_, []) => none
    | some (K, b :: rest) => if ansOK K b then some (K ++ [(ansI b, ansD b)], rest) else none
def noteOK (b : List UInt8) : Prop := readEnd (readText 0 b).2.1 (readText 0 b).2.2 = 0 ∧ isNoteB (readText 0 b).1 = true
instance (b : List UInt8) : Decidable (noteOK b) := by unfold noteOK; infer_instance
def notesN (ls : Recs) : Nat → Option (List (List UInt8) × Recs)
  | 0 => some ([], ls)
  | j + 1 => match notesN ls j with
    | none => none
    | some (_, []) => none
    | some (N, b :: rest) => if noteOK b then some (N ++ [(readText 0 b).1], rest) else none
def loadS (A : List Ses) : Recs → Option (List Ses × Recs)
  | [] => none
  | b :: l1 => if headOK A b then (match keptN l1 (rdHead b).k with
    | none => none
    | some (K, l2) => (match notesN l2 (rdHead b).n with
      | none => none
      | some (N, l3) => some (A ++ [⟨(rdHead b).num, (rdHead b).token, (rdHead b).up, (rdHead b).watch, K, N⟩], l3))) else none
inductive Reach (ls0 : Recs) : List Ses → Recs → Prop
  | start : Reach ls0 [] ls0
  | step {A A' : List Ses} {ls ls' : Recs} (h : Reach ls0 A ls) (hs : loadS A ls = some (A', ls')) : Reach ls0 A' ls'

theorem keptN_len (ls : Recs) : ∀ (j : Nat) (K : List (Nat × List UInt8)) (r : Recs), keptN ls j = some (K, r) → j ≤ ls.length ∧ r = ls.drop j ∧ K.length = j
  | 0, K, r, h => by simp [keptN] at h; obtain ⟨rfl, rfl⟩ := h; simp
  | j + 1, K, r, h => by
    rw [keptN] at h
    split at h
    · cases h
    · cases h
    · rename_i K' b rest hj
      obtain ⟨h1, h2, h3⟩ := keptN_len ls j K' _ hj
      split at h
      · simp at h
        obtain ⟨rfl, rfl⟩ := h
        have hl : (ls.drop j).length = rest.length + 1 := by rw [← h2]; rfl
        rw [List.length_drop] at hl
        refine ⟨by omega, ?_, by rw [List.length_append, h3]; rfl⟩
        have : (ls.drop j).drop 1 = rest := by rw [← h2]; rfl
        rw [← this, List.drop_drop]
      · cases h
theorem notesN_len (ls : Recs) : ∀ (j : Nat) (K : List (List UInt8)) (r : Recs), notesN ls j = some (K, r) → j ≤ ls.length ∧ r = ls.drop j ∧ K.length = j
  | 0, K, r, h => by simp [notesN] at h; obtain ⟨rfl, rfl⟩ := h; simp
  | j + 1, K, r, h => by
    rw [notesN] at h
    split at h
    · cases h
    · cases h
    · rename_i K' b rest hj
      obtain ⟨h1, h2, h3⟩ := notesN_len ls j K' _ hj
      split at h
      · simp at h
        obtain ⟨rfl, rfl⟩ := h
        have hl : (ls.drop j).length = rest.length + 1 := by rw [← h2]; rfl
        rw [List.length_drop] at hl
        refine ⟨by omega, ?_, by rw [List.length_append, h3]; rfl⟩
        have : (ls.drop j).drop 1 = rest := by rw [← h2]; rfl
        rw [← this, List.drop_drop]
      · cases h

theorem rdHead_enc {s : Ses} {i : Nat} (ok : okS i s) (hi : i < 8) : rdHead (headR s) = ⟨s.num, s.token, s.up, s.watch, s.kept.length, s.notes.length, 0⟩ := by
  have h1 := ok.num
  have h2 := ok.tk
  have h3 := ok.kl
  have h4 := ok.nl
  unfold rdHead headR readInt
  simp only [List.append_assoc]
  rw [readMost_enc (by omega) (by omega)]
  dsimp only
  rw [readNum_enc (by omega)]
  dsimp only
  rw [readMost_enc (bit_le _) (by omega)]
  dsimp only
  rw [readMost_enc (bit_le _) (by omega)]
  dsimp only
  rw [readMost_enc (by omega) (by omega)]
  dsimp only
  have := readMost_enc (top := 1099511627776) (n := s.notes.length) (by omega) (by omega) []
  rw [List.append_nil] at this
  rw [this]
  dsimp only
  have eb : ∀ b : Bool, decide (bit b = 1) = b := fun b => by cases b <;> rfl
  rw [eb, eb]; rfl
theorem ansR_dec {a : Nat × List UInt8} (h1 : a.1 ≤ 1099511627776) (h2 : a.2.length ≤ 1000) : ansI (ansR a) = a.1 ∧ ansD (ansR a) = a.2 ∧ ansE (ansR a) = 0 := by
  have e1 : readNum 0 (ansR a) = (a.1, 0, encText a.2) := by unfold ansR; exact readNum_enc (by omega) _
  have e2 : readText 0 (encText a.2) = (a.2, 0, []) := by have := readText_enc (t := a.2) (by omega) []; rwa [List.append_nil] at this
  unfold ansI ansD ansE
  rw [e1]
  dsimp only
  rw [e2]
  exact ⟨rfl, rfl, rfl⟩
theorem note_dec {n : List UInt8} (h : n.length ≤ 600) : readText 0 (encText n) = (n, 0, []) := by
  have := readText_enc (t := n) (by omega) []; rwa [List.append_nil] at this
theorem keptN_enc {kept : List (Nat × List UInt8)} (hd : ∀ a ∈ kept, a.1 ≤ 1099511627776 ∧ a.2.length ≤ 1000) (hn : (kept.map (·.1)).Nodup) (rest : Recs) : ∀ j, j ≤ kept.length → keptN (kept.map ansR ++ rest) j = some (kept.take j, (kept.drop j).map ansR ++ rest)
  | 0, _ => by simp [keptN]
  | j + 1, hj => by
    have hjl : j < kept.length := by omega
    have ha : kept[j]? = some kept[j] := List.getElem?_eq_getElem hjl
    have hdj := hd _ (List.mem_of_getElem? ha)
    rw [keptN, keptN_enc hd hn rest j (by omega), List.drop_eq_getElem_cons hjl]
    rw [List.map_cons, List.cons_append]
    dsimp only
    obtain ⟨e1, e2, e3⟩ := ansR_dec hdj.1 hdj.2
    have hok : ansOK (kept.take j) (ansR kept[j]) := by
      refine ⟨e3, ?_, by rw [e1]; exact hdj.1, by rw [e2]; exact hdj.2⟩
      rw [e1]
      unfold keptL
      have : (kept.take j).find? (fun a => decide (a.1 = kept[j].1)) = none := by
        rw [List.find?_eq_none]
        intro y hy e
        have e : y.1 = kept[j].1 := by simpa using e
        obtain ⟨m, hm⟩ := List.getElem?_of_mem hy
        rw [List.getElem?_take] at hm
        split at hm
        · rename_i hmj
          have hml : m < (kept.map (·.1)).length := by rw [List.length_map]; omega
          have e1 : (kept.map (·.1))[m]? = some y.1 := by rw [List.getElem?_map, hm]; rfl
          have e2 : (kept.map (·.1))[j]? = some y.1 := by rw [List.getElem?_map, ha, e]; rfl
          have := (List.getElem?_inj hml hn).1 (e1.trans e2.symm)
          omega
        · cases hm
      rw [this]; rfl
    rw [if_pos hok, e1, e2, List.take_add_one, ha]; rfl
theorem notesN_enc {notes : List (List UInt8)} (hd : ∀ n ∈ notes, 1 ≤ n.length ∧ n.length ≤ 600) (rest : Recs) : ∀ j, j ≤ notes.length → notesN (notes.map encText ++ rest) j = some (notes.take j, (notes.drop j).map encText ++ rest)
  | 0, _ => by simp [notesN]
  | j + 1, hj => by
    have hjl : j < notes.length := by omega
    have ha : notes[j]? = some notes[j] := List.getElem?_eq_getElem hjl
    have hdj := hd _ (List.mem_of_getElem? ha)
    rw [notesN, notesN_enc hd rest j (by omega), List.drop_eq_getElem_cons hjl]
    rw [List.map_cons, List.cons_append]
    dsimp only
    have e1 := note_dec hdj.2
    have hok : noteOK (encText notes[j]) := by
      unfold noteOK
      rw [e1]
      exact ⟨rfl, by unfold isNoteB; simpa using hdj⟩
    rw [if_pos hok, e1, List.take_add_one, ha]; rfl
theorem head_open {s : Ses} (ok : okA (A ++ [s])) : openE A s.token = 0 ∧ openN A s.token = (s.num : Int) := by
  have o := ok.at_ A.length s (by simp)
  have hle := ok.le
  rw [List.length_append, List.length_singleton] at hle
  have e : openE A s.token = 0 := by
    unfold openE
    have := o.tk
    rw [if_neg (by omega), if_neg, if_neg (by omega)]
    intro hh
    unfold hasTk at hh
    rw [List.any_eq_true] at hh
    obtain ⟨x, hx, e⟩ := hh
    have htk := ok.tk
    rw [List.map_append, List.nodup_append] at htk
    exact htk.2.2 x.token (List.mem_map_of_mem hx) s.token (by simp) (by simpa using e)
  refine ⟨e, ?_⟩
  unfold openN
  rw [if_pos e, o.num]; rfl
theorem okA.pre {B : List Ses} (ok : okA (A ++ B)) : okA A := by
  refine ⟨?_, fun i s hs => ok.at_ i s ?_, ?_⟩
  · have := ok.le; rw [List.length_append] at this; omega
  · rw [List.getElem?_append_left (List.getElem?_eq_some_iff.1 hs).1]; exact hs
  · have := ok.tk; rw [List.map_append, List.nodup_append] at this; exact this.1
theorem loadS_enc {s : Ses} (ok : okA (A ++ [s])) (rest : Recs) : loadS A (recS s ++ rest) = some (A ++ [s], rest) := by
  have o := ok.at_ A.length s (by simp)
  have hle := ok.le
  rw [List.length_append, List.length_singleton] at hle
  have eh := rdHead_enc o (by omega)
  obtain ⟨o1, o2⟩ := head_open ok
  unfold recS
  rw [List.cons_append, loadS, if_pos (by unfold headOK; rw [eh]; exact ⟨rfl, o.kl, o.nl, o1, o2⟩), eh]
  dsimp only
  rw [List.append_assoc, keptN_enc o.kd o.ki _ _ (Nat.le_refl _)]
  dsimp only
  rw [List.drop_length, List.map_nil, List.nil_append, notesN_enc o.nd rest _ (Nat.le_refl _)]
  dsimp only
  rw [List.take_length, List.take_length, List.drop_length]
  simp
/-- saved and loaded -/
theorem reach_recs {A0 : List Ses} (ok : okA A0) (tail : Recs) : ∀ {A : List Ses} {ls : Recs}, Reach (recs A0 ++ tail) A ls → (∀ k, k ≤ A0.length → loadS A0 tail = none ∨ tail = []) → ∃ k, k ≤ A0.length ∧ A = A0.take k ∧ ls = recs (A0.drop k) ++ tail := by
  intro A ls hr hend
  induction hr with
  | start => exact ⟨0, Nat.zero_le _, by simp, by simp⟩
  | step h hs ih =>
    obtain ⟨k, hk, rfl, rfl⟩ := ih
    by_cases hlt : k < A0.length
    · have ha : A0[k]? = some A0[k] := List.getElem?_eq_getElem hlt
      have e1 : A0.take (k + 1) = A0.take k ++ [A0[k]] := by rw [List.take_add_one, ha]; rfl
      have ok1 : okA (A0.take k ++ [A0[k]]) := by
        rw [← e1]
        have : A0 = A0.take (k + 1) ++ A0.drop (k + 1) := (List.take_append_drop _ _).symm
        rw [this] at ok
        exact ok.pre
      have e2 : recs (A0.drop k) ++ tail = recS A0[k] ++ (recs (A0.drop (k + 1)) ++ tail) := by
        rw [List.drop_eq_getElem_cons hlt]
        unfold recs
        rw [List.flatMap_cons, List.append_assoc]
      rw [e2, loadS_enc ok1] at hs
      simp at hs
      obtain ⟨rfl, rfl⟩ := hs
      exact ⟨k + 1, by omega, by rw [e1], rfl⟩
    · have : k = A0.length := by omega
      subst this
      rw [List.take_length, List.drop_length] at hs
      have e0 : recs [] ++ tail = tail := rfl
      rw [e0] at hs
      rcases hend A0.length (Nat.le_refl _) with h1 | h1
      · rw [h1] at hs; cases hs
      · rw [h1] at hs; cases hs
theorem recs_nil {B : List Ses} (h : recs B = []) : B = [] := by
  cases B with
  | nil => rfl
  | cons s B => unfold recs at h; rw [List.flatMap_cons] at h; unfold recS at h; simp at h
/-- too few records -/
theorem loadS_short {s : Ses} {i : Nat} (ok : okS i s) (hi : i < 8) {Z : Recs} (hZ : Z.length < s.kept.length + s.notes.length) : loadS A (headR s :: Z) = none := by
  rw [loadS]
  split
  · rw [rdHead_enc ok hi]
    dsimp only
    cases hk : keptN Z s.kept.length with
    | none => rfl
    | some x =>
      obtain ⟨K, l2⟩ := x
      obtain ⟨h1, rfl, _⟩ := keptN_len Z _ _ _ hk
      dsimp only
      cases hn : notesN (Z.drop s.kept.length) s.notes.length with
      | none => rfl
      | some y =>
        obtain ⟨N, l3⟩ := y
        obtain ⟨h2, _⟩ := notesN_len _ _ _ _ hn
        rw [List.length_drop] at h2
        omega
  · rfl
/-- a head that is there already -/
theorem loadS_twice {s : Ses} {i : Nat} (ok : okS i s) (hi : i < 8) (hs : s ∈ A) {Z : Recs} : loadS A (headR s :: Z) = none := by
  rw [loadS, if_neg]
  unfold headOK
  rw [rdHead_enc ok hi]
  rintro ⟨_, _, _, h, _⟩
  dsimp only at h
  unfold openE at h
  have := ok.tk
  rw [if_neg (by omega), if_pos] at h
  · cases h
  · unfold hasTk; rw [List.any_eq_true]; exact ⟨s, hs, by simp⟩
end Ses
end Go.Proofs.Ytlnofnmdiddmkaa
