/-
  What is proved here: sessions as data: what each call does to a table, and that it keeps to its limits. No program in sight. No condition.
-/
import Derived.Test.YtlnofnmdiddmkaaSes
namespace Go.Proofs.Ytlnofnmdiddmkaa
namespace Ses

structure okS (i : Nat) (s : Ses) : Prop where
  num : s.num = i + 1
  tk : 1 ≤ s.token ∧ s.token ≤ 2147483648
  kl : s.kept.length ≤ 6
  nl : s.notes.length ≤ 6
  kd : ∀ a ∈ s.kept, a.1 ≤ 1099511627776 ∧ a.2.length ≤ 1000
  nd : ∀ n ∈ s.notes, 1 ≤ n.length ∧ n.length ≤ 600
  ki : (s.kept.map (·.1)).Nodup
structure okA (A : List Ses) : Prop where
  le : A.length ≤ 8
  at_ : ∀ i s, A[i]? = some s → okS i s
  tk : (A.map (·.token)).Nodup

def getA (A : List Ses) (num : Int) : Option Ses := if 1 ≤ num then A[(num - 1).toNat]? else none
theorem getA_some {A : List Ses} {num : Int} {s : Ses} (h : getA A num = some s) : ∃ i : Nat, num = (i : Int) + 1 ∧ A[i]? = some s := by
  unfold getA at h
  split at h
  · exact ⟨(num - 1).toNat, by omega, h⟩
  · cases h
theorem getA_at {A : List Ses} {i : Nat} : getA A ((i : Int) + 1) = A[i]? := by
  unfold getA
  rw [if_pos (by omega), show ((i : Int) + 1 - 1).toNat = i by omega]
theorem getA_none {A : List Ses} {num : Int} (h : num < 1 ∨ num > (A.length : Int)) : getA A num = none := by
  unfold getA
  split
  · rw [List.getElem?_eq_none (by omega)]
  · rfl
def setA (A : List Ses) (num : Int) (s : Ses) : List Ses := A.set (num - 1).toNat s

def upA (A : List Ses) (num : Int) : Bool := match getA A num with | some s => s.up | none => false
def hasTk (A : List Ses) (token : Nat) : Bool := A.any fun s => decide (s.token = token)
def openE (A : List Ses) (token : Nat) : Int := if token < 1 ∨ token > 2147483648 then 1 else if hasTk A token = true then 12 else if A.length ≥ 8 then 5 else 0
def openN (A : List Ses) (token : Nat) : Int := if openE A token = 0 then (A.length : Int) + 1 else 0
def openA (A : List Ses) (token : Nat) : List Ses := if openE A token = 0 then A ++ [⟨A.length + 1, token, true, false, [], []⟩] else A
def resE (A : List Ses) (token : Nat) : Int := match A.findIdx? (fun s => decide (s.token = token)) with | none => 12 | some i => match A[i]? with | some s => if s.up = true then 7 else 0 | none => 12
def resN (A : List Ses) (token : Nat) : Int := match A.findIdx? (fun s => decide (s.token = token)) with | none => 0 | some i => match A[i]? with | some s => if s.up = true then 0 else (s.num : Int) | none => 0
def resA (A : List Ses) (token : Nat) : List Ses := match A.findIdx? (fun s => decide (s.token = token)) with | none => A | some i => match A[i]? with | some s => if s.up = true then A else A.set i { s with up := true } | none => A
def downE (A : List Ses) (num : Int) : Int := match getA A num with | none => 4 | some s => if s.up = true then 0 else 7
def downA (A : List Ses) (num : Int) : List Ses := match getA A num with | none => A | some s => if s.up = true then setA A num { s with up := false } else A
def allDownA (A : List Ses) : List Ses := A.map fun s => { s with up := false }
def keepL (k : List (Nat × List UInt8)) (id : Nat) (d : List UInt8) : List (Nat × List UInt8) :=
  if (k.filter (fun a => decide (a.1 ≠ id)) ++ [(id, d)]).length > 6 then (k.filter (fun a => decide (a.1 ≠ id)) ++ [(id, d)]).drop 1 else k.filter (fun a => decide (a.1 ≠ id)) ++ [(id, d)]
def keepE (A : List Ses) (num : Int) (id : Nat) (d : List UInt8) : Int := match getA A num with | none => 4 | some _ => if id > 1099511627776 ∨ d.length > 1000 then 1 else 0
def keepA (A : List Ses) (num : Int) (id : Nat) (d : List UInt8) : List Ses := match getA A num with | none => A | some s => if id > 1099511627776 ∨ d.length > 1000 then A else setA A num { s with kept := keepL s.kept id d }
def keptL (k : List (Nat × List UInt8)) (id : Nat) : Option (List UInt8) := (k.find? (fun a => decide (a.1 = id))).map (·.2)
def keptA (A : List Ses) (num : Int) (id : Nat) : Option (List UInt8) := match getA A num with | none => none | some s => keptL s.kept id
def watchE (A : List Ses) (num : Int) : Int := match getA A num with | none => 4 | some _ => 0
def watchA (A : List Ses) (num : Int) (on : Bool) : List Ses := match getA A num with | none => A | some s => setA A num { s with watch := on }
def isNoteB (d : List UInt8) : Bool := decide (1 ≤ d.length ∧ d.length ≤ 600)
def noteE (A : List Ses) (num : Int) (d : List UInt8) : Int := match getA A num with | none => 4 | some s => if isNoteB d = true then (if s.watch = true then 0 else 7) else 1
def noteL (l : List (List UInt8)) (d : List UInt8) : List (List UInt8) := if (l ++ [d]).length > 6 then (l ++ [d]).drop 1 else l ++ [d]
def noteA (A : List Ses) (num : Int) (d : List UInt8) : List Ses := match getA A num with | none => A | some s => if isNoteB d = true ∧ s.watch = true then setA A num { s with notes := noteL s.notes d } else A
def readE (A : List Ses) (num : Int) : Int := match getA A num with | none => 4 | some _ => 0
def readN (A : List Ses) (num : Int) : Int := match getA A num with | none => 0 | some s => (s.notes.length : Int)
def readD (A : List Ses) (num : Int) : List UInt8 := match getA A num with | none => [] | some s => s.notes.headD []
def readA (A : List Ses) (num : Int) : List Ses := match getA A num with | none => A | some s => setA A num { s with notes := s.notes.drop 1 }

theorem okA.set {A : List Ses} {i : Nat} {s s' : Ses} (ok : okA A) (hs : A[i]? = some s) (ht : s'.token = s.token) (h' : okS i s') : okA (A.set i s') := by
  have hi := (List.getElem?_eq_some_iff.1 hs).1
  refine ⟨by rw [List.length_set]; exact ok.le, fun j u hj => ?_, ?_⟩
  · rw [List.getElem?_set] at hj
    by_cases e : i = j
    · subst e
      rw [if_pos rfl, if_pos hi] at hj
      obtain rfl := Option.some.inj hj
      exact h'
    · rw [if_neg e] at hj
      exact ok.at_ j u hj
  · rw [List.map_set, ht, set_same (by rw [List.getElem?_map, hs]; rfl)]
    exact ok.tk
theorem okA.setA {A : List Ses} {num : Int} {s s' : Ses} (ok : okA A) (hs : getA A num = some s) (ht : s'.token = s.token) (h' : ∀ i, okS i s → okS i s') : okA (setA A num s') := by
  obtain ⟨i, rfl, hi⟩ := getA_some hs
  unfold Ses.setA
  rw [show ((i : Int) + 1 - 1).toNat = i by omega]
  exact ok.set hi ht (h' i (ok.at_ i s hi))
theorem okA.open {A : List Ses} (ok : okA A) (token : Nat) : okA (openA A token) := by
  unfold openA
  split
  · rename_i he
    unfold openE at he
    split at he
    · cases he
    rename_i h1
    split at he
    · cases he
    rename_i h2
    split at he
    · cases he
    rename_i h3
    refine ⟨by rw [List.length_append, List.length_singleton]; omega, fun j u hj => ?_, ?_⟩
    · by_cases e : j < A.length
      · rw [List.getElem?_append_left e] at hj; exact ok.at_ j u hj
      · rw [List.getElem?_append_right (by omega)] at hj
        have e2 : j = A.length := by
          have := (List.getElem?_eq_some_iff.1 hj).1; simp at this; omega
        subst e2
        simp at hj; subst hj
        exact ⟨rfl, by show 1 ≤ token ∧ token ≤ 2147483648; omega, by simp, by simp, by simp, by simp, by simp⟩
    · rw [List.map_append, List.nodup_append]
      refine ⟨ok.tk, by simp, fun a ha b hb e => ?_⟩
      simp at hb; subst hb; subst e
      apply h2
      unfold hasTk
      rw [List.any_eq_true]
      obtain ⟨s, hs, e⟩ := List.mem_map.1 ha
      exact ⟨s, hs, by simpa using e⟩
  · exact ok
theorem okA.res {A : List Ses} (ok : okA A) (token : Nat) : okA (resA A token) := by
  unfold resA
  split
  · exact ok
  · split
    · rename_i s hs
      split
      · exact ok
      · have o := ok.at_ _ s hs
        exact ok.set hs rfl ⟨o.num, o.tk, o.kl, o.nl, o.kd, o.nd, o.ki⟩
    · exact ok
theorem okA.down {A : List Ses} (ok : okA A) (num : Int) : okA (downA A num) := by
  unfold downA
  split
  · exact ok
  · rename_i s hs
    split
    · exact ok.setA hs rfl fun i o => ⟨o.num, o.tk, o.kl, o.nl, o.kd, o.nd, o.ki⟩
    · exact ok
theorem okA.allDown {A : List Ses} (ok : okA A) : okA (allDownA A) := by
  unfold allDownA
  refine ⟨by rw [List.length_map]; exact ok.le, fun j u hj => ?_, by rw [List.map_map]; exact ok.tk⟩
  rw [List.getElem?_map] at hj
  cases hq : A[j]? with
  | none => rw [hq] at hj; cases hj
  | some s =>
    rw [hq] at hj
    simp at hj; subst hj
    have o := ok.at_ j s hq
    exact ⟨o.num, o.tk, o.kl, o.nl, o.kd, o.nd, o.ki⟩
theorem keepL_ok {k : List (Nat × List UInt8)} {id : Nat} {d : List UInt8} (hk : k.length ≤ 6) (hkd : ∀ a ∈ k, a.1 ≤ 1099511627776 ∧ a.2.length ≤ 1000) (hki : (k.map (·.1)).Nodup) (h1 : id ≤ 1099511627776) (h2 : d.length ≤ 1000) :
    (keepL k id d).length ≤ 6 ∧ (∀ a ∈ keepL k id d, a.1 ≤ 1099511627776 ∧ a.2.length ≤ 1000) ∧ ((keepL k id d).map (·.1)).Nodup := by
  have hlen : (k.filter (fun a => decide (a.1 ≠ id)) ++ [(id, d)]).length ≤ 7 := by
    have := List.length_filter_le (fun a => decide (a.1 ≠ id)) k
    rw [List.length_append, List.length_singleton]; omega
  have hall : ∀ a ∈ k.filter (fun a => decide (a.1 ≠ id)) ++ [(id, d)], a.1 ≤ 1099511627776 ∧ a.2.length ≤ 1000 := by
    intro a ha
    rcases List.mem_append.1 ha with ha | ha
    · exact hkd a (List.mem_filter.1 ha).1
    · simp at ha; subst ha; exact ⟨h1, h2⟩
  have hnd : ((k.filter (fun a => decide (a.1 ≠ id)) ++ [(id, d)]).map (·.1)).Nodup := by
    rw [List.map_append, List.nodup_append]
    refine ⟨(List.filter_sublist.map _).nodup hki, by simp, fun a ha b hb e => ?_⟩
    simp at hb; subst hb; subst e
    obtain ⟨x, hx, e⟩ := List.mem_map.1 ha
    have := (List.mem_filter.1 hx).2
    simp at this; exact this e
  unfold keepL
  split
  · refine ⟨by rw [List.length_drop]; omega, fun a ha => hall a (List.mem_of_mem_drop ha), ?_⟩
    rw [List.map_drop]
    exact (List.drop_sublist _ _).nodup hnd
  · exact ⟨by omega, hall, hnd⟩
theorem okA.keep {A : List Ses} (ok : okA A) (num : Int) (id : Nat) (d : List UInt8) : okA (keepA A num id d) := by
  unfold keepA
  split
  · exact ok
  · rename_i s hs
    split
    · exact ok
    · rename_i hh
      refine ok.setA hs rfl fun i o => ?_
      obtain ⟨k1, k2, k3⟩ := keepL_ok (id := id) (d := d) o.kl o.kd o.ki (by omega) (by omega)
      exact ⟨o.num, o.tk, k1, o.nl, k2, o.nd, k3⟩
theorem okA.watch {A : List Ses} (ok : okA A) (num : Int) (on : Bool) : okA (watchA A num on) := by
  unfold watchA
  split
  · exact ok
  · rename_i s hs
    exact ok.setA hs rfl fun i o => ⟨o.num, o.tk, o.kl, o.nl, o.kd, o.nd, o.ki⟩
theorem noteL_ok {l : List (List UInt8)} {d : List UInt8} (hl : l.length ≤ 6) (hd : ∀ n ∈ l, 1 ≤ n.length ∧ n.length ≤ 600) (h1 : 1 ≤ d.length ∧ d.length ≤ 600) : (noteL l d).length ≤ 6 ∧ ∀ n ∈ noteL l d, 1 ≤ n.length ∧ n.length ≤ 600 := by
  have hall : ∀ n ∈ l ++ [d], 1 ≤ n.length ∧ n.length ≤ 600 := by
    intro n hn
    rcases List.mem_append.1 hn with hn | hn
    · exact hd n hn
    · simp at hn; subst hn; exact h1
  unfold noteL
  split
  · exact ⟨by rw [List.length_drop, List.length_append, List.length_singleton]; omega, fun n hn => hall n (List.mem_of_mem_drop hn)⟩
  · exact ⟨by omega, hall⟩
theorem okA.note {A : List Ses} (ok : okA A) (num : Int) (d : List UInt8) : okA (noteA A num d) := by
  unfold noteA
  split
  · exact ok
  · rename_i s hs
    split
    · rename_i hh
      have hd : 1 ≤ d.length ∧ d.length ≤ 600 := by have := hh.1; unfold isNoteB at this; simpa using this
      refine ok.setA hs rfl fun i o => ?_
      obtain ⟨k1, k2⟩ := noteL_ok o.nl o.nd hd
      exact ⟨o.num, o.tk, o.kl, k1, o.kd, k2, o.ki⟩
    · exact ok
theorem okA.read {A : List Ses} (ok : okA A) (num : Int) : okA (readA A num) := by
  unfold readA
  split
  · exact ok
  · rename_i s hs
    refine ok.setA hs rfl fun i o => ⟨o.num, o.tk, o.kl, ?_, o.kd, fun n hn => o.nd n (List.mem_of_mem_drop hn), o.ki⟩
    have := o.nl
    rw [List.length_drop]; omega
theorem okA.nil : okA [] := ⟨by simp, by simp, by simp⟩
end Ses
end Go.Proofs.Ytlnofnmdiddmkaa
