/-
  What is proved here: the states of CopiesPlace: closed facts on them. No condition.
-/
import Derived.Test.YtgccegnmggjkjaaLaw21
set_option maxRecDepth 100000
namespace Go.Proofs.Ytgccegnmggjkjaa
open Go.Den Go.Heapq
namespace Cps
open Eid Alarm Fld
deriving instance DecidableEq for Cp
deriving instance DecidableEq for CF
def Qs (k m j : Nat) : CF := ⟨(List.range m).map (fun i => ⟨i + 1, hm, [if i < k then UInt8.ofNat i else 1], 500, if i < j then 7 else 0, if i < j then 100 + i else 0⟩), m + 1, 0, 0, 0,
  (List.range m).map (fun i => (((i + 1 : Nat) : Int), 500)), (List.range j).map (fun i => (((i + 1 : Nat) : Int), ((100 + i : Nat) : Int)))⟩
def mk (k : Nat) : Nat := if k < 16 then k + 1 else 16
def ck (j : Nat) : Cp := ⟨j + 1, hm, [UInt8.ofNat j], 500, 0, 0⟩
def Cs (k : Nat) : CF := match leaseC (Qs k (mk k) k).L hm with | some z => leaseF (Qs k (mk k) k) z 7 200 | none => Qs k (mk k) k
def okb (s : CF) : Bool := s.L.all (fun z => decide (1 ≤ z.num) && (decide (z.num < s.next) && decide (z.d.length ≤ 600))) && (decide (s.next ≤ 50000) && (decide (s.L.length ≤ 50000) && (decide (s.E1.length ≤ 50000) && decide (s.E2.length ≤ 50000))))
theorem okb_ok {s : CF} (h : okb s = true) : Small s ∧ ∀ z ∈ s.L, 1 ≤ z.num ∧ z.num < s.next ∧ z.d.length ≤ 600 := by
  unfold okb at h
  simp only [Bool.and_eq_true, List.all_eq_true, decide_eq_true_eq] at h
  obtain ⟨h1, h2, h3, h4, h5⟩ := h
  exact ⟨⟨h2, h3, h4, h5⟩, h1⟩
theorem c_add : ∀ k, k < 17 → ∀ i, i < k → addE (Qs k i 0) hm [UInt8.ofNat i] 500 = 0 ∧ addN (Qs k i 0) hm [UInt8.ofNat i] 500 = ((i + 1 : Nat) : Int) ∧ addF (Qs k i 0) hm [UInt8.ofNat i] 500 = Qs k (i + 1) 0 ∧ okb (Qs k i 0) = true := of_decide_eq_true (by kernel_rfl)
theorem c_full : ∀ k, k < 17 → 0 < k → addE (Qs k k 0) hm [1] 500 = (if k < 16 then 0 else 15) ∧ addF (Qs k k 0) hm [1] 500 = Qs k (mk k) 0 ∧ okb (Qs k k 0) = true := of_decide_eq_true (by kernel_rfl)
theorem c_lease : ∀ k, k < 17 → ∀ j, j < k → leaseC (Qs k (mk k) j).L hm = some (ck j) ∧ leaseF (Qs k (mk k) j) (ck j) 7 (100 + j) = Qs k (mk k) (j + 1) ∧ okb (Qs k (mk k) j) = true := of_decide_eq_true (by kernel_rfl)
theorem c_none : ∀ k, k < 17 → 0 < k → (16 ≤ k → leaseC (Qs k (mk k) k).L hm = none) ∧ okb (Qs k (mk k) k) = true ∧ okb (Cs k) = true ∧ (Cs k).over = 0 ∧ (keys (Cs k).E2).all (fun e => (Cs k).L.any (fun z => decide ((z.num : Int) = e))) = true := of_decide_eq_true (by kernel_rfl)
theorem c_rel : ∀ k, k < 17 → ∀ a, a < k → findE (Cs k).L ((1 + a : Nat) : Int) 7 = 0 ∧ okb (relF (Cs k) ((1 + a : Nat) : Int) 7) = true ∧ (leaseC (relF (Cs k) ((1 + a : Nat) : Int) 7).L hm).map Cp.num = some (1 + a) := of_decide_eq_true (by kernel_rfl)
theorem c_pass : ∀ k, k < 17 → ∀ a, a < k → okb (passF (Cs k) ((100 + a : Nat) : Int)) = true ∧ (leaseC (passF (Cs k) ((100 + a : Nat) : Int)).L hm).map Cp.num = some 1 := of_decide_eq_true (by kernel_rfl)
end Cps
end Go.Proofs.Ytgccegnmggjkjaa
