/-
  What is proved here: rows of records that are only read; law19.Same. No condition.
-/
import Derived.Test.YtgccegnmggjkjaaDoorRecs
import Derived.Test.YtgccegnmggjkjaaDoorVcG
set_option maxRecDepth 100000
namespace Go.Proofs.YtgccegnmggjkjaaDoor
open Go.Den Go.Fields
namespace Fld
variable {h h' h0 : Heap} {R : Value → Heap → Prop} {p q : Option Addr} {c d i : Nat}

/-- a row of records that is only read -/
structure Rows (h : Heap) (p : Option Addr) (l c : Nat) (xs : List BV) : Prop where
  len : l = xs.length
  row : Row h p (xs.flatMap nenc)
  cap : l ≤ c
  each : ∀ x ∈ xs, Row h x.p (bc x.b)
theorem Rows.on {l c : Nat} {xs : List BV} (H : Rows h p l c xs) (f : Fr (fun _ => False) h h') : Rows h' p l c xs :=
  ⟨H.len, H.row.frame f (fun _ _ => id), H.cap, fun x hx => (H.each x hx).frame f (fun _ _ => id)⟩
theorem BL.to_rows {h0 : Heap} {l c : Nat} {bs : List (List UInt8)} (H : BL h0 h p l c bs) : ∃ xs, Rows h p l c xs ∧ xs.map BV.b = bs := by
  obtain ⟨xs, e1, e2, e3, e4, e5⟩ := H.rows
  exact ⟨xs, ⟨e1, e2, e4, e5⟩, e3⟩
theorem same_ok {l c m d : Nat} {xs ys : List BV} (H1 : Rows h p l c xs) (H2 : Rows h q m d ys) (hm : l ≤ 1000000000) (hk : R (.bool (decide (xs.map BV.b = ys.map BV.b))) h) : CallsH Tryd.prog F.law19_Same #[.slice p l c, .slice q m d] h R := by
  obtain ⟨rfl, r1, _, e1⟩ := H1
  obtain ⟨rfl, r2, _, e2⟩ := H2
  refine law19_Same.walk ?_
  unfold law19_Same.vc
  by_cases hl : xs.length = ys.length
  · have : (((xs.length : Nat) : Int) != ((ys.length : Nat) : Int)) = false := by rw [hl]; simp
    rw [this]
    simp only [Bool.false_eq_true, if_false]
    refine ⟨fun i g => g = h ∧ ∃ k : Nat, i = (k : Int) ∧ k ≤ xs.length ∧ (xs.take k).map BV.b = (ys.take k).map BV.b, fun i _ => xs.length - i.toNat, ⟨rfl, 0, rfl, by omega, by simp⟩, ?_⟩
    rintro _ _ ⟨rfl, k, rfl, hk1, hk2⟩
    by_cases hlt : k < xs.length
    · have q1 : (k : Int) < ((xs.length : Nat) : Int) := by omega
      simp only [q1, decide_true, if_true, Int.toNat_natCast]
      have gx : xs[k]? = some xs[k] := List.getElem?_eq_getElem hlt
      have gy : ys[k]? = some (ys[k]'(by omega)) := List.getElem?_eq_getElem _
      generalize xs[k] = x at gx
      generalize ys[k]'(by omega) = y at gy
      obtain ⟨a, rfl⟩ := r1.some (by intro e; cases xs with | nil => simp at hlt | cons => simp at e)
      obtain ⟨b, rfl⟩ := r2.some (by intro e; cases ys with | nil => simp at gy | cons => simp at e)
      have cx := (r1.heldAt nenc_len gx).1
      have cy := (r2.heldAt nenc_len gy).1
      rw [add_zero_addr] at cx cy
      refine ⟨⟨by first | trivial | omega, by first | trivial | omega⟩, onSome_some.2 ⟨_, _, _, cx, _, conv (e1 x (List.mem_of_getElem? gx)) rfl, ⟨by first | trivial | omega, by first | trivial | omega⟩, onSome_some.2 ⟨_, _, _, cy, _, conv (e2 y (List.mem_of_getElem? gy)) rfl, ?_⟩⟩⟩
      rw [str_list, str_list]
      by_cases hxy : x.b = y.b
      · rw [hxy]
        simp only [beq_self_eq_true, Bool.not_true, Bool.false_eq_true, if_false]
        rw [wrap_id (by omega) (by omega)]
        refine ⟨⟨by first | trivial | rfl, k + 1, by omega, by omega, ?_⟩, by show _ - Int.toNat ((k : Int) + 1) < _; omega⟩
        rw [List.take_add_one, List.take_add_one, gx, gy, List.map_append, List.map_append, hk2]
        simp [hxy]
      · have : (x.b == y.b) = false := by simpa using hxy
        simp only [this, Bool.not_false, if_true]
        have hne : xs.map BV.b ≠ ys.map BV.b := fun e => by
          have h1 : (xs.map BV.b)[k]? = (ys.map BV.b)[k]? := by rw [e]
          rw [List.getElem?_map, List.getElem?_map, gx, gy] at h1
          exact hxy (Option.some.inj h1)
        rw [decide_eq_false hne] at hk
        exact hk
    · have q1 : ¬ (k : Int) < ((xs.length : Nat) : Int) := by omega
      simp only [q1, decide_false, Bool.false_eq_true, if_false]
      obtain rfl : k = xs.length := by omega
      rw [List.take_length, hl, List.take_length] at hk2
      rw [decide_eq_true hk2] at hk
      exact hk
  · have : (((xs.length : Nat) : Int) != ((ys.length : Nat) : Int)) = true := by simp; omega
    rw [if_pos this]
    have hne : xs.map BV.b ≠ ys.map BV.b := fun e => hl (by have := congrArg List.length e; simpa using this)
    rw [decide_eq_false hne] at hk
    exact hk
end Fld
end Go.Proofs.YtgccegnmggjkjaaDoor
