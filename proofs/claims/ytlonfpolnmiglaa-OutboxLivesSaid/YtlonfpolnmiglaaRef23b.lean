/-
  What is proved here: the document's box (package ref23) in memory: Counts, Add. No condition.
-/
import Derived.Test.YtlonfpolnmiglaaRef23
set_option maxRecDepth 100000
namespace Go.Proofs.Ytlonfpolnmiglaa
open Go.Den Go.Fields
namespace Rbx
open Fld Obx
variable {h h' h0 : Heap} {x : Nat} {X : Ft} {R : Value → Heap → Prop} {p q : Option Addr} {c d i : Nat} {Ls : List RI}

def cnt (Ls : List RI) (f : Nat) : Nat := (Ls.filter (fun y => decide (y.fate = f))).length
theorem cnt_step {k : Nat} {y : RI} (hy : Ls[k]? = some y) (f : Nat) : cnt (Ls.take (k + 1)) f = cnt (Ls.take k) f + (if y.fate = f then 1 else 0) := by
  unfold cnt
  rw [List.take_add_one, hy, List.filter_append, List.length_append]
  by_cases e : y.fate = f
  · simp [List.filter_cons, e]
  · simp [List.filter_cons, e]
theorem cnt_le (Ls : List RI) (f k : Nat) : cnt (Ls.take k) f ≤ Ls.length := by
  unfold cnt
  refine Nat.le_trans (List.length_filter_le _ _) ?_
  rw [List.length_take]; omega
theorem counts_ok (H : Rb h x X Ls) (hl : Ls.length ≤ 1000000) (hf : ∀ y ∈ Ls, 1 ≤ y.fate ∧ y.fate ≤ 4)
    (hk : ∀ h', Fr (fun _ => False) h h' → R (.agg #[.int .i64 (Ls.length : Int), .int .i64 (cnt Ls 1 : Int), .int .i64 (cnt Ls 2 : Int), .int .i64 (cnt Ls 3 : Int), .int .i64 (cnt Ls 4 : Int)]) h') :
    CallsH Try.prog F.ref23_Box_Counts #[.pointer (some ⟨x, 0, none⟩)] h R := by
  obtain ⟨lp, lc, xs, H⟩ := H
  have hlen := H.len
  refine ref23_Box_Counts.walk (newP_of ?_)
  have f1 : Fr (fun _ => False) h (h.push (.cells #[.int .i64 0, .int .i64 0, .int .i64 0, .int .i64 0, .int .i64 0] T.a5_int)) := Fr.push _ _
  have hb1 : (h.push (.cells #[.int .i64 0, .int .i64 0, .int .i64 0, .int .i64 0, .int .i64 0] T.a5_int))[h.size]? = some (.cells #[.int .i64 0, .int .i64 0, .int .i64 0, .int .i64 0, .int .i64 0] T.a5_int (0, 0)) := push_new
  generalize h.push (.cells #[.int .i64 0, .int .i64 0, .int .i64 0, .int .i64 0, .int .i64 0] T.a5_int) = h1 at f1 hb1 ⊢
  refine ⟨_, _, _, cell_at (H.on f1).blk rfl, newP_of ?_⟩
  have f2 : Fr (fun _ => False) h1 (h1.push (.cells #[.int .i64 0, .int .i64 0, .int .i64 0, .int .i64 0, .int .i64 0] T.a5_int)) := Fr.push _ _
  have hb2 : (h1.push (.cells #[.int .i64 0, .int .i64 0, .int .i64 0, .int .i64 0, .int .i64 0] T.a5_int))[h1.size]? = some (.cells #[.int .i64 0, .int .i64 0, .int .i64 0, .int .i64 0, .int .i64 0] T.a5_int (0, 0)) := push_new
  generalize h1.push (.cells #[.int .i64 0, .int .i64 0, .int .i64 0, .int .i64 0, .int .i64 0] T.a5_int) = h2 at f2 hb2 ⊢
  have l1 := lt_of_get hb1
  refine storeP_blk hb2 (by simp) fun g1 a1 b1 c1 => storeP_blk a1 (by simp) fun g2 a2 b2 c2 => storeP_blk a2 (by simp) fun g3 a3 b3 c3 => storeP_blk a3 (by simp) fun g4 a4 b4 c4 => storeP_blk a4 (by simp) fun g5 a5 b5 c5 => ?_
  have f5 : Fr (fun y => y = h1.size) h2 g5 := ⟨by omega, fun y hy hn => by rw [c5 y hn, c4 y hn, c3 y hn, c2 y hn, c1 y hn]⟩
  have F5 : Fr (fun _ => False) h1 g5 := f2.fresh f5 (fun y e => Nat.le_of_eq e.symm)
  refine ⟨fun t g => ∃ k : Nat, t = (k : Int) ∧ k ≤ xs.length ∧ g[h1.size]? = some (.cells #[.int .i64 (Ls.length : Int), .int .i64 (cnt (Ls.take k) 1 : Int), .int .i64 (cnt (Ls.take k) 2 : Int), .int .i64 (cnt (Ls.take k) 3 : Int), .int .i64 (cnt (Ls.take k) 4 : Int)] T.a5_int (0, 0)) ∧ Fr (fun _ => False) h1 g, fun t _ => xs.length - t.toNat, ⟨0, rfl, by omega, by rw [a5, hlen]; rfl, F5⟩, ?_⟩
  rintro _ g ⟨k, rfl, hkn, hbg, fg⟩
  have Mg := H.on (f1.tt fg)
  refine ⟨_, _, _, cell_at Mg.blk rfl, ?_⟩
  by_cases hlt : k < xs.length
  · have q1 : (k : Int) < ((xs.length : Nat) : Int) := by omega
    simp only [q1, decide_true, if_true, Int.toNat_natCast]
    have hx : xs[k]? = some xs[k] := List.getElem?_eq_getElem hlt
    generalize xs[k] = v at hx
    have hLk : Ls[k]? = some v.abs := by rw [← H.abs, List.getElem?_map, hx]; rfl
    obtain ⟨ab, aoff, rfl⟩ := Mg.own.addr (by omega)
    have held := Mg.own.heldAt renc_len hx
    refine ⟨_, _, _, cell_at Mg.blk rfl, ⟨by first | trivial | omega, by first | trivial | omega⟩, onSome_some.2 ⟨(v.fate : Int), held.2.2.2.2.1, ?_⟩⟩
    have hfv := hf v.abs (List.mem_of_getElem? hLk)
    have hfv : 1 ≤ v.fate ∧ v.fate ≤ 4 := hfv
    have s1 := cnt_step hLk 1
    have s2 := cnt_step hLk 2
    have s3 := cnt_step hLk 3
    have s4 := cnt_step hLk 4
    have n1 := cnt_le Ls 1 k
    have n2 := cnt_le Ls 2 k
    have n3 := cnt_le Ls 3 k
    have n4 := cnt_le Ls 4 k
    have ef : v.abs.fate = v.fate := rfl
    rw [ef] at s1 s2 s3 s4
    have fin : ∀ h9, h9[h1.size]? = some (.cells #[.int .i64 (Ls.length : Int), .int .i64 (cnt (Ls.take (k + 1)) 1 : Int), .int .i64 (cnt (Ls.take (k + 1)) 2 : Int), .int .i64 (cnt (Ls.take (k + 1)) 3 : Int), .int .i64 (cnt (Ls.take (k + 1)) 4 : Int)] T.a5_int (0, 0)) → h9.size = g.size → (∀ y, y ≠ h1.size → h9[y]? = g[y]?) →
        ((∃ k' : Nat, IntKind.wrap .i64 ((k : Int) + 1) = (k' : Int) ∧ k' ≤ xs.length ∧ h9[h1.size]? = some (.cells #[.int .i64 (Ls.length : Int), .int .i64 (cnt (Ls.take k') 1 : Int), .int .i64 (cnt (Ls.take k') 2 : Int), .int .i64 (cnt (Ls.take k') 3 : Int), .int .i64 (cnt (Ls.take k') 4 : Int)] T.a5_int (0, 0)) ∧ Fr (fun _ => False) h1 h9) ∧ xs.length - (IntKind.wrap .i64 ((k : Int) + 1)).toNat < xs.length - k) := by
      intro h9 e1 e2 e3
      have f9 : Fr (fun y => y = h1.size) g h9 := Fr.of_eq e2 e3
      rw [wrap_id (by omega) (by omega)]
      exact ⟨⟨k + 1, by omega, by omega, e1, fg.fresh f9 (fun y e => Nat.le_of_eq e.symm)⟩, by omega⟩
    have hcase : v.fate = 1 ∨ v.fate = 2 ∨ v.fate = 3 ∨ v.fate = 4 := by omega
    rcases hcase with e | e | e | e
    · rw [e] at s1 s2 s3 s4 ⊢
      refine ⟨⟨by omega, by omega⟩, _, cell_at hbg rfl, ⟨by omega, by omega⟩, storeP_blk hbg (by simp) fun h9 d1 d2 d3 => fin h9 ?_ d2 d3⟩
      rw [d1, wrap_id (by omega) (by omega), s1, s2, s3, s4]; simp
    · rw [e] at s1 s2 s3 s4 ⊢
      refine ⟨⟨by omega, by omega⟩, _, cell_at hbg rfl, ⟨by omega, by omega⟩, storeP_blk hbg (by simp) fun h9 d1 d2 d3 => fin h9 ?_ d2 d3⟩
      rw [d1, wrap_id (by omega) (by omega), s1, s2, s3, s4]; simp
    · rw [e] at s1 s2 s3 s4 ⊢
      refine ⟨⟨by omega, by omega⟩, _, cell_at hbg rfl, ⟨by omega, by omega⟩, storeP_blk hbg (by simp) fun h9 d1 d2 d3 => fin h9 ?_ d2 d3⟩
      rw [d1, wrap_id (by omega) (by omega), s1, s2, s3, s4]; simp
    · rw [e] at s1 s2 s3 s4 ⊢
      refine ⟨⟨by omega, by omega⟩, _, cell_at hbg rfl, ⟨by omega, by omega⟩, storeP_blk hbg (by simp) fun h9 d1 d2 d3 => fin h9 ?_ d2 d3⟩
      rw [d1, wrap_id (by omega) (by omega), s1, s2, s3, s4]; simp
  · have q1 : ¬ (k : Int) < ((xs.length : Nat) : Int) := by omega
    simp only [q1, decide_false, Bool.false_eq_true, if_false]
    rw [List.take_of_length_le (by omega)] at hbg
    refine ⟨_, cell_at hbg rfl, _, cell_at hbg rfl, _, cell_at hbg rfl, _, cell_at hbg rfl, _, cell_at hbg rfl, ?_⟩
    have hg1 : g[h.size]? = some (.cells #[.int .i64 0, .int .i64 0, .int .i64 0, .int .i64 0, .int .i64 0] T.a5_int (0, 0)) := fg.get hb1 id
    refine storeP_blk hg1 (by simp) fun k1 a1 b1 c1 => storeP_blk a1 (by simp) fun k2 a2 b2 c2 => storeP_blk a2 (by simp) fun k3 a3 b3 c3 => storeP_blk a3 (by simp) fun k4 a4 b4 c4 => storeP_blk a4 (by simp) fun k5 a5 b5 c5 => ?_
    refine ⟨_, cell_at a5 rfl, _, cell_at a5 rfl, _, cell_at a5 rfl, _, cell_at a5 rfl, _, cell_at a5 rfl, ?_⟩
    exact hk k5 ((f1.tt fg).fresh (S := fun y => y = h.size) ⟨by omega, fun y hy hn => by rw [c5 y hn, c4 y hn, c3 y hn, c2 y hn, c1 y hn]⟩ (fun y e => Nat.le_of_eq e.symm))
end Rbx
end Go.Proofs.Ytlonfpolnmiglaa
