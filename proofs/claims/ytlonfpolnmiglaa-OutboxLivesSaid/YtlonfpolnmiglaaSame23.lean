/-
  What is proved here: law23.same and law23.Same at a box and the document's that belong to it. No condition.
-/
import Derived.Test.YtlonfpolnmiglaaRef23c
import Derived.Test.YtlonfpolnmiglaaEq5
set_option maxRecDepth 100000
namespace Go.Proofs.Ytlonfpolnmiglaa
open Go.Den Go.Fields
namespace Rbx
open Fld Obx
variable {h h' h0 : Heap} {x b : Nat} {X Y : Ft} {R : Value → Heap → Prop} {p q : Option Addr} {c d i : Nat} {Ls : List RI} {s : BS}

/-- a box and the document's -/
structure Rel (s : BS) (Ls : List RI) : Prop where
  there : s.items = (Ls.filter (fun y => decide (y.fate = 1))).map RI.it
  next : s.next = Ls.length + 1
  taken : s.taken = cnt Ls 2
  canc : s.canc = cnt Ls 3
  over : s.over = cnt Ls 4
  fates : ∀ y ∈ Ls, 1 ≤ y.fate ∧ y.fate ≤ 4
  nums : ∀ i y, Ls[i]? = some y → y.it.num = i + 1
theorem same_it {x0 x1 x3 y0 y1 y3 y4 : Int} {u w : List UInt8} {n m : Nat} (hr : Row h p (bc u)) (hw : Row h q (bc w)) (hn : n = u.length) (hm : m = w.length)
    (hk : ∀ h', Fr (fun _ => False) h h' → R (.bool (decide (x0 = y0) && decide (x1 = y1) && decide (u = w) && decide (x3 = y3))) h') :
    CallsH Try.prog F.law23_same #[.agg #[.int .i64 x0, .int .i64 x1, .slice p n c, .int .u64 x3], .agg #[.int .i64 y0, .int .i64 y1, .slice q m d, .int .u64 y3, .int .i64 y4]] h R := by
  subst hn hm
  refine law23_same.walk (outbox_Item.box fun b1 h1 e1 hb1 f1 => ref23_Item.box fun b2 h2 e2 hb2 f2 => ?_)
  have hb1' := f2.get hb1 id
  have hk := hk h2 (f1.tt f2)
  refine ⟨_, cell_at hb1' rfl, _, cell_at hb2 rfl, ?_⟩
  by_cases q0 : x0 = y0
  · rw [if_pos (by simpa using q0)]
    refine ⟨_, cell_at hb1' rfl, _, cell_at hb2 rfl, ?_⟩
    by_cases q1 : x1 = y1
    · rw [if_pos (by simpa using q1)]
      refine ⟨_, _, _, cell_at hb1' rfl, _, conv (hr.frame (f1.tt f2) (fun _ _ => id)) rfl, _, _, _, cell_at hb2 rfl, _, conv (hw.frame (f1.tt f2) (fun _ _ => id)) rfl, ?_⟩
      rw [str_list, str_list]
      by_cases q2 : u = w
      · rw [if_pos (by simpa using q2)]
        refine ⟨_, cell_at hb1' rfl, _, cell_at hb2 rfl, ?_⟩
        have e : (x3 == y3) = decide (x3 = y3) := by by_cases q3 : x3 = y3 <;> simp [q3]
        rw [e]
        simpa [q0, q1, q2] using hk
      · rw [if_neg (by simpa using q2)]
        simpa [q2] using hk
    · rw [if_neg (by simpa using q1)]
      simpa [q1] using hk
  · rw [if_neg (by simpa using q0)]
    simpa [q0] using hk
theorem same_ok (H : Box h b X s) (B : Rb h x Y Ls) (rel : Rel s Ls) (hl : Ls.length ≤ 1000000) (hk : ∀ h', Fr (fun _ => False) h h' → R (.bool true) h') :
    CallsH Try.prog F.law23_Same #[.pointer (some ⟨b, 0, none⟩), .pointer (some ⟨x, 0, none⟩)] h R := by
  have hB : ∀ {g : Heap}, Fr (fun _ => False) h g → Rb g x Y Ls := fun f => B.frame f (fun _ _ => id)
  have hnx : s.next ≤ 1000000000 := by rw [rel.next]; omega
  refine law23_Same.walk (Obx.all_ok H fun h1 p1 l1 c1 I1 f1 => ⟨_, _, _, rfl, ?_⟩)
  refine there_ok (hB f1) hl fun h2 p2 c2 ys o2 g2 hab hdy f2 => ⟨_, _, _, rfl, JoinP.of fun J hJ => ?_⟩
  have hyl : ys.length = cnt Ls 1 := by unfold cnt; rw [← hab, List.length_map]
  have hil : s.items.length = cnt Ls 1 := by unfold cnt; rw [rel.there, List.length_map]
  have hl1 := I1.len
  have hcl := cnt_le Ls 1 Ls.length
  rw [List.take_length] at hcl
  have fin : ∀ g, Fr (fun _ => False) h2 g → J false g := by
    intro g fg
    subst hJ
    simp only [Bool.false_eq_true, if_false]
    obtain ⟨us, D, u1, u2, u3, u4, u5, u6⟩ := I1
    refine ⟨fun t g' => Fr (fun _ => False) h2 g' ∧ ∃ k : Nat, t = (k : Int) ∧ k ≤ ys.length, fun t _ => ys.length - t.toNat, ⟨fg, 0, rfl, by omega⟩, ?_⟩
    rintro _ g' ⟨fg', k, rfl, hk1⟩
    by_cases hlt : k < ys.length
    · have q1 : (k : Int) < ((ys.length : Nat) : Int) := by omega
      simp only [q1, decide_true, if_true, Int.toNat_natCast]
      have hyk : ys[k]? = some ys[k] := List.getElem?_eq_getElem hlt
      generalize ys[k] = v at hyk
      have huk : us[k]? = some (us[k]'(by omega)) := List.getElem?_eq_getElem _
      generalize us[k]'(by omega) = w at huk
      have hit : w.abs = v.abs.it := by
        have h1 : (us.map IV.abs)[k]? = some w.abs := by rw [List.getElem?_map, huk]; rfl
        rw [u3, rel.there, ← hab, List.getElem?_map, List.getElem?_map, hyk] at h1
        exact (Option.some.inj h1).symm
      have uo := (u2.frame (f2.tt fg') (fun _ _ => id))
      have yo := o2.frame fg' (fun _ _ => id)
      obtain ⟨pa, po, rfl⟩ := uo.addr (by omega)
      obtain ⟨qa, qo, rfl⟩ := yo.addr (by omega)
      have rw1 := (((u4 w (List.mem_of_getElem? huk)).row).frame (f2.tt fg') (fun _ _ => id))
      have rv1 := ((hdy v (List.mem_of_getElem? hyk)).row).frame fg' (fun _ _ => id)
      refine ⟨⟨by first | trivial | omega, by first | trivial | omega⟩, onSome_some.2 (outbox_Item.ldA (uo.heldAt ienc_len huk) ⟨⟨by first | trivial | omega, by first | trivial | omega⟩, onSome_some.2 (ref23_Item.ldA (yo.heldAt renc_len hyk) ?_)⟩)⟩
      refine same_it rw1 rv1 rfl rfl fun h5 f5 => ⟨_, rfl, ?_⟩
      have e0 : w.num = v.num := congrArg It.num hit
      have e1 : w.owner = v.owner := congrArg It.owner hit
      have e2 : w.v.b = v.v.b := congrArg It.d hit
      have e3 : w.till = v.till := congrArg It.till hit
      simp only [e0, e1, e2, e3, decide_true, Bool.and_self, Bool.not_true, Bool.false_eq_true, if_false]
      rw [wrap_id (by omega) (by omega)]
      exact ⟨⟨fg'.tt f5, k + 1, by omega, by omega⟩, by show ys.length - Int.toNat ((k : Int) + 1) < ys.length - k; omega⟩
    · have q1 : ¬ (k : Int) < ((ys.length : Nat) : Int) := by omega
      simp only [q1, decide_false, Bool.false_eq_true, if_false]
      exact hk g' (f1.tt (f2.tt fg'))
  clear hJ
  have q : (((l1 : Nat) : Int) != ((ys.length : Nat) : Int)) = false := by rw [hl1, hil, hyl]; simp
  rw [q, if_neg (by simp)]
  refine Obx.counts_ok (H.on (f1.tt f2)) hnx fun h6 f6 => ⟨_, _, _, _, _, rfl, ?_⟩
  refine counts_ok (hB (f1.tt (f2.tt f6))) hl rel.fates fun h7 f7 => ⟨_, _, _, _, _, rfl, true, ?_, fin h7 (f6.tt f7)⟩
  have e0 : (s.next : Int) - 1 = (Ls.length : Int) := by rw [rel.next]; omega
  rw [e0, hil, rel.taken, rel.canc, rel.over]
  exact eq_same _ _ _ _ _
end Rbx
end Go.Proofs.Ytlonfpolnmiglaa
