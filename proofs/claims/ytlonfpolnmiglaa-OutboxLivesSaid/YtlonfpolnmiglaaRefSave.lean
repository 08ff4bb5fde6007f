/-
  What is proved here: the document's box (package ref23) in memory: Save. No condition.
-/
import Derived.Test.YtlonfpolnmiglaaRefPass
import Derived.Test.YtlonfpolnmiglaaRef15
set_option maxRecDepth 100000
namespace Go.Proofs.Ytlonfpolnmiglaa
open Go.Den Go.Fields
namespace Rbx
open Fld Obx
variable {h h' h0 : Heap} {x b : Nat} {X Y : Ft} {R : Value → Heap → Prop} {p q : Option Addr} {c d i : Nat} {Ls : List RI} {s : BS}

def headN (Ls : List RI) : List Nat := [Ls.length + 1, cnt Ls 2, cnt Ls 3, cnt Ls 4, cnt Ls 1]
def headE (Ls : List RI) (k : Nat) : List UInt8 := ((headN Ls).take k).flatMap encNum
def thereL (Ls : List RI) : List It := (Ls.filter (fun y => decide (y.fate = 1))).map RI.it
theorem save_ok (B : Rb h x Y Ls) (hl : Ls.length ≤ 1000000) (hf : ∀ y ∈ Ls, 1 ≤ y.fate ∧ y.fate ≤ 4) (hit : ∀ z ∈ thereL Ls, z.num ≤ 1000000000 ∧ 0 ≤ z.owner ∧ z.owner ≤ 1099511627776 ∧ z.d.length ≤ 600 ∧ z.till ≤ 1099511627776)
    (hk : ∀ h' p' l' c', BL h h' p' l' c' (headE Ls 5 :: (thereL Ls).map recI) → Fr (fun _ => False) h h' → R (.slice p' l' c') h') :
    CallsH Try.prog F.ref23_Box_Save #[.pointer (some ⟨x, 0, none⟩)] h R := by
  have hB : ∀ {g : Heap}, Fr (fun _ => False) h g → Rb g x Y Ls := fun f => B.frame f (fun _ _ => id)
  have n1 := cnt_le Ls 1 Ls.length
  have n2 := cnt_le Ls 2 Ls.length
  have n3 := cnt_le Ls 3 Ls.length
  have n4 := cnt_le Ls 4 Ls.length
  rw [List.take_length] at n1 n2 n3 n4
  refine ref23_Box_Save.walk (counts_ok B hl hf fun h1 f1 => ⟨_, _, _, _, _, rfl, newP_of ?_⟩)
  have f2 : Fr (fun _ => False) h1 (h1.push (.cells #[.int .i64 0, .int .i64 0, .int .i64 0, .int .i64 0, .int .i64 0] T.a5_int)) := Fr.push _ _
  have hb2 : (h1.push (.cells #[.int .i64 0, .int .i64 0, .int .i64 0, .int .i64 0, .int .i64 0] T.a5_int))[h1.size]? = some (.cells #[.int .i64 0, .int .i64 0, .int .i64 0, .int .i64 0, .int .i64 0] T.a5_int (0, 0)) := push_new
  generalize h1.push (.cells #[.int .i64 0, .int .i64 0, .int .i64 0, .int .i64 0, .int .i64 0] T.a5_int) = h2 at f2 hb2 ⊢
  refine storeP_blk hb2 (by simp) fun g1 a1 b1 c1 => storeP_blk a1 (by simp) fun g2 a2 b2 c2 => storeP_blk a2 (by simp) fun g3 a3 b3 c3 => storeP_blk a3 (by simp) fun g4 a4 b4 c4 => storeP_blk a4 (by simp) fun g5 a5 b5 c5 => ?_
  have f5 : Fr (fun y => y = h1.size) h2 g5 := ⟨by omega, fun y hy hn => by rw [c5 y hn, c4 y hn, c3 y hn, c2 y hn, c1 y hn]⟩
  have F5 : Fr (fun _ => False) h g5 := f1.tt (f2.fresh f5 (fun y e => Nat.le_of_eq e.symm))
  refine there_ok (hB F5) hl fun h8 p8 c8 ys o8 g8 hab hdy f8 => ⟨_, _, _, rfl, ?_⟩
  have hyl : ys.length = cnt Ls 1 := by unfold cnt; rw [← hab, List.length_map]
  have a8 := f8.get a5 id
  have F8 := F5.tt f8
  obtain ⟨lp, lc, xs, M8⟩ := hB F8
  have hxl := M8.len
  refine ⟨_, _, _, cell_at M8.blk rfl, ⟨by omega, by omega⟩, _, cell_at a8 rfl, ⟨by omega, by omega⟩, _, cell_at a8 rfl, ⟨by omega, by omega⟩, _, cell_at a8 rfl, newP_of ?_⟩
  have hw : IntKind.wrap .i64 (((xs.length : Nat) : Int) + 1) = ((Ls.length + 1 : Nat) : Int) := by rw [wrap_id (by omega) (by omega)]; omega
  rw [hw, hyl]
  have f9 : Fr (fun _ => False) h8 (h8.push (.cells #[.int .i64 ((Ls.length + 1 : Nat) : Int), .int .i64 (cnt Ls 2 : Int), .int .i64 (cnt Ls 3 : Int), .int .i64 (cnt Ls 4 : Int), .int .i64 ((cnt Ls 1 : Nat) : Int)] T.int)) := Fr.push _ _
  have hb9 : (h8.push (.cells #[.int .i64 ((Ls.length + 1 : Nat) : Int), .int .i64 (cnt Ls 2 : Int), .int .i64 (cnt Ls 3 : Int), .int .i64 (cnt Ls 4 : Int), .int .i64 ((cnt Ls 1 : Nat) : Int)] T.int))[h8.size]? = some (.cells #[.int .i64 ((Ls.length + 1 : Nat) : Int), .int .i64 (cnt Ls 2 : Int), .int .i64 (cnt Ls 3 : Int), .int .i64 (cnt Ls 4 : Int), .int .i64 ((cnt Ls 1 : Nat) : Int)] T.int (0, 0)) := push_new
  generalize h8.push (.cells #[.int .i64 ((Ls.length + 1 : Nat) : Int), .int .i64 (cnt Ls 2 : Int), .int .i64 (cnt Ls 3 : Int), .int .i64 (cnt Ls 4 : Int), .int .i64 ((cnt Ls 1 : Nat) : Int)] T.int) = h9 at f9 hb9 ⊢
  have F9 := F8.tt f9
  refine ⟨cell_at (M8.on f9).blk rfl, ?_⟩
  have z9 := F9.1
  refine ⟨fun hp hl' hc t g => ∃ k : Nat, t = (k : Int) ∧ k ≤ 5 ∧ hl' = (headE Ls k).length ∧ Own g hp hl' hc 1 (bc (headE Ls k)) ∧ (∀ y, inBlk hp y → h9.size ≤ y) ∧ (headE Ls k).length ≤ 10 * k ∧ Fr (fun _ => False) h9 g, fun _ _ _ t _ => 5 - t.toNat, ⟨0, rfl, by omega, rfl, .nil rfl rfl rfl rfl, (fun y ⟨a, e, _⟩ => by cases e), by simp [headE], Fr.refl _ _⟩, ?_⟩
  rintro hp hl' hc _ g ⟨k, rfl, hk5, rfl, oh, gh, hh, fg⟩
  have hbg := fg.get hb9 id
  by_cases hlt : k < 5
  · have q1 : (k : Int) < 5 := by omega
    simp only [q1, decide_true, if_true, Int.toNat_natCast]
    have hcell : ∃ n : Nat, (headN Ls)[k]? = some n ∧ n ≤ 1000001 ∧ hcell g ((⟨h8.size, 0, none⟩ : Addr).add (k * 1)) = some (.int .i64 (n : Int)) := by
      match k, hlt with
      | 0, _ => exact ⟨_, rfl, by omega, cell_at hbg rfl⟩
      | 1, _ => exact ⟨_, rfl, by omega, cell_at hbg rfl⟩
      | 2, _ => exact ⟨_, rfl, by omega, cell_at hbg rfl⟩
      | 3, _ => exact ⟨_, rfl, by omega, cell_at hbg rfl⟩
      | 4, _ => exact ⟨_, rfl, by omega, cell_at hbg rfl⟩
    obtain ⟨n, hn, hnb, hc⟩ := hcell
    refine ⟨⟨by first | trivial | omega, by first | trivial | omega⟩, _, hc, refNum_ok n (wrap_u64_nat (by omega)) (by omega) fun p11 c11 h11 o11 u11 => ⟨_, _, _, rfl, ?_⟩⟩
    have ln := (encNum_len n).2
    refine den_append tU uU (oh.frame u11.fr (fun _ _ => id)) o11.row' (by rw [bc_len, Nat.mul_one]) (bc_one _) (by omega) (by omega) fun p12 c12 h12 o12 _ f12 g12 => ⟨_, _, _, rfl, ?_⟩
    have he : headE Ls (k + 1) = headE Ls k ++ encNum n := by unfold headE; rw [List.take_add_one, hn, List.flatMap_append]; simp
    have zz := u11.fr.1
    have zg := fg.1
    rw [wrap_id (by omega) (by omega)]
    refine ⟨⟨k + 1, by omega, by omega, by rw [he, List.length_append], by rw [he, bc_append]; exact o12, fun y hy => (g12 y hy).elim (gh y) (fun h1 => by omega), by rw [he, List.length_append]; omega, (fg.tt u11.fr).fresh f12 gh⟩, by show 5 - Int.toNat ((k : Int) + 1) < 5 - k; omega⟩
  · have q1 : ¬ (k : Int) < 5 := by omega
    simp only [q1, decide_false, Bool.false_eq_true, if_false]
    obtain rfl : k = 5 := by omega
    refine newP_of ?_
    have f13 : Fr (fun _ => False) g (g.push (.cells #[.slice hp (headE Ls 5).length hc] T.s_uint8)) := Fr.push _ _
    have o13 : Own (g.push (.cells #[.slice hp (headE Ls 5).length hc] T.s_uint8)) (some ⟨g.size, 0, none⟩) 1 1 1 (nenc ⟨hp, hc, headE Ls 5⟩) := .row g.size 0 _ _ rfl push_new (Nat.le_refl _) (by simp) rfl (fun j v hj => by rw [Nat.zero_add]; simpa using hj)
    have Fg : Fr (fun _ => False) h g := F9.tt fg
    have zg := Fg.1
    have B13 : BL h (g.push (.cells #[.slice hp (headE Ls 5).length hc] T.s_uint8)) (some ⟨g.size, 0, none⟩) 1 1 [headE Ls 5] := by
      refine ⟨[⟨hp, hc, headE Ls 5⟩], inBlk hp, rfl, by simpa using o13, rfl, ?_, ?_, fun y ⟨a, e, e2⟩ => by cases e; rw [← e2]; exact zg⟩
      · intro v hv
        obtain rfl := List.mem_singleton.1 hv
        exact BV.of_own (oh.frame f13 (fun _ _ => id)) (fun _ => id)
      · intro y hy
        have h1 := gh y hy
        have h2 := oh.blk_lt hy
        exact ⟨by omega, by rw [Array.size_push]; omega, fun ⟨a, e, e2⟩ => by cases e; have e2 : g.size = y := e2; omega⟩
    have F13 : Fr (fun _ => False) h (g.push (.cells #[.slice hp (headE Ls 5).length hc] T.s_uint8)) := Fg.tt f13
    have F8_13 : Fr (fun _ => False) h8 (g.push (.cells #[.slice hp (headE Ls 5).length hc] T.s_uint8)) := f9.tt (fg.tt f13)
    generalize g.push (.cells #[.slice hp (headE Ls 5).length hc] T.s_uint8) = h13 at B13 F13 F8_13 ⊢
    have hp13 : ∀ y, inBlk (some ⟨g.size, 0, none⟩) y → h8.size ≤ y := fun y ⟨a, e, e2⟩ => by cases e; rw [← e2]; exact (f9.tt fg).1
    generalize (some ⟨g.size, 0, none⟩ : Option Addr) = p13 at B13 hp13 ⊢
    have habs : (ys.map RV.abs).map RI.it = thereL Ls := by rw [hab]; rfl
    refine ⟨fun op ol oc t g' => ∃ k : Nat, t = (k : Int) ∧ k ≤ ys.length ∧ BL h g' op ol oc (headE Ls 5 :: ((thereL Ls).take k).map recI) ∧ Fr (fun _ => False) h g' ∧ Fr (fun _ => False) h8 g' ∧ ∀ y, inBlk op y → h8.size ≤ y, fun _ _ _ t _ => ys.length - t.toNat, ⟨0, rfl, by omega, by simpa using B13, F13, F8_13, hp13⟩, ?_⟩
    rintro op ol oc _ g14 ⟨k, rfl, hkn, B14, F14, F8_14, hop⟩
    rw [← hyl]
    by_cases hlt2 : k < ys.length
    · have q2 : (k : Int) < ((ys.length : Nat) : Int) := by omega
      simp only [q2, decide_true, if_true, Int.toNat_natCast]
      have hy : ys[k]? = some ys[k] := List.getElem?_eq_getElem hlt2
      generalize ys[k] = v at hy
      have hik : (thereL Ls)[k]? = some v.abs.it := by rw [← habs, List.getElem?_map, List.getElem?_map, hy]; rfl
      have hv := hit v.abs.it (List.mem_of_getElem? hik)
      have v1 : v.num ≤ 1000000000 := hv.1
      have v2 : 0 ≤ v.owner ∧ v.owner ≤ 1099511627776 := ⟨hv.2.1, hv.2.2.1⟩
      have v3 : v.v.b.length ≤ 600 := hv.2.2.2.1
      have v4 : v.till ≤ 1099511627776 := hv.2.2.2.2
      have oy : ∀ {g' : Heap}, Fr (fun _ => False) g14 g' → Own g' p8 ys.length c8 5 (ys.flatMap renc) := fun f => o8.frame (F8_14.tt f) (fun _ _ => id)
      obtain ⟨ab, aoff, rfl⟩ := (oy (Fr.refl _ _)).addr (by omega)
      have held := (oy (Fr.refl _ _)).heldAt renc_len hy
      refine ⟨⟨by first | trivial | omega, by first | trivial | omega⟩, onSome_some.2 ⟨(v.num : Int), held.1, refNum_ok v.num (wrap_u64_nat (by omega)) (by omega) fun p15 c15 h15 o15 u15 => ⟨_, _, _, rfl, ⟨by first | trivial | omega, by first | trivial | omega⟩, onSome_some.2 ⟨v.owner, ((oy u15.fr).heldAt renc_len hy).2.1, ?_⟩⟩⟩⟩
      have eo : v.owner = ((v.owner.toNat : Nat) : Int) := by omega
      refine refNum_ok v.owner.toNat (by rw [eo]; exact wrap_u64_nat (by omega)) (by omega) fun p16 c16 h16 o16 u16 => ⟨_, _, _, rfl, ?_⟩
      have l1 := (encNum_len v.num).2
      have l2 := (encNum_len v.owner.toNat).2
      have l3 := (encNum_len v.v.b.length).2
      have l4 := (encNum_len v.till).2
      have el : (encText v.v.b).length = (encNum v.v.b.length).length + v.v.b.length := by unfold encText; rw [List.length_append]
      refine den_append tU uU (o15.frame u16.fr (fun _ _ => id)) o16.row' (by rw [bc_len, Nat.mul_one]) (bc_one _) (by omega) (by omega) fun p17 c17 h17 o17 _ f17 g17 => ⟨_, _, _, rfl, ?_⟩
      have z15 := u15.fr.1
      have z16 := u16.fr.1
      have z17 := f17.1
      have F17 : Fr (fun _ => False) g14 h17 := (u15.fr.tt u16.fr).fresh f17 (fun y hy => u15.ge y hy)
      have gg17 : ∀ y, inBlk p17 y → g14.size ≤ y := fun y hy => (g17 y hy).elim (fun h1 => u15.ge y h1) (fun h1 => by omega)
      refine ⟨⟨by first | trivial | omega, by first | trivial | omega⟩, onSome_some.2 ⟨_, _, _, ((oy F17).heldAt renc_len hy).2.2.1, ?_⟩⟩
      have rowv : Row h17 v.v.p (bc v.v.b) := ((hdy v (List.mem_of_getElem? hy)).row).frame (F8_14.tt F17) (fun _ _ => id)
      refine refText_ok rowv rfl (by omega) fun p18 c18 h18 o18 u18 => ⟨_, _, _, rfl, ?_⟩
      refine den_append tU uU (o17.frame u18.fr (fun _ _ => id)) o18.row' (by rw [bc_len, Nat.mul_one]) (bc_one _) (by omega) (by omega) fun p19 c19 h19 o19 _ f19 g19 => ⟨_, _, _, rfl, ?_⟩
      have z18 := u18.fr.1
      have z19 := f19.1
      have F19 : Fr (fun _ => False) g14 h19 := (F17.tt u18.fr).fresh f19 gg17
      have gg19 : ∀ y, inBlk p19 y → g14.size ≤ y := fun y hy => (g19 y hy).elim (gg17 y) (fun h1 => by omega)
      refine ⟨⟨by first | trivial | omega, by first | trivial | omega⟩, onSome_some.2 ⟨(v.till : Int), ((oy F19).heldAt renc_len hy).2.2.2.1, refNum_ok v.till rfl (by omega) fun p20 c20 h20 o20 u20 => ⟨_, _, _, rfl, ?_⟩⟩⟩
      refine den_append tU uU (o19.frame u20.fr (fun _ _ => id)) o20.row' (by rw [bc_len, Nat.mul_one]) (bc_one _) (by omega) (by omega) fun p21 c21 h21 o21 _ f21 g21 => ⟨_, _, _, rfl, ?_⟩
      have z20 := u20.fr.1
      have z21 := f21.1
      have F21 : Fr (fun _ => False) g14 h21 := (F19.tt u20.fr).fresh f21 gg19
      have gg21 : ∀ y, inBlk p21 y → g14.size ≤ y := fun y hy => (g21 y hy).elim (gg19 y) (fun h1 => by omega)
      have er : bc (encNum v.num) ++ bc (encNum v.owner.toNat) ++ bc (encText v.v.b) ++ bc (encNum v.till) = bc (recI v.abs.it) := by unfold recI; rw [bc_append, bc_append, bc_append]; rfl
      have erl : (encNum v.num).length + (encNum v.owner.toNat).length + (encText v.v.b).length + (encNum v.till).length = (recI v.abs.it).length := by unfold recI; rw [List.length_append, List.length_append, List.length_append]; rfl
      rw [er, erl] at o21
      rw [erl]
      have z14 := F14.1
      have bl := B14.len
      rw [List.length_cons, List.length_map, List.length_take] at bl
      refine (B14.on F21).push (by omega) o21 (fun y hy => ⟨by have := gg21 y hy; omega, fun ho => by have := B14.lt ho; have := gg21 y hy; omega⟩) (by omega) ?_
      intro p23 c23 h23 B23 f23 g23
      refine ⟨_, _, _, rfl, ?_⟩
      rw [wrap_id (by omega) (by omega)]
      refine ⟨⟨k + 1, by omega, by omega, ?_, ?_, (F8_14.tt F21).fresh f23 hop, fun y hy => (g23 y hy).elim (hop y) (fun h1 => by have := F8_14.1; have := F21.1; omega)⟩, by show ys.length - Int.toNat ((k : Int) + 1) < ys.length - k; omega⟩
      · rw [List.take_add_one, hik, List.map_append]
        rw [List.cons_append] at B23
        exact B23
      · obtain ⟨_, _, _, ob, _, _, _, h6'⟩ := B14
        exact (F14.tt F21).fresh f23 h6'
    · have q2 : ¬ (k : Int) < ((ys.length : Nat) : Int) := by omega
      simp only [q2, decide_false, Bool.false_eq_true, if_false]
      have htl : (thereL Ls).length = ys.length := by rw [← habs, List.length_map, List.length_map]
      rw [List.take_of_length_le (by omega)] at B14
      exact hk g14 op ol oc B14 F14
end Rbx
end Go.Proofs.Ytlonfpolnmiglaa
