/-
  What is proved here: the law OutboxOnce on heaps ('outboxOnce_ok'). No condition.
-/
import Derived.Test.YtlonfpolnmiglaaLaw23
import Derived.Test.YtlonfpolnmiglaaBoxLoad
import Derived.Test.YtlonfpolnmiglaaVcI
import Derived.Test.YtlonfpolnmiglaaEq5
set_option maxRecDepth 100000
namespace Go.Proofs.Ytlonfpolnmiglaa
open Go.Den Go.Fields Go.Heapq
namespace Obx
open Fld
variable {h h' h0 : Heap} {b : Nat} {X : Ft} {R : Value → Heap → Prop} {p q : Option Addr} {c d i : Nat} {L : List E} {s : BS}

/-! ### a law's steps -/
structure OV where
  kind : Int
  num : Int
  owner : Int
  p : Option Addr
  c : Nat
  b : List UInt8
  till : Nat
abbrev oenc (f : OV) : List Value := [.int .i64 f.kind, .int .i64 f.num, .int .i64 f.owner, .slice f.p f.b.length f.c, .int .u64 (f.till : Int)]
theorem oenc_len (f : OV) : (oenc f).length = 5 := rfl
theorem ov_tl : tleaves Try.prog 5 T.law23_Op = some [T.int, T.int, T.int, T.s_uint8, T.uint64] := by kernel_rfl
theorem ov_dec (n : Nat) (cs : List Value) (hl : cs.length = 5) (hr : Rok Try.prog h n T.law23_Op cs) : ∃ f : OV, cs = oenc f ∧ Row h f.p (bc f.b) := by
  have L := tleaves_ok 5 n _ _ cs ov_tl (by rw [hl]; rfl) hr
  match cs, hl with
  | [a, b, c, d, s], _ =>
    obtain ⟨k, rfl, _⟩ := L.int 0 rfl rfl (k := .i64) (by kernel_rfl)
    obtain ⟨y, rfl, _⟩ := L.int 1 rfl rfl (k := .i64) (by kernel_rfl)
    obtain ⟨z, rfl, _⟩ := L.int 2 rfl rfl (k := .i64) (by kernel_rfl)
    obtain ⟨x, rfl, w1⟩ := L.int 4 rfl rfl (k := .u64) (by kernel_rfl)
    obtain ⟨m, hm⟩ := L.get 3 rfl rfl
    obtain ⟨p, q, bs, rfl, hrow⟩ := Rok.bytes (by kernel_rfl) u8 uU hm
    have w1 := wf_u64 w1
    obtain ⟨x, rfl⟩ := Int.eq_ofNat_of_zero_le w1.1
    exact ⟨⟨k, y, z, p, q, bs, x⟩, rfl, hrow⟩
theorem ovs_read {l c : Nat} (hv : RokV Try.prog h T.s_law23_Op (.slice p l c)) : ∃ fs : List OV, fs.length = l ∧ Row h p (fs.flatMap oenc) ∧ ∀ f ∈ fs, Row h f.p (bc f.b) := by
  obtain ⟨xs, h1, _, _, h2, h3⟩ := RokV.slice (e := T.law23_Op) oenc 5 (fun f => Row h f.p (bc f.b)) (by kernel_rfl) (fun _ => rfl) (fun n cs hl hr => ov_dec n cs hl hr) (by kernel_rfl) hv
  exact ⟨xs, h1, h2, h3⟩
theorem recsB_small {L : List E} (ok : okB s L) : (recsB s).length ≤ 17 := by
  unfold recsB
  have := ok.le
  simp; omega

set_option maxHeartbeats 4000000 in
theorem _root_.Go.Proofs.Ytlonfpolnmiglaa.outboxOnce_ok (op : Option Addr) (ol oc : Nat) (hv : RokV Try.prog h T.s_law23_Op (.slice op ol oc)) : LawH Try.prog F.law23_OutboxOnce #[.slice op ol oc] h := by
  obtain ⟨fs, rfl, hrow, hok⟩ := ovs_read hv
  clear hv
  unfold LawH
  generalize hR : (fun (v : Value) h' => v = .bool true ∧ Fr (fun _ => False) h h') = R
  have hk : ∀ h', Fr (fun _ => False) h h' → R (.bool true) h' := fun h' hf => by rw [← hR]; exact ⟨rfl, hf⟩
  clear hR
  refine law23_OutboxOnce.walk (new_box fun h1 b X1 H1 u1 => ⟨_, rfl, ?_⟩)
  refine ⟨fun last i g => ∃ (k la : Nat) (X : Ft) (s : BS), i = (k : Int) ∧ last = (la : Int) ∧ k ≤ 80 ∧ Box g b X s ∧ UpF h X g ∧ s.next ≤ k + 1 ∧ la < s.next ∧ ∀ x ∈ s.items, la < x.num, fun _ i _ => 80 - i.toNat, ⟨0, 0, X1, _, rfl, rfl, by omega, H1, u1, Nat.le_refl _, Nat.lt_succ_self _, fun x hx => by cases hx⟩, ?_⟩
  clear H1 u1
  rintro _ _ h2 ⟨k, la, X, s, rfl, rfl, hk80, H, u, hnx, hla, hall⟩
  refine JoinP.of fun J hJ => ?_
  by_cases hl : k < fs.length ∧ k < 80
  · have q1 : (k : Int) < ((fs.length : Nat) : Int) := by omega
    have q2 : (k : Int) < 80 := by omega
    simp only [q1, q2, decide_true, if_true]
    subst hJ
    simp only [if_true, Int.toNat_natCast]
    obtain ⟨f, hf⟩ : ∃ f, fs[k]? = some f := ⟨fs[k], List.getElem?_eq_getElem hl.1⟩
    have row3 := hrow.frame u.fr (fun _ _ => id)
    obtain ⟨a, rfl⟩ := row3.some (by intro e; cases fs with | nil => simp at hf | cons => simp at e)
    refine ⟨⟨by first | trivial | omega, by first | trivial | omega⟩, onSome_some.2 (law23_Op.ldA (row3.heldAt oenc_len hf) (law23_Op.new fun b1 h9 eb hb f9 => ⟨_, _, _, cell_at hb rfl, ?_⟩))⟩
    have H9 := H.on f9
    have u9 := u.on f9
    have rowb : Row h9 f.p (bc f.b) := (hok f (List.mem_of_getElem? hf)).frame u9.fr (fun _ _ => id)
    by_cases hbig : f.b.length > 700
    · have : ((f.b.length : Nat) : Int) > 700 := by omega
      simp only [this, decide_true, if_true]
      exact alive_ok fun h11 f11 => ⟨_, rfl, hk h11 (u9.fr.tt f11)⟩
    · have : ¬ ((f.b.length : Nat) : Int) > 700 := by omega
      simp only [this, decide_false, Bool.false_eq_true, if_false]
      refine ⟨_, cell_at hb rfl, JoinP.of fun J1 hJ1 => ?_⟩
      have fin : ∀ (la' : Nat) g X' s', Box g b X' s' → UpF h X' g → s'.next ≤ k + 2 → la' < s'.next → (∀ x ∈ s'.items, la' < x.num) → J1 (la' : Int) g := by
        intro la' g X' s' H' u' hnx' hla' hall'
        subst hJ1
        dsimp only
        refine counts_ok H' (by omega) fun h12 f12 => ⟨_, _, _, _, _, rfl, newP_of ?_⟩
        have f13 : Fr (fun _ => False) h12 (h12.push (.cells #[.int .i64 0, .int .i64 0, .int .i64 0, .int .i64 0, .int .i64 0] T.a5_int)) := Fr.push _ _
        have hb13 : (h12.push (.cells #[.int .i64 0, .int .i64 0, .int .i64 0, .int .i64 0, .int .i64 0] T.a5_int))[h12.size]? = some (.cells #[.int .i64 0, .int .i64 0, .int .i64 0, .int .i64 0, .int .i64 0] T.a5_int (0, 0)) := push_new
        generalize h12.push (.cells #[.int .i64 0, .int .i64 0, .int .i64 0, .int .i64 0, .int .i64 0] T.a5_int) = h13 at f13 hb13 ⊢
        refine storeP_blk hb13 (by simp) fun g1 a1 b1' c1 => storeP_blk a1 (by simp) fun g2 a2 b2 c2 => storeP_blk a2 (by simp) fun g3 a3 b3 c3 => storeP_blk a3 (by simp) fun g4 a4 b4 c4 => storeP_blk a4 (by simp) fun g5 a5 b5 c5 => ?_
        have f5 : Fr (fun y => y = h12.size) h13 g5 := ⟨by omega, fun y hy hn => by rw [c5 y hn, c4 y hn, c3 y hn, c2 y hn, c1 y hn]⟩
        have F5 : Fr (fun _ => False) h12 g5 := f13.fresh f5 (fun y e => Nat.le_of_eq e.symm)
        have H5 := H'.on (f12.tt F5)
        obtain ⟨L5, _, ok5⟩ := id H5
        have hcnt := ok5.cnt
        have hle := ok5.le
        refine JoinP.of fun J2 hJ2 => ?_
        refine ⟨⟨by omega, by omega⟩, _, cell_at a5 rfl, ⟨by omega, by omega⟩, _, cell_at a5 rfl, ⟨by omega, by omega⟩, _, cell_at a5 rfl, ⟨by omega, by omega⟩, _, cell_at a5 rfl, ⟨by omega, by omega⟩, _, cell_at a5 rfl, ?_⟩
        have q3 : (((s'.next : Int) - 1) != (IntKind.wrap .i64 ((IntKind.wrap .i64 ((IntKind.wrap .i64 ((s'.items.length : Int) + (s'.taken : Int))) + (s'.canc : Int))) + (s'.over : Int)))) = false := by
          rw [wrap_id (n := (s'.items.length : Int) + (s'.taken : Int)) (by omega) (by omega), wrap_id (n := (s'.items.length : Int) + (s'.taken : Int) + (s'.canc : Int)) (by omega) (by omega), wrap_id (by omega) (by omega)]
          simp only [bne_eq_false_iff_eq]
          omega
        rw [q3, if_neg (by simp)]
        refine ⟨⟨by omega, by omega⟩, _, cell_at a5 rfl, ?_⟩
        have q4 : ¬ ((s'.items.length : Nat) : Int) > 16 := by omega
        rw [if_neg (by simp only [decide_eq_true_eq]; exact q4)]
        refine ⟨⟨by omega, by omega⟩, _, cell_at a5 rfl, ?_⟩
        refine all_ok H5 fun h20 p20 l20 c20 I20 f20 => ⟨_, _, _, rfl, ?_⟩
        have a20 := f20.get a5 id
        refine ⟨cell_at a20 rfl, cell_at a20 rfl, cell_at a20 rfl, cell_at a20 rfl, cell_at a20 rfl, cell_at a20 rfl, cell_at a20 rfl, ?_⟩
        have q5 : (((s'.items.length : Nat) : Int) != ((l20 : Nat) : Int)) = false := by rw [I20.len]; simp
        rw [q5]
        subst hJ2
        simp only [Bool.false_eq_true, if_false]
        rw [wrap_id (by omega) (by omega)]
        exact ⟨⟨k + 1, la', X', s', by omega, rfl, by omega, H5.on f20, u'.on (f12.tt (F5.tt f20)), by omega, hla', hall'⟩, by show 80 - Int.toNat ((k : Int) + 1) < 80 - k; omega⟩
      clear hJ1
      obtain ⟨L9, _, ok9⟩ := id H9
      refine JoinP.of fun J3 hJ3 => ?_
      subst hJ3
      split
      · refine ⟨_, cell_at hb rfl, _, _, _, cell_at hb rfl, _, cell_at hb rfl, add_ok f.till rfl H9 rowb rfl (by omega) (by omega) fun g X' H' s' => ⟨_, _, rfl, ?_⟩⟩
        refine fin la g X' _ H' (u9.step s') ?_ ?_ ?_
        · unfold addS; split <;> (try dsimp only) <;> omega
        · unfold addS; split <;> (try dsimp only) <;> omega
        · unfold addS
          split
          · intro x hx
            rcases List.mem_append.1 hx with hx | hx
            · exact hall x hx
            · obtain rfl := List.mem_singleton.1 hx
              exact hla
          · exact hall
      refine JoinP.of fun J4 hJ4 => ?_
      subst hJ4
      split
      · refine ⟨_, cell_at hb rfl, _, cell_at hb rfl, cancel_ok H9 (by omega) fun g X' H' s' => ⟨_, rfl, ?_⟩⟩
        refine fin la g X' _ H' (u9.step s') ?_ ?_ ?_
        · unfold cancS; split <;> (try dsimp only) <;> omega
        · unfold cancS; split <;> (try dsimp only) <;> omega
        · unfold cancS
          split
          · intro x hx; exact hall x (List.mem_filter.1 hx).1
          · exact hall
      refine JoinP.of fun J5 hJ5 => ?_
      subst hJ5
      split
      · refine take_ok H9 (by omega) (fun hn g H' f' => ⟨_, _, _, _, _, _, _, rfl, ?_⟩) (fun x r hxr g X' v hva H' s' v' => ⟨_, _, _, _, _, _, _, rfl, ?_⟩)
        · refine outbox_Item.new fun b2 h31 eb2 hb2 f31 => JoinP.of fun J6 hJ6 => ?_
          rw [if_neg (by decide)]
          subst hJ6
          simp only [Bool.false_eq_true, if_false]
          refine JoinP.of fun J7 hJ7 => ?_
          rw [if_neg (by decide)]
          subst hJ7
          exact fin la h31 X s (H'.on f31) (u9.on (f'.tt f31)) (by omega) hla hall
        · refine outbox_Item.new fun b2 h31 eb2 hb2 f31 => JoinP.of fun J6 hJ6 => ?_
          rw [if_pos (by decide)]
          refine ⟨_, cell_at hb2 rfl, ?_⟩
          have hvn : v.num = x.num := congrArg It.num hva
          have hxm : x ∈ s.items := by rw [hxr]; simp
          have q6 : decide ((v.num : Int) ≤ (la : Int)) = false := decide_eq_false (by have := hall x hxm; omega)
          rw [q6]
          subst hJ6
          simp only [Bool.false_eq_true, if_false]
          refine JoinP.of fun J7 hJ7 => ?_
          rw [if_pos (by decide)]
          refine ⟨_, cell_at hb2 rfl, ?_⟩
          subst hJ7
          dsimp only
          have hinc := ok9.inc
          rw [hxr, List.map_cons, List.pairwise_cons] at hinc
          refine fin v.num h31 X' _ (H'.on f31) ((u9.step s').on f31) (by show s.next ≤ k + 2; omega) (by show v.num < s.next; have := (ok9.it x hxm).2.1; omega) (fun y hy => ?_)
          have := hinc.1 y.num (List.mem_map_of_mem hy)
          omega
      refine JoinP.of fun J8 hJ8 => ?_
      subst hJ8
      split
      · refine ⟨_, cell_at hb rfl, pass_ok f.till rfl H9 (by omega) fun g X' p' c' ys D H' s' _ _ _ _ _ _ _ => ⟨_, _, _, rfl, ?_⟩⟩
        exact fin la g X' _ H' (u9.step s') (by show s.next ≤ k + 2; omega) hla (fun x hx => hall x (List.mem_filter.1 hx).1)
      · exact fin la h9 X s H9 u9 (by omega) hla hall
  · have last : J false h2 := by
      subst hJ
      simp only [Bool.false_eq_true, if_false]
      obtain ⟨L2, _, ok⟩ := id H
      have hle := ok.le
      refine save_ok H (by omega) fun h36 p36 l36 c36 B36 f36 => ⟨_, _, _, rfl, ?_⟩
      obtain ⟨xs, Rw, hxs⟩ := BL.to_rows B36
      have hl36 := B36.len
      have hrl : (recsB s).length = s.items.length + 1 := by unfold recsB; simp
      refine load_ok Rw ok (by omega) (by omega) (.inr (.inr hxs)) (fun _ h37 b2 X2 H2 u2 => ⟨_, _, rfl, ?_⟩) (fun hn => absurd hxs hn)
      have H37 := H.on (f36.tt u2.fr)
      refine JoinP.of fun J9 hJ9 => ?_
      have fin : ∀ g, Fr (fun _ => False) h36 g → J9 false g := by
        intro g fg
        subst hJ9
        simp only [Bool.false_eq_true, if_false]
        have e36 : IntKind.wrap .i64 (((l36 : Nat) : Int) - 1) = ((l36 - 1 : Nat) : Int) := by rw [wrap_id (by omega) (by omega)]; omega
        rw [e36]
        simp only [Int.toNat_natCast, Nat.sub_zero]
        have cap := Rw.cap
        have Rg := Rw.on fg
        have RwS : Fld.Rows g (slBase p36 c36 0 1) (l36 - 1) c36 (xs.take (l36 - 1)) := by
          refine ⟨by rw [List.length_take, ← Rw.len]; omega, ?_, by omega, fun x hx => Rg.each x (List.mem_of_mem_take hx)⟩
          rw [slBase_zero]
          have := Rg.row.sub (cap := c36) (l := 0) (u := l36 - 1) (sz := 1) (by omega) (by omega)
          rw [flat_take nenc 1 nenc_len, slBase_zero, Nat.zero_mul, List.drop_zero] at this
          exact this
        have hne : (xs.take (l36 - 1)).map BV.b ≠ recsB s := fun e => by
          have := congrArg List.length e
          rw [List.length_map, List.length_take, ← Rw.len] at this
          omega
        refine ⟨⟨by omega, by omega⟩, load_ok RwS ok (by omega) (by omega) ?_ (fun e => absurd e hne) (fun _ h39 f39 => ⟨_, _, rfl, ?_⟩)⟩
        · rw [List.map_take, hxs]
          by_cases h0 : s.items = []
          · right; left
            have : l36 - 1 = 0 := by rw [hl36, hrl, h0]; rfl
            rw [this, List.take_zero]
          · left
            have hp := List.length_pos_iff.2 h0
            refine ⟨(s.items.map recI).take (l36 - 2), ?_, ?_⟩
            · unfold recsB
              rw [show l36 - 1 = (l36 - 2) + 1 by omega, List.take_succ_cons]
            · rw [List.length_take, List.length_map]; omega
        refine den_clone tN uN (Rg.on f39).row (by rw [Rw.len]; exact flat_len nenc 1 nenc_len xs) (nenc_one xs) (by omega) (by omega) fun p41 c41 h41 o41 f41 g41 => ⟨_, _, _, rfl, newP_of ?_⟩
        have f42 : Fr (fun _ => False) h41 (h41.push (.cells #[.int .u8 1] T.uint8)) := Fr.push _ _
        have r42 : Row (h41.push (.cells #[.int .u8 1] T.uint8)) (some ⟨h41.size, 0, none⟩) (bc [1]) := row_new (cs := bc [1])
        have z42 : (h41.push (.cells #[.int .u8 1] T.uint8)).size = h41.size + 1 := Array.size_push _
        generalize h41.push (.cells #[.int .u8 1] T.uint8) = h42 at f42 r42 z42 ⊢
        refine den_append1 tN uN (o41.frame f42 (fun _ _ => id)) rfl (fun v hv => by simp at hv; subst hv; rfl) (by omega) (by omega) fun p44 c44 h44 o44 f44 g44 => ⟨_, _, _, rfl, ?_⟩
        have z39 := f39.1
        have z41 := f41.1
        have F44 : Fr (fun _ => False) h39 h44 := (f41.tt f42).fresh f44 g41
        have p41lt : ∀ y, inBlk p41 y → y < h41.size := fun y hy => o41.blk_lt hy
        have RT : Fld.Rows h44 p44 (l36 + 1) c44 (xs ++ [(⟨some ⟨h41.size, 0, none⟩, 1, [1]⟩ : BV)]) := by
          refine ⟨by rw [List.length_append, ← Rw.len]; rfl, ?_, o44.le, fun x hx => ?_⟩
          · rw [List.flatMap_append]; exact o44.row'
          · rcases List.mem_append.1 hx with hx | hx
            · exact ((Rg.on f39).on F44).each x hx
            · obtain rfl := List.mem_singleton.1 hx
              exact r42.frame f44 (fun a ea hq => by cases ea; have := p41lt _ hq; simp at this)
        have hm : (xs ++ [(⟨some ⟨h41.size, 0, none⟩, 1, [1]⟩ : BV)]).map BV.b = headB s :: (s.items.map recI ++ [[1]]) := by rw [List.map_append, hxs]; rfl
        have hne2 : (xs ++ [(⟨some ⟨h41.size, 0, none⟩, 1, [1]⟩ : BV)]).map BV.b ≠ recsB s := fun e => by
          have := congrArg List.length e
          rw [List.length_map, List.length_append, ← Rw.len, List.length_singleton] at this
          omega
        refine load_ok RT ok (by omega) (by omega) (.inl ⟨_, hm, by simp⟩) (fun e => absurd e hne2) (fun _ h45 f45 => ⟨_, _, rfl, ?_⟩)
        refine alive_ok fun h46 f46 => ⟨_, rfl, ?_⟩
        simp only [if_true]
        rw [if_pos (by decide)]
        exact hk h46 ((u.on (f36.tt (fg.tt (f39.tt (F44.tt (f45.tt f46)))))).fr)
      clear hJ9
      rw [if_neg (by decide), if_neg (by simp), if_neg (by simp only [beq_iff_eq]; omega)]
      refine save_ok H2 (by omega) fun h47 p47 l47 c47 B47 f47 => ⟨_, _, _, rfl, ?_⟩
      obtain ⟨zs, Rz, hzs⟩ := BL.to_rows B47
      have hl47 := B47.len
      have F47 := u2.fr.tt f47
      refine same_ok Rz (Rw.on F47) (by omega) ⟨_, rfl, ?_⟩
      rw [hzs, hxs, decide_eq_true rfl]
      simp only [Bool.not_true, Bool.false_eq_true, if_false]
      refine counts_ok (H2.on f47) (by omega) fun h49 f49 => ⟨_, _, _, _, _, rfl, ?_⟩
      refine counts_ok (H37.on (f47.tt f49)) (by omega) fun h50 f50 => ⟨_, _, _, _, _, rfl, true, eq_same _ _ _ _ _, ?_⟩
      exact fin h50 (F47.tt (f49.tt f50))
    by_cases q1 : (k : Int) < ((fs.length : Nat) : Int)
    · have q2 : ¬ (k : Int) < 80 := by omega
      simp only [q1, q2, decide_true, decide_false, if_true]
      exact last
    · simp only [q1, decide_false, Bool.false_eq_true, if_false]
      exact last
end Obx
end Go.Proofs.Ytlonfpolnmiglaa
