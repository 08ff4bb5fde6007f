/-
  What is proved here: what All and Save of package outbox do. No condition.
-/
import Derived.Test.YtlonfpolnmiglaaBoxOps2
import Derived.Test.YtlonfpolnmiglaaSame
set_option maxRecDepth 100000
namespace Go.Proofs.Ytlonfpolnmiglaa
open Go.Den Go.Fields Go.Heapq
namespace Obx
open Fld
variable {h h' h0 : Heap} {b : Nat} {X : Ft} {R : Value → Heap → Prop} {p q : Option Addr} {c d i : Nat} {L : List E} {s : BS}

/-- items that were written behind h0 -/
def IL (h0 h : Heap) (p : Option Addr) (l c : Nat) (items : List It) : Prop :=
  ∃ (ys : List IV) (D : Nat → Prop), l = ys.length ∧ Own h p l c 4 (ys.flatMap ienc) ∧ ys.map IV.abs = items ∧ (∀ y ∈ ys, y.v.ok h D) ∧ (∀ y, D y → h0.size ≤ y ∧ y < h.size ∧ ¬ inBlk p y) ∧ ∀ y, inBlk p y → h0.size ≤ y
theorem IL.len {l : Nat} {items : List It} (H : IL h0 h p l c items) : l = items.length := by
  obtain ⟨ys, D, h1, _, h3, _⟩ := H
  rw [h1, ← h3, List.length_map]
theorem all_ok (H : Box h b X s) (hk : ∀ h' p' l' c', IL h h' p' l' c' s.items → Fr (fun _ => False) h h' → R (.slice p' l' c') h') : CallsH Try.prog F.outbox_Box_All #[.pointer (some ⟨b, 0, none⟩)] h R := by
  obtain ⟨L, ⟨lp, lc, xs, a, S, H⟩, ok⟩ := H
  obtain ⟨hL, hxl⟩ := H.okL ok
  refine outbox_Box_All.walk (made_ok H ⟨_, rfl, JoinP.of fun J hJ => ?_⟩)
  simp only [if_true]
  refine ⟨_, _, _, cell_at H.blk rfl, ?_⟩
  refine ⟨fun op ol oc t g => ∃ k : Nat, t = (k : Int) ∧ k ≤ xs.length ∧ IL h g op ol oc (s.items.take k) ∧ Fr (fun _ => False) h g, fun _ _ _ t _ => xs.length - t.toNat, ⟨0, rfl, by omega, ⟨[], fun _ => False, rfl, .nil rfl rfl rfl rfl, by simp, (fun y hy => by cases hy), (fun y hy => hy.elim), fun y ⟨a, e, _⟩ => by cases e⟩, Fr.refl _ _⟩, ?_⟩
  rintro op ol oc _ g ⟨k, rfl, hkn, I, fg⟩
  have Mg := H.on fg
  by_cases hlt : k < xs.length
  · have q1 : (k : Int) < ((xs.length : Nat) : Int) := by omega
    simp only [q1, decide_true, if_true, Int.toNat_natCast]
    have hx : xs[k]? = some xs[k] := List.getElem?_eq_getElem hlt
    generalize xs[k] = x at hx
    obtain ⟨ab, aoff, rfl⟩ := Mg.own.addr (by omega)
    refine ⟨⟨by first | trivial | omega, by first | trivial | omega⟩, onSome_some.2 (outbox_Item.ldA (Mg.own.heldAt ienc_len hx) (outbox_Item.new fun b1 h8 eb1 hb1 f8 => outbox_Item.ld hb1 ?_))⟩
    have xit : s.items[k]? = some x.abs := by rw [← H.abs, List.getElem?_map, hx]; rfl
    have hxd := ok.it x.abs (List.mem_of_getElem? xit)
    have dl : x.v.b.length ≤ 600 := hxd.2.2.2.1
    have row8 := ((Mg.dat x (List.mem_of_getElem? hx)).row).frame f8 (fun _ _ => id)
    refine copied_ok row8 rfl (by omega) fun h9 p9 c9 o9 f9 g9 => ⟨_, _, _, _, _, _, rfl, ?_⟩
    have F9 : Fr (fun _ => False) g h9 := f8.tt f9
    obtain ⟨ys, D, y1, y2, y3, y4, y5, y6⟩ := I
    have yl : ys.length ≤ 16 := by
      have := congrArg List.length y3
      rw [List.length_map, List.length_take] at this
      omega
    have z9 := F9.1
    have zg := fg.1
    have z8 := f8.1
    refine den_append1 tI uI (y2.frame F9 (fun _ _ => id)) rfl (fun w hw => by simp at hw; rcases hw with rfl | rfl | rfl | rfl <;> rfl) (by omega) (by omega) fun p11 c11 h11 o11 f11 g11 => ⟨_, _, _, rfl, ?_⟩
    rw [wrap_id (by omega) (by omega)]
    have p9y : ∀ y, inBlk p9 y → g.size ≤ y ∧ y < h9.size := fun y hy => ⟨by have := g9 y hy; omega, o9.blk_lt hy⟩
    have z11 := f11.1
    refine ⟨⟨k + 1, by omega, by omega, ⟨ys ++ [⟨x.num, x.owner, ⟨p9, c9, x.v.b⟩, x.till⟩], fun y => D y ∨ inBlk p9 y, by rw [List.length_append, y1]; rfl, ?_, ?_, ?_, ?_, ?_⟩, ?_⟩, by show xs.length - Int.toNat ((k : Int) + 1) < xs.length - k; omega⟩
    · rw [List.flatMap_append]; simpa using o11
    · rw [List.map_append, y3, List.take_add_one, xit]; rfl
    · intro w hw
      rcases List.mem_append.1 hw with hw | hw
      · exact (((y4 w hw).frame F9 (fun _ _ => id)).frame f11 (fun y hy => (y5 y hy).2.2)).mono (fun y => .inl)
      · obtain rfl := List.mem_singleton.1 hw
        exact BV.of_own (o9.frame f11 (fun y hy hq => by have := p9y y hy; have := y2.blk_lt hq; omega)) (fun y => .inr)
    · rintro y (hy | hy)
      · have a := y5 y hy
        exact ⟨a.1, by omega, fun hq => (g11 y hq).elim a.2.2 (fun h2 => by omega)⟩
      · have a := p9y y hy
        exact ⟨by omega, by omega, fun hq => (g11 y hq).elim (fun h2 => by have := y2.blk_lt h2; omega) (fun h2 => by omega)⟩
    · intro y hy
      rcases g11 y hy with h2 | h2
      · exact y6 y h2
      · omega
    · exact (fg.tt F9).fresh f11 y6
  · have q1 : ¬ (k : Int) < ((xs.length : Nat) : Int) := by omega
    simp only [q1, decide_false, Bool.false_eq_true, if_false]
    subst hJ
    have hlen := H.len
    rw [List.take_of_length_le (by omega)] at I
    exact hk g op ol oc I fg

/-! ### records -/
def headB (s : BS) : List UInt8 := encNum s.next ++ encNum s.taken ++ encNum s.canc ++ encNum s.over ++ encNum s.items.length
def recI (x : It) : List UInt8 := encNum x.num ++ encNum x.owner.toNat ++ encText x.d ++ encNum x.till
def recsB (s : BS) : List (List UInt8) := headB s :: s.items.map recI
theorem headB_len (s : BS) : (headB s).length ≤ 60 := by
  unfold headB
  simp only [List.length_append]
  have a1 := (encNum_len s.next).2
  have a2 := (encNum_len s.taken).2
  have a3 := (encNum_len s.canc).2
  have a4 := (encNum_len s.over).2
  have a5 := (encNum_len s.items.length).2
  omega
theorem recI_len {x : It} (h : x.d.length ≤ 600) : (recI x).length ≤ 700 := by
  unfold recI encText
  simp only [List.length_append]
  have a1 := (encNum_len x.num).2
  have a2 := (encNum_len x.owner.toNat).2
  have a3 := (encNum_len x.d.length).2
  have a4 := (encNum_len x.till).2
  omega
theorem save_ok (H : Box h b X s) (hnx : s.next ≤ 1000000000) (hk : ∀ h' p' l' c', BL h h' p' l' c' (recsB s) → Fr (fun _ => False) h h' → R (.slice p' l' c') h') : CallsH Try.prog F.outbox_Box_Save #[.pointer (some ⟨b, 0, none⟩)] h R := by
  obtain ⟨L, ⟨lp, lc, xs, a, S, H⟩, ok⟩ := H
  obtain ⟨hL, hxl⟩ := H.okL ok
  have hcnt := ok.cnt
  have hlen := H.len
  have nb : ∀ (n : Nat), natOf (n : Int) = n := fun n => by unfold natOf; omega
  refine outbox_Box_Save.walk (made_ok H ⟨_, rfl, ?_⟩)
  simp only [Bool.not_true, Bool.false_eq_true, if_false]
  refine ⟨_, cell_at H.blk rfl, _, cell_at H.blk rfl, _, cell_at H.blk rfl, _, cell_at H.blk rfl, _, _, _, cell_at H.blk rfl, ?_⟩
  refine Fld.new_ok fun h2 w S2 W2 f2 g2 => ⟨_, rfl, ?_⟩
  have u2 : Up h S2 h2 := ⟨f2, g2⟩
  have lb := lt_of_get H.blk
  have nbS : ∀ {S : Nat → Prop} {h' : Heap}, Up h S h' → ¬ S b := fun u hx => by have := u.ge b hx; omega
  have b2 := f2.get H.blk id
  refine ⟨cell_at b2 rfl, cell_at b2 rfl, cell_at b2 rfl, cell_at b2 rfl, cell_at b2 rfl, ?_⟩
  refine int_ok W2 (by simp) (by omega) fun h3 S3 W3 s3 => ⟨_, rfl, ?_⟩
  have b3 := s3.fr.get b2 (nbS u2)
  have u3 := u2.step s3
  rw [nb, List.nil_append] at W3
  have l1 := (encNum_len s.next).2
  refine ⟨cell_at b3 rfl, cell_at b3 rfl, cell_at b3 rfl, cell_at b3 rfl, ?_⟩
  refine int_ok W3 (by omega) (by omega) fun h4 S4 W4 s4 => ⟨_, rfl, ?_⟩
  have b4 := s4.fr.get b3 (nbS u3)
  have u4 := u3.step s4
  rw [nb] at W4
  have l2 := (encNum_len s.taken).2
  refine ⟨cell_at b4 rfl, cell_at b4 rfl, cell_at b4 rfl, ?_⟩
  refine int_ok W4 (by simp only [List.length_append]; omega) (by omega) fun h5 S5 W5 s5 => ⟨_, rfl, ?_⟩
  have b5 := s5.fr.get b4 (nbS u4)
  have u5 := u4.step s5
  rw [nb] at W5
  have l3 := (encNum_len s.canc).2
  refine ⟨cell_at b5 rfl, cell_at b5 rfl, ?_⟩
  refine int_ok W5 (by simp only [List.length_append]; omega) (by omega) fun h6 S6 W6 s6 => ⟨_, rfl, ?_⟩
  have b6 := s6.fr.get b5 (nbS u5)
  have u6 := u5.step s6
  rw [nb] at W6
  have l4 := (encNum_len s.over).2
  refine ⟨cell_at b6 rfl, ?_⟩
  refine int_ok W6 (by simp only [List.length_append]; omega) (by omega) fun h7 S7 W7 s7 => ⟨_, rfl, ?_⟩
  have b7 := s7.fr.get b6 (nbS u6)
  have u7 := u6.step s7
  rw [nb, hlen] at W7
  refine ⟨cell_at b7 rfl, ?_⟩
  have hh := headB_len s
  refine bytes_ok (bs := headB s) W7 (by omega) fun q8 d8 h8 o8 f8 g8 => ⟨_, _, _, rfl, ?_⟩
  have b8 := f8.get b7 id
  refine ⟨cell_at b8 rfl, newP_of ?_⟩
  have f9 : Fr (fun _ => False) h8 (h8.push (.cells #[.slice q8 (headB s).length d8] T.s_uint8)) := Fr.push _ _
  have o9 : Own (h8.push (.cells #[.slice q8 (headB s).length d8] T.s_uint8)) (some ⟨h8.size, 0, none⟩) 1 1 1 (nenc ⟨q8, d8, headB s⟩) := .row h8.size 0 _ _ rfl push_new (Nat.le_refl _) (by simp) rfl (fun j v hj => by rw [Nat.zero_add]; simpa using hj)
  have F8 : Fr (fun _ => False) h h8 := u7.fr.tt f8
  have z8 := F8.1
  have z7 := u7.fr.1
  have B9 : BL h (h8.push (.cells #[.slice q8 (headB s).length d8] T.s_uint8)) (some ⟨h8.size, 0, none⟩) 1 1 [headB s] := by
    refine ⟨[⟨q8, d8, headB s⟩], inBlk q8, rfl, by simpa using o9, rfl, ?_, ?_, fun y ⟨a, e, e2⟩ => by cases e; rw [← e2]; exact z8⟩
    · intro x hx
      obtain rfl := List.mem_singleton.1 hx
      exact BV.of_own (o8.frame f9 (fun _ _ => id)) (fun _ => id)
    · intro y hy
      have h1 := g8 y hy
      have h2 := o8.blk_lt hy
      exact ⟨by omega, by rw [Array.size_push]; omega, fun ⟨a, e, e2⟩ => by cases e; have e2 : h8.size = y := e2; omega⟩
  have F9 : Fr (fun _ => False) h (h8.push (.cells #[.slice q8 (headB s).length d8] T.s_uint8)) := F8.tt f9
  generalize h8.push (.cells #[.slice q8 (headB s).length d8] T.s_uint8) = h9 at B9 F9 ⊢
  generalize (some ⟨h8.size, 0, none⟩ : Option Addr) = p9 at B9 ⊢
  have M9 := H.on F9
  refine ⟨cell_at M9.blk rfl, _, _, _, cell_at M9.blk rfl, ?_⟩
  refine ⟨fun op ol oc t g => ∃ k : Nat, t = (k : Int) ∧ k ≤ xs.length ∧ BL h g op ol oc (headB s :: (s.items.take k).map recI) ∧ Fr (fun _ => False) h g, fun _ _ _ t _ => xs.length - t.toNat, ⟨0, rfl, by omega, by simpa using B9, F9⟩, ?_⟩
  rintro op ol oc _ g ⟨k, rfl, hkn, B, fg⟩
  have Mg := H.on fg
  by_cases hlt : k < xs.length
  · have q1 : (k : Int) < ((xs.length : Nat) : Int) := by omega
    simp only [q1, decide_true, if_true, Int.toNat_natCast]
    have hx : xs[k]? = some xs[k] := List.getElem?_eq_getElem hlt
    generalize xs[k] = x at hx
    obtain ⟨ab, aoff, rfl⟩ := Mg.own.addr (by omega)
    refine ⟨⟨by first | trivial | omega, by first | trivial | omega⟩, onSome_some.2 (outbox_Item.ldA (Mg.own.heldAt ienc_len hx) (outbox_Item.new fun b1 h15 eb1 hb1 f15 => ?_))⟩
    have xit : s.items[k]? = some x.abs := by rw [← H.abs, List.getElem?_map, hx]; rfl
    have hxd := ok.it x.abs (List.mem_of_getElem? xit)
    have dl : x.v.b.length ≤ 600 := hxd.2.2.2.1
    have xo : 1 ≤ x.owner ∧ x.owner ≤ 1099511627776 := ⟨hxd.2.2.2.2.1, hxd.2.2.2.2.2.1⟩
    have xt : x.till ≤ 1099511627776 := hxd.2.2.2.2.2.2
    have xn : x.num < s.next := hxd.2.1
    refine ⟨_, cell_at hb1 rfl, _, cell_at hb1 rfl, _, _, _, cell_at hb1 rfl, _, cell_at hb1 rfl, ?_⟩
    refine Fld.new_ok fun h16 w S16 W16 f16 g16 => ⟨_, rfl, ?_⟩
    have u16 : Up h15 S16 h16 := ⟨f16, g16⟩
    have l1' := lt_of_get hb1
    have nbS' : ∀ {S : Nat → Prop} {h' : Heap}, Up h15 S h' → ¬ S b1 := fun u hx => by have := u.ge b1 hx; omega
    have c16 := f16.get hb1 id
    refine ⟨cell_at c16 rfl, cell_at c16 rfl, cell_at c16 rfl, cell_at c16 rfl, ?_⟩
    refine int_ok W16 (by simp) (by omega) fun h17 S17 W17 s17 => ⟨_, rfl, ?_⟩
    have c17 := s17.fr.get c16 (nbS' u16)
    have u17 := u16.step s17
    rw [nb, List.nil_append] at W17
    have l5 := (encNum_len x.num).2
    refine ⟨cell_at c17 rfl, cell_at c17 rfl, cell_at c17 rfl, ?_⟩
    refine int_ok W17 (by omega) (by omega) fun h18 S18 W18 s18 => ⟨_, rfl, ?_⟩
    have c18 := s18.fr.get c17 (nbS' u17)
    have u18 := u17.step s18
    have eo : natOf x.owner = x.owner.toNat := by unfold natOf; omega
    rw [eo] at W18
    have l6 := (encNum_len x.owner.toNat).2
    refine ⟨cell_at c18 rfl, cell_at c18 rfl, ?_⟩
    have row18 := ((Mg.dat x (List.mem_of_getElem? hx)).row).frame (f15.tt u18.fr) (fun _ _ => id)
    refine text_ok' W18 (by simp only [List.length_append]; omega) row18 rfl (by omega) (fun y hy hne hS => ?_) fun h19 S19 W19 s19 => ⟨_, rfl, ?_⟩
    · have a1 := (Mg.dat x (List.mem_of_getElem? hx)).own hne y hy
      have a2 := Mg.dlt y a1
      have a3 := u18.ge y hS
      have a4 := f15.1
      omega
    have c19 := s19.fr.get c18 (nbS' u18)
    have u19 := u18.step s19
    have el : (encText x.v.b).length = (encNum x.v.b.length).length + x.v.b.length := by unfold encText; rw [List.length_append]
    have l7 := (encNum_len x.v.b.length).2
    refine ⟨cell_at c19 rfl, ?_⟩
    refine num_ok x.till W19 (by simp only [List.length_append]; omega) rfl (by omega) fun h20 S20 W20 s20 => ⟨_, rfl, ?_⟩
    have u20 := u19.step s20
    have rl := recI_len (x := x.abs) dl
    refine bytes_ok (bs := recI x.abs) W20 (by omega) fun q21 d21 h21 o21 f21 g21 => ⟨_, _, _, rfl, ?_⟩
    have F21 : Fr (fun _ => False) g h21 := f15.tt (u20.fr.tt f21)
    have z21 := F21.1
    have zg := fg.1
    have z20 := (f15.tt u20.fr).1
    have bl := B.len
    rw [List.length_cons, List.length_map, List.length_take] at bl
    refine (B.on F21).push (by omega) o21 (fun y hy => ⟨by have := g21 y hy; omega, fun ho => by have := B.lt ho; have := g21 y hy; omega⟩) (by omega) ?_
    intro p23 c23 h23 B23 f23 g23
    refine ⟨_, _, _, rfl, ?_⟩
    rw [wrap_id (by omega) (by omega)]
    refine ⟨⟨k + 1, by omega, by omega, ?_, ?_⟩, by show xs.length - Int.toNat ((k : Int) + 1) < xs.length - k; omega⟩
    · rw [List.take_add_one, xit, List.map_append]
      rw [List.cons_append] at B23
      exact B23
    · obtain ⟨_, _, _, _, _, _, _, h6'⟩ := B
      exact (fg.tt F21).fresh f23 h6'
  · have q1 : ¬ (k : Int) < ((xs.length : Nat) : Int) := by omega
    simp only [q1, decide_false, Bool.false_eq_true, if_false]
    rw [List.take_of_length_le (by omega)] at B
    exact hk g op ol oc B fg
end Obx
end Go.Proofs.Ytlonfpolnmiglaa
