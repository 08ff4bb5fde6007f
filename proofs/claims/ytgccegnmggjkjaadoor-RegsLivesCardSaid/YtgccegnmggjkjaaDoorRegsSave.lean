/-
  What is proved here: a table of registrations is saved: regs.record, regs.Save, ref22.Save. No condition.
-/
import Derived.Test.YtgccegnmggjkjaaDoorRef22
import Derived.Test.YtgccegnmggjkjaaDoorSame
import Derived.Test.YtgccegnmggjkjaaDoorRef15
set_option maxRecDepth 100000
namespace Go.Den
/-- '[]byte(s)' -/
theorem den_s2b {P : Program} {sT dT e : TypeId} {h : Heap} {s : ByteArray} {K : Value → Heap → Prop} (hs : P.underlying sT = some .string) (hd : P.underlying dT = some (.slice e)) (he : P.underlying e = some (.int .u8))
    (hk : ∀ p c h', Row h' p (bc s.data.toList) → s.size ≤ c → Fr (fun _ => False) h h' → (∀ y, inBlk p y → h.size ≤ y) → K (.slice p s.size c) h') : denSem P (convert sT dT (.string s)) h K := by
  unfold convert
  refine den_of_rd (s := underlying sT) (rd_underlying hs) ?_
  refine den_of_rd (s := underlying dT) (rd_underlying hd) ?_
  show denSem P (underlying e >>= _) h K
  refine den_of_rd (s := underlying e) (rd_underlying he) ?_
  show denSem P (Conv.stringToBytes e s) h K
  unfold Conv.stringToBytes
  rw [den_bind]
  unfold choose
  simp only [denSem, Question.forced, Bool.false_eq_true, if_false, Question.cut]
  intro tq
  generalize hcap : s.size + tq % (2 ^ 63 - s.size) = cap
  have hle : s.size ≤ cap := by omega
  generalize hcs : (s.data.map fun b => Value.int .u8 (b.toNat : Int)) ++ Array.replicate (cap - s.size) (Value.int .u8 0) = cs
  have hrow : ∀ j v, (bc s.data.toList)[j]? = some v → cs[0 + j]? = some v := fun j v hj => by
    have hjl := (List.getElem?_eq_some_iff.1 hj).1
    rw [bc_len, Array.length_toList] at hjl
    rw [← hcs, Nat.zero_add, Array.getElem?_append_left (by simpa using hjl), Array.getElem?_map, ← hj]
    unfold bc
    rw [List.getElem?_map, Array.getElem?_toList]
  show denSem P (newRow e cs >>= _) h K
  rw [den_bind]
  show denSem P (markStringish ⟨h.size, 0, none⟩ >>= fun _ => pure (.slice (some ⟨h.size, 0, none⟩) s.size cap)) (h.push (.cells cs e)) K
  rw [den_bind]
  unfold markStringish shape
  have hsh : hshape (h.push (.cells cs e)) h.size = some (e, cs.size) := by simp [hshape]
  show denSem P (match hshape (h.push (.cells cs e)) h.size with | some (_, n) => freeze { block := h.size, off := n } 1 | _ => pure ()) (h.push (.cells cs e)) _
  rw [hsh]
  show K (.slice (some ⟨h.size, 0, none⟩) s.size cap) (hfreeze (h.push (.cells cs e)) { block := h.size, off := cs.size } 1)
  unfold hfreeze
  rw [if_neg (by omega)]
  refine hk _ _ _ (.inr ⟨_, rfl, heldL_blk (c := cs) (t := e) (f := if (0 : Nat) == 0 then (cs.size, cs.size + 1) else (min 0 cs.size, max 0 (cs.size + 1))) ?_ hrow⟩) hle ⟨by simp, fun c hc _ => ?_⟩ (fun y ⟨a, ea, ey⟩ => by cases ea; exact Nat.le_of_eq ey)
  · rw [Array.getElem?_modify, if_pos rfl, push_new]; rfl
  · rw [Array.getElem?_modify, if_neg (by simp; omega), Array.getElem?_push, if_neg (by omega)]
end Go.Den
namespace Go.Proofs.YtgccegnmggjkjaaDoor
open Go.Den Go.Fields
namespace Regs
open Eid Fld
variable {h h' : Heap} {R : Value → Heap → Prop} {b x : Nat} {X Y : Ft} {L L' : List Rg} {p : Option Addr} {c n i : Nat} {r : Rg}
theorem s2b {s : ByteArray} {K : Value → Heap → Prop} (hk : ∀ p c h', Row h' p (bc s.data.toList) → s.size ≤ c → Fr (fun _ => False) h h' → (∀ y, inBlk p y → h.size ≤ y) → K (.slice p s.size c) h') : denSem Tryd.prog (convert T.string T.s_uint8 (.string s)) h K := den_s2b uS uU u8 hk
/-- a registration's record -/
def recR (r : Rg) : List UInt8 := encText (textE r.e) ++ encNum (natOf r.pol) ++ encNum (natOf r.own)
structure okR (r : Rg) : Prop where
  rt : rightR r = true
  sv : 0 ≤ r.e.svc
theorem okR.e (k : okR r) : rightE r.e = true ∧ 0 ≤ r.pol ∧ r.pol ≤ 2 ∧ 1 ≤ r.own ∧ r.own ≤ 1099511627776 := by
  have := k.rt
  unfold rightR at this
  simp only [Bool.and_eq_true, Bool.not_eq_true', decide_eq_true_eq, decide_eq_false_iff_not] at this
  exact ⟨this.1, this.2.2.1.1, this.2.2.1.2, this.2.2.2.1, this.2.2.2.2⟩
theorem recR_len (k : okR r) : (recR r).length ≤ 200 := by
  have l0 := text_len k.e.1 k.sv
  have l1 := (encNum_len (textE r.e).length).2
  have l2 := (encNum_len (natOf r.pol)).2
  have l3 := (encNum_len (natOf r.own)).2
  unfold recR encText
  simp only [List.length_append]; omega
theorem record_ok (k : okR r) (tb : Num.Tab h) (hk : ∀ p' c' h', Own h' p' (recR r).length c' 1 (bc (recR r)) → Fr (fun _ => False) h h' → (∀ y, inBlk p' y → h.size ≤ y) → R (.slice p' (recR r).length c') h') : CallsH Tryd.prog F.regs_record #[r.val] h R := by
  have ke := k.e
  refine regs_record.walk (regs_Reg.box fun b h1 eb hb f1 => ld_e hb (Eid.text_ok r.e (tb.on f1) k.sv fun h2 f2 => ?_))
  simp only [ke.1, if_true]
  refine ⟨_, _, rfl, ?_⟩
  have hb2 : r.at h2 b := f2.get hb id
  have F2 := f1.tt f2
  have l0 := text_len ke.1 k.sv
  have sz : (str (textE r.e)).size = (textE r.e).length := str_size _
  have dt : (str (textE r.e)).data.toList = textE r.e := by unfold str; simp
  have tail : ∀ g (w : Nat) (S : Nat → Prop) q d, Fr (fun _ => False) h2 g → Wr g w S [] → (∀ y, S y → h2.size ≤ y) → Row g q (bc (textE r.e)) → (∀ y, inBlk q y → ¬ S y) → hcell g ⟨b, 6, none⟩ = some (.int .i64 r.own) ∧ hcell g ⟨b, 5, none⟩ = some (.int .i64 r.pol) ∧ CallsH Tryd.prog F.fields_Writer_Text #[.pointer (some ⟨w, 0, none⟩), .slice q (str (textE r.e)).size d] g fun v_3 h_5 =>
      ∃ (t14 : Option Addr), v_3 = .pointer t14 ∧
      hcell h_5 ⟨b, 6, none⟩ = some (.int .i64 r.own) ∧
      hcell h_5 ⟨b, 5, none⟩ = some (.int .i64 r.pol) ∧
      CallsH Tryd.prog F.fields_Writer_Int #[.pointer t14, .int .i64 r.pol] h_5 fun v_4 h_6 =>
      ∃ (t17 : Option Addr), v_4 = .pointer t17 ∧
      hcell h_6 ⟨b, 6, none⟩ = some (.int .i64 r.own) ∧
      CallsH Tryd.prog F.fields_Writer_Int #[.pointer t17, .int .i64 r.own] h_6 fun v_5 h_7 =>
      ∃ (t20 : Option Addr), v_5 = .pointer t20 ∧
      CallsH Tryd.prog F.fields_Writer_Bytes #[.pointer t20] h_7 fun v_6 h_8 =>
      ∃ (t21_p : Option Addr) (t21_l t21_c : Nat), v_6 = .slice t21_p t21_l t21_c ∧
      R (.slice t21_p t21_l t21_c) h_8 := by
    intro g w S q d fg W hS row hq
    have bS : ∀ {S' : Nat → Prop}, (∀ y, S' y → h2.size ≤ y) → ¬ S' b := fun hh hn => by have := hh b hn; have := lt_of_get hb2; omega
    have hbg : r.at g b := fg.get hb2 id
    have zg := fg.1
    refine ⟨cell_at hbg rfl, cell_at hbg rfl, Fld.text_ok W (by simp) row sz (by omega) hq fun g1 S1 W1 st1 => ?_⟩
    have hS1 : ∀ y, S1 y → h2.size ≤ y := fun y hy => (st1.new y hy).elim (hS y) (fun h1 => by omega)
    have hb1 : r.at g1 b := st1.fr.get hbg (bS hS)
    have z1 := st1.fr.1
    have lt := text_len ke.1 k.sv
    have l1 := (encNum_len (textE r.e).length).2
    have l2 := (encNum_len (natOf r.pol)).2
    have l3 := (encNum_len (natOf r.own)).2
    have el : (encText (textE r.e)).length = (encNum (textE r.e).length).length + (textE r.e).length := by unfold encText; rw [List.length_append]
    refine ⟨_, rfl, cell_at hb1 rfl, cell_at hb1 rfl, int_ok W1 (by rw [List.nil_append]; omega) (by omega) fun g2 S2 W2 st2 => ⟨_, rfl, ?_⟩⟩
    have hS2 : ∀ y, S2 y → h2.size ≤ y := fun y hy => (st2.new y hy).elim (hS1 y) (fun h1 => by omega)
    have hb2' : r.at g2 b := st2.fr.get hb1 (bS hS1)
    have z2 := st2.fr.1
    refine ⟨cell_at hb2' rfl, int_ok W2 (by rw [List.nil_append, List.length_append]; omega) (by omega) fun g3 S3 W3 st3 => ⟨_, rfl, ?_⟩⟩
    have hS3 : ∀ y, S3 y → h2.size ≤ y := fun y hy => (st3.new y hy).elim (hS2 y) (fun h1 => by omega)
    have er : [] ++ encText (textE r.e) ++ encNum (natOf r.pol) ++ encNum (natOf r.own) = recR r := by unfold recR; rw [List.nil_append]
    rw [er] at W3
    have lr := recR_len k
    refine bytes_ok W3 (by omega) fun p4 c4 g4 o4 f4 n4 => ⟨_, _, _, rfl, ?_⟩
    have F3 : Fr (fun _ => False) h2 g3 := ((fg.fresh st1.fr hS).fresh st2.fr hS1).fresh st3.fr hS2
    have z3 := F3.1
    have zz := F2.1
    exact hk p4 c4 g4 o4 (F2.tt (F3.tt f4)) (fun y hy => by have := n4 y hy; omega)
  refine ⟨_, cell_at hb2 rfl, _, cell_at hb2 rfl, Fld.new_ok fun h3 w S W f3 n3 => ⟨_, rfl, cell_at (f3.get hb2 id) rfl, cell_at (f3.get hb2 id) rfl, s2b fun q d h4 row cq f4 n4 => ⟨_, _, _, rfl, ?_⟩⟩, s2b fun q d h3 row cq f3 n3 => ⟨_, _, _, rfl, cell_at (f3.get hb2 id) rfl, cell_at (f3.get hb2 id) rfl, Fld.new_ok fun h4 w S W f4 n4 => ⟨_, rfl, ?_⟩⟩, trivial⟩
  · rw [dt] at row
    exact tail h4 w S q d (f3.tt f4) (W.frame f4 (fun _ _ => id)) n3 row (fun y hy hs => by have := n4 y hy; have := W.lt y hs; omega)
  · rw [dt] at row
    have z3 := f3.1
    refine tail h4 w S q d (f3.tt f4) W (fun y hy => by have := n4 y hy; omega) (row.frame f4 (fun _ _ => id)) (fun y hy hs => ?_)
    have h1 := n4 y hs
    have h2 := row_lt row (by unfold textE; intro e; have := congrArg List.length e; rw [bc_len] at this; revert this; split <;> (try split) <;> simp) hy
    omega
theorem save_ok (H : Tb h b X L) (hl : L.length ≤ 12) (ok : ∀ r ∈ L, okR r) (tb : Num.Tab h) (hk : ∀ h' p' l' c', BL h h' p' l' c' (L.map recR) → Fr (fun _ => False) h h' → R (.slice p' l' c') h') : CallsH Tryd.prog F.regs_Table_Save #[.pointer (some ⟨b, 0, none⟩)] h R := by
  refine regs_Table_Save.walk (all_ok H hl fun h1 p1 c1 o1 n1 f1 => ⟨_, _, _, rfl, ?_⟩)
  refine ⟨fun op ol oc t g => ∃ k : Nat, t = (k : Int) ∧ k ≤ L.length ∧ BL h1 g op ol oc ((L.take k).map recR) ∧ Fr (fun _ => False) h1 g, fun _ _ _ t _ => L.length - t.toNat, ⟨0, rfl, by omega, by simpa using BL.nil, Fr.refl _ _⟩, ?_⟩
  rintro op ol oc _ g ⟨k, rfl, hkn, B, fg⟩
  by_cases hlt : k < L.length
  · have q1 : (k : Int) < ((L.length : Nat) : Int) := by omega
    simp only [q1, decide_true, if_true, Int.toNat_natCast]
    have hx : L[k]? = some L[k] := List.getElem?_eq_getElem hlt
    generalize L[k] = v at hx
    have og := o1.frame fg (fun _ _ => id)
    obtain ⟨ab, aoff, rfl⟩ := og.addr (by omega)
    refine ⟨⟨by first | trivial | omega, by first | trivial | omega⟩, onSome_some.2 (regs_Reg.ldA (og.heldAt genc_len hx) (regs_Reg.new fun b2 h2 e2 hb2 f2 => regs_Reg.ld hb2 ?_))⟩
    have F2 := f1.tt (fg.tt f2)
    refine record_ok (r := v) (ok v (List.mem_of_getElem? hx)) (tb.on F2) fun p3 c3 h3 o3 f3 n3 => ⟨_, _, _, rfl, ?_⟩
    have z1 := fg.1
    have z2 := f2.1
    have bl := B.len
    rw [List.length_map, List.length_take] at bl
    have F3 := f2.tt f3
    refine (B.on F3).push (by have := F3.1; omega) o3 (fun y hy => ⟨by have := n3 y hy; omega, fun ho => by have := B.lt ho; have := n3 y hy; omega⟩) (by omega) fun p4 c4 h4 B4 f4 g4 => ⟨_, _, _, rfl, ?_⟩
    rw [wrap_id (by omega) (by omega)]
    refine ⟨⟨k + 1, by omega, by omega, ?_, ?_⟩, by show L.length - Int.toNat ((k : Int) + 1) < L.length - k; omega⟩
    · rw [List.take_add_one, hx, List.map_append]
      exact B4
    · obtain ⟨_, _, _, _, _, _, _, h6'⟩ := B
      exact (fg.tt F3).fresh f4 h6'
  · have q1 : ¬ (k : Int) < ((L.length : Nat) : Int) := by omega
    simp only [q1, decide_false, Bool.false_eq_true, if_false]
    rw [List.take_of_length_le (by omega)] at B
    exact hk g op ol oc (B.mono f1.1) (f1.tt fg)
theorem rsave_ok (H : Rt h x Y L) (hl : L.length ≤ 1000) (ok : ∀ r ∈ L, okR r) (hk : ∀ h' p' l' c', BL h h' p' l' c' (L.map recR) → Fr (fun _ => False) h h' → R (.slice p' l' c') h') : CallsH Tryd.prog F.ref22_Table_Save #[.pointer (some ⟨x, 0, none⟩)] h R := by
  obtain ⟨p, c, H⟩ := H
  refine ref22_Table_Save.walk ?_
  refine ⟨fun op ol oc t g => ∃ k : Nat, t = (k : Int) ∧ k ≤ L.length ∧ BL h g op ol oc ((L.take k).map recR) ∧ Fr (fun _ => False) h g, fun _ _ _ t _ => L.length - t.toNat, ⟨0, rfl, by omega, by simpa using BL.nil, Fr.refl _ _⟩, ?_⟩
  rintro op ol oc _ g ⟨k, rfl, hkn, B, fg⟩
  have Hg := H.on fg
  refine ⟨_, _, _, cell_at Hg.blk rfl, ?_⟩
  by_cases hlt : k < L.length
  · have q1 : (k : Int) < ((L.length : Nat) : Int) := by omega
    simp only [q1, decide_true, if_true, Int.toNat_natCast]
    have hx : L[k]? = some L[k] := List.getElem?_eq_getElem hlt
    generalize L[k] = v at hx
    have hok := ok v (List.mem_of_getElem? hx)
    have ke := hok.e
    have l0 := text_len ke.1 hok.sv
    have l1 := (encNum_len (textE v.e).length).2
    have l2 := (encNum_len (natOf v.pol)).2
    have l3 := (encNum_len (natOf v.own)).2
    have el : (encText (textE v.e)).length = (encNum (textE v.e).length).length + (textE v.e).length := by unfold encText; rw [List.length_append]
    have n1 : IntKind.wrap .u64 v.pol = ((natOf v.pol : Nat) : Int) := by unfold natOf; rw [wrap_u64 (by omega) (by omega)]; omega
    have n2 : IntKind.wrap .u64 v.own = ((natOf v.own : Nat) : Int) := by unfold natOf; rw [wrap_u64 (by omega) (by omega)]; omega
    have m1 : natOf v.pol < 18446744073709551616 := by unfold natOf; omega
    have m2 : natOf v.own < 18446744073709551616 := by unfold natOf; omega
    obtain ⟨ab, aoff, rfl⟩ := Hg.own.addr (by omega)
    have dt : (str (textE v.e)).data.toList = textE v.e := by unfold str; simp
    have hh : ∀ {g' : Heap}, Fr (fun _ => False) g g' → g'[x]? = some (.cells #[.slice (some ⟨ab, aoff, none⟩) L.length c] T.ref22_Table (0, 0)) ∧ heldL ((⟨ab, aoff, none⟩ : Addr).add (k * 7)) (genc v) 0 g' := fun f => ⟨(Hg.on f).blk, (Hg.on f).own.heldAt genc_len hx⟩
    refine ⟨_, _, _, cell_at Hg.blk rfl, ⟨by first | trivial | omega, by first | trivial | omega⟩, onSome_some.2 (lde (hh (Fr.refl _ _)).2 (rtext_ok v.e ke.1 hok.sv fun h2 f2 => ⟨_, rfl, s2b fun p3 c3 h3 r3 cc3 f3 n3 => ⟨_, _, _, rfl, ?_⟩⟩))⟩
    rw [dt] at r3
    refine refText_ok r3 (str_size _) (by omega) fun p4 c4 h4 o4 u4 => ⟨_, _, _, rfl, ?_⟩
    have F4 := f2.tt (f3.tt u4.fr)
    refine ⟨_, _, _, cell_at (hh F4).1 rfl, ⟨by first | trivial | omega, by first | trivial | omega⟩, onSome_some.2 ⟨_, (hh F4).2.2.2.2.2.2.1, ?_⟩⟩
    rw [n1]
    refine refNum_ok (natOf v.pol) rfl m1 fun p5 c5 h5 o5 u5 => ⟨_, _, _, rfl, ?_⟩
    refine den_append tU uU (o4.frame u5.fr (fun _ _ => id)) o5.row' (by rw [bc_len, Nat.mul_one]) (bc_one _) (by omega) (by omega) fun p6 c6 h6 o6 _ f6 g6 => ⟨_, _, _, rfl, ?_⟩
    have z2 := f2.1
    have z3 := f3.1
    have z5 := u5.fr.1
    have z4 := u4.fr.1
    have F6 : Fr (fun _ => False) g h6 := (F4.tt u5.fr).fresh f6 (fun y hy => by have := u4.ge y hy; omega)
    have g6' : ∀ y, inBlk p6 y → g.size ≤ y := fun y hy => (g6 y hy).elim (fun h1 => by have := u4.ge y h1; omega) (fun h1 => by omega)
    refine ⟨_, _, _, cell_at (hh F6).1 rfl, ⟨by first | trivial | omega, by first | trivial | omega⟩, onSome_some.2 ⟨_, (hh F6).2.2.2.2.2.2.2.1, ?_⟩⟩
    rw [n2]
    refine refNum_ok (natOf v.own) rfl m2 fun p7 c7 h7 o7 u7 => ⟨_, _, _, rfl, ?_⟩
    refine den_append tU uU (o6.frame u7.fr (fun _ _ => id)) o7.row' (by rw [bc_len, Nat.mul_one]) (bc_one _) (by omega) (by omega) fun p8 c8 h8 o8 _ f8 g8 => ⟨_, _, _, rfl, ?_⟩
    have z6 := F6.1
    have z7 := u7.fr.1
    have F8 : Fr (fun _ => False) g h8 := (F6.tt u7.fr).fresh f8 g6'
    have g8' : ∀ y, inBlk p8 y → g.size ≤ y := fun y hy => (g8 y hy).elim (g6' y) (fun h1 => by omega)
    have er : bc (encText (textE v.e)) ++ bc (encNum (natOf v.pol)) ++ bc (encNum (natOf v.own)) = bc (recR v) := by unfold recR; rw [bc_append, bc_append]
    have erl : (encText (textE v.e)).length + (encNum (natOf v.pol)).length + (encNum (natOf v.own)).length = (recR v).length := by unfold recR; rw [List.length_append, List.length_append]
    rw [er, erl] at o8
    rw [erl]
    have zg := fg.1
    have bl := B.len
    rw [List.length_map, List.length_take] at bl
    refine (B.on F8).push (by have := F8.1; omega) o8 (fun y hy => ⟨by have := g8' y hy; omega, fun ho => by have := B.lt ho; have := g8' y hy; omega⟩) (by omega) fun p9 c9 h9 B9 f9 g9 => ⟨_, _, _, rfl, ?_⟩
    rw [wrap_id (by omega) (by omega)]
    refine ⟨⟨k + 1, by omega, by omega, ?_, ?_⟩, by show L.length - Int.toNat ((k : Int) + 1) < L.length - k; omega⟩
    · rw [List.take_add_one, hx, List.map_append]
      exact B9
    · obtain ⟨_, _, _, _, _, _, _, h6'⟩ := B
      exact (fg.tt F8).fresh f9 h6'
  · have q1 : ¬ (k : Int) < ((L.length : Nat) : Int) := by omega
    simp only [q1, decide_false, Bool.false_eq_true, if_false]
    rw [List.take_of_length_le (by omega)] at B
    exact hk g op ol oc B fg
end Regs
end Go.Proofs.YtgccegnmggjkjaaDoor
