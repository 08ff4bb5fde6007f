/-
  What is proved here: the parts named below, one behind the other (texts of this work, merged by a program). No condition.
-/
import Derived.Test.YtgccegnmggjkjaaGreatDoorProg
import Derived.Shelf.Strconv.Itoa4
import Derived.Ground.NamesProg
import Derived.Test.YtgccegnmggjkjaaGreatDoorMCopd

/-
  What is proved here: what Lease of package copies does with a table. No condition.
-/
set_option maxRecDepth 100000
namespace Go.Proofs.YtgccegnmggjkjaaGreatDoor
open Go.Den Go.Heapq
namespace Cps
open Eid Alarm Fld
variable {h h' : Heap} {R : Value → Heap → Prop} {t : Nat} {X : Ft} {s s' : CF} {m a1 a2 : Nat} {xs : List CV} {S1 S2 S1' S2' : Nat → Prop} {lab : Nat → Option Nat} {p : Option Addr} {n c : Nat}
abbrev zeroC : Value := .agg #[.int .i64 0, .bool false, .int .u64 0, .int .u64 0, .string ⟨#[]⟩, .string ⟨#[]⟩, .slice none 0 0, .int .u64 0, .int .i64 0, .int .u64 0]
abbrev Cp.val (z : Cp) (p : Option Addr) (c : Nat) : Value := .agg #[.int .i64 (z.num : Int), .bool z.e.ipn, .int .u64 z.e.node, .int .u64 z.e.svc, .string z.e.host, .string z.e.dem, .slice p z.d.length c, .int .u64 (z.till : Int), .int .i64 z.ses, .int .u64 (z.dl : Int)]
def mayS (ses : Int) (dl : Nat) : Prop := 1 ≤ ses ∧ ses ≤ 1099511627776 ∧ dl ≤ 1099511627776
def leaseC (L : List Cp) (x : Ev) : Option Cp := (ofL L x).find? (fun z => decide (z.ses = 0))
def leaseF (s : CF) (z : Cp) (ses : Int) (dl : Nat) : CF := { s with L := setC s.L z.num ses dl, E2 := setL s.E2 (z.num : Int) (dl : Int) }
theorem session_ok {k : Int} (hk : R (.bool (decide (1 ≤ k ∧ k ≤ 1099511627776))) h) : CallsH Tryz.prog F.copies_isSession #[.int .i64 k] h R := by
  refine copies_isSession.walk ?_
  unfold copies_isSession.vc
  by_cases q : 1 ≤ k
  · have q' : k ≥ 1 := q
    simp only [q', decide_true, if_true]
    simp only [q, true_and] at hk
    exact hk
  · have q' : ¬ k ≥ 1 := q
    simp only [q', decide_false, Bool.false_eq_true, if_false]
    simp only [q, false_and, decide_false] at hk
    exact hk
theorem lease_ok (H : Ct h t X s) (sm : Small s) (hb : ∀ z ∈ s.L, 1 ≤ z.num ∧ z.num < s.next ∧ z.d.length ≤ 600) (x : Ev) (ses : Int) (dl : Nat) {k : Int} (hk0 : k = (dl : Int))
    (k1 : ¬ mayS ses dl → ∀ h', Fr (fun _ => False) h h' → R (.tuple #[zeroC, .int .i64 1]) h')
    (k2 : mayS ses dl → leaseC s.L x = none → ∀ h', Fr (fun _ => False) h h' → R (.tuple #[zeroC, .int .i64 4]) h')
    (k3 : mayS ses dl → ∀ z, leaseC s.L x = some z → ∀ h' X' p' c', Ct h' t X' (leaseF s z ses dl) → StepF X h X' h' → Row h' p' (bc z.d) → (∀ y, inBlk p' y → h.size ≤ y ∧ ¬ X'.M y) → R (.tuple #[({ z with ses := ses, dl := dl } : Cp).val p' c', .int .i64 0]) h') :
    CallsH Tryz.prog F.copies_Table_Lease #[.pointer (some ⟨t, 0, none⟩), ev5 x, .int .i64 ses, .int .u64 k] h R := by
  subst hk0
  obtain ⟨m, xs, a1, S1, a2, S2, lab, H⟩ := H
  have sn := sm.n
  have sl := sm.l
  have se := sm.e2
  have xl := H.len
  refine copies_Table_Lease.walk (eid_Eid.box fun b h1 e1 hb1 f1 => copies_Copy.box fun b2 h2 e2 hb2 f2 => ?_)
  have z1 := lt_of_get hb1
  have z2 := lt_of_get hb2
  have f12 := f1.tt f2
  have hb1 := f2.get hb1 id
  refine made_ok (H.on f12) ⟨_, rfl, ?_⟩
  rw [if_neg (by decide)]
  have hs1 := f1.1
  have fin : ∀ g (e : Int), Fr (fun _ => False) h2 g → (∀ h', Fr (fun _ => False) h h' → R (.tuple #[zeroC, .int .i64 e]) h') → copies_Copy.ST g ⟨b2, 0, none⟩ 0 false 0 0 (⟨#[]⟩ : ByteArray) (⟨#[]⟩ : ByteArray) none 0 0 0 0 0 fun g2 => copies_Copy.LD g2 ⟨b2, 0, none⟩ fun r_0 r_1 r_2 r_3 r_4 r_5 r_6_p r_6_l r_6_c r_7 r_8 r_9 =>
      R (.tuple #[.agg #[.int .i64 r_0, .bool r_1, .int .u64 r_2, .int .u64 r_3, .string r_4, .string r_5, .slice r_6_p r_6_l r_6_c, .int .u64 r_7, .int .i64 r_8, .int .u64 r_9], .int .i64 e]) g2 := fun g e fg hk =>
    copies_Copy.set (fg.get hb2 id) fun g2 a2 s2 o2 => copies_Copy.ld a2 (hk g2 ((f12.tt fg).fresh (S := fun y => y = b2) ⟨by omega, fun y _ hn => o2 y hn⟩ (fun y e => by omega)))
  refine JoinP.of fun J hJ => session_ok ⟨_, rfl, ?_⟩
  have bad : ¬ mayS ses dl → J true h2 := fun hn => by
    subst hJ
    simp only [if_true]
    exact fin h2 1 (Fr.refl _ _) (k1 hn)
  by_cases q1 : 1 ≤ ses ∧ ses ≤ 1099511627776
  · rw [decide_eq_true q1, if_neg (by decide)]
    by_cases q2 : (dl : Int) > 1099511627776
    · rw [decide_eq_true q2]
      exact bad (fun hm => by have := hm.2.2; omega)
    · rw [decide_eq_false q2]
      clear bad
      subst hJ
      simp only [Bool.false_eq_true, if_false]
      have hm : mayS ses dl := ⟨q1.1, q1.2, by omega⟩
      refine eid_Eid.ld hb1 (of_ok (H.on f12) x (by omega) fun h7 p7 c7 o7 g7 f7 => ⟨_, _, _, rfl, ?_⟩)
      have F7 := f12.tt f7
      have H7 := H.on F7
      have hb27 := f7.get hb2 id
      have hF : (xs.filter (fun y => decide (y.e = x))).map CV.abs = ofL s.L x := by unfold ofL; rw [← H.abs, List.filter_map]; rfl
      generalize hxf : xs.filter (fun y => decide (y.e = x)) = xf at o7 hF
      have nl : (nums xf).length = xf.length := by unfold nums; rw [List.length_map]
      have fl : xf.length ≤ xs.length := by rw [← hxf]; exact List.length_filter_le _ _
      refine ⟨fun u g => g = h7 ∧ ∃ i : Nat, u = (i : Int) ∧ i ≤ xf.length ∧ ∀ j y, j < i → xf[j]? = some y → y.ses ≠ 0, fun u _ => xf.length - u.toNat, ⟨rfl, 0, rfl, Nat.zero_le _, fun j y hj => by omega⟩, ?_⟩
      rintro _ h7 ⟨rfl, i, rfl, hi, hall⟩
      by_cases hlt : i < xf.length
      · rw [if_pos (decide_eq_true (by omega))]
        have hy : xf[i]? = some xf[i] := List.getElem?_eq_getElem hlt
        generalize xf[i] = y at hy
        have hym : y ∈ xs := by
          have := List.mem_of_getElem? hy
          rw [← hxf] at this
          exact (List.mem_filter.1 this).1
        obtain ⟨ab, ao, rfl⟩ := o7.addr (by omega)
        have cc := o7.cell (j := i) (v := ienc (y.num : Int)) (by rw [List.getElem?_map]; unfold nums; rw [List.getElem?_map, hy]; rfl)
        have L7 := look H7 hym
        have ca := H7.cps y hym
        simp only [Int.toNat_natCast, Nat.mul_one]
        refine ⟨⟨by omega, by omega⟩, onSome_some.2 ⟨_, cc, _, cell_at H7.blk rfl, _, L7, onSome_some.2 ⟨_, cell_at ca rfl, ?_⟩⟩⟩
        by_cases hs0 : y.ses = 0
        · rw [if_pos (by simpa using hs0)]
          -- this one is leased
          have hpick : leaseC s.L x = some y.abs := by
            unfold leaseC
            rw [← hF, List.find?_map]
            have : xf.find? ((fun z : Cp => decide (z.ses = 0)) ∘ CV.abs) = some y := by
              rw [List.find?_eq_some_iff_getElem]
              refine ⟨by simp [CV.abs, hs0], i, hlt, (List.getElem?_eq_some_iff.1 hy).2, fun j hj => ?_⟩
              have hz := hall j (xf[j]'(by omega)) hj (List.getElem?_eq_getElem (by omega))
              have hz' : decide ((xf[j]'(by omega)).abs.ses = 0) = false := decide_eq_false hz
              show (!decide ((xf[j]'(by omega)).abs.ses = 0)) = true
              rw [hz']; rfl
            rw [this]; rfl
          have hbnd := hb y.abs (by rw [← H.abs]; exact List.mem_map_of_mem hym)
          have hn1 : 1 ≤ y.num := hbnd.1
          have hn2 : y.num < s.next := hbnd.2.1
          have hn3 : y.v.b.length ≤ 600 := hbnd.2.2
          refine onSome_some.2 (H7.lease (ses := ses) (dl := dl) hym fun h10 H10 st10 => ⟨_, cell_at H10.blk rfl, ?_⟩)
          have hmay : may (y.num : Int) (dl : Int) = true := may_iff.2 ⟨by omega, by omega, by omega⟩
          refine Alarm.set_ok H10.al2 (by show s.E2.length < _; omega) (y.num : Int) (dl : Int) (by omega) (fun _ h11 S11 A11 g11 f11 => ⟨_, rfl, ?_⟩) (fun hx => absurd hmay (by rw [hx]; simp))
          obtain ⟨X11, lab11, H11, st11, _⟩ := H10.alarm2 (s' := leaseF s y.abs ses dl) A11 g11 f11 rfl rfl rfl ⟨rfl, rfl, rfl, rfl⟩
          have hy' : ({ y with ses := ses, dl := dl } : CV) ∈ xs.map (fun z => if z.num = y.num then ({ y with ses := ses, dl := dl } : CV) else z) := List.mem_map.2 ⟨y, hym, if_pos rfl⟩
          have ca11 := H11.cps _ hy'
          have da11 := H11.dat _ hy'
          refine onSome_some.2 (copies_Copy.ld ca11 (copies_Copy.new fun b3 h13 e13 hb13 f13 => onSome_some.2 ⟨_, _, _, cell_at (f13.get ca11 id) rfl, clone_ok ((da11.row).frame f13 (fun _ _ => id)) rfl (by show y.v.b.length ≤ _; omega) fun p14 c14 h14 o14 f14 g14 => ⟨_, _, _, rfl, ?_⟩⟩))
          have stA := st10.trans st11
          have z11 : h7.size ≤ h11.size := stA.fr.1
          have z13 := f13.1
          refine storeP_blk (f14.get hb13 id) (by simp) fun h15 c15 s15 o15 => ?_
          have hb15 : copies_Copy.at h15 b3 (y.num : Int) y.e.ipn y.e.node y.e.svc y.e.host y.e.dem p14 y.v.b.length c14 (y.till : Int) ses (dl : Int) := c15
          refine copies_Copy.ld hb15 ?_
          have nM : ∀ y, y < h7.size → h.size ≤ y → ¬ X11.M y := fun y y1 y2 hm => by
            rcases stA.newM y hm with h3 | h3
            · have := H.lsz y ((H.mm y).1 h3); omega
            · omega
          have zb2 : b2 < h7.size := lt_of_get hb27
          have b2x : ¬ X.M b2 := fun hm => by have := H.lsz b2 ((H.mm b2).1 hm); omega
          have hb215 : copies_Copy.at h15 b2 0 false 0 0 ⟨#[]⟩ ⟨#[]⟩ none 0 0 0 0 0 := by
            have h3 := stA.fr.get hb27 b2x
            have h4 := (f13.tt f14).get h3 id
            have : b2 ≠ b3 := by omega
            unfold copies_Copy.at
            rw [o15 b2 this]; exact h4
          refine copies_Copy.set hb215 fun h16 c16 s16 o16 => copies_Copy.ld c16 ?_
          have o14p : ∀ y, inBlk p14 y → h13.size ≤ y := g14
          have fA : Fr (fun y => y = b3) h14 h15 := ⟨by omega, fun y _ hn => o15 y hn⟩
          have fB : Fr (fun y => y = b2) h15 h16 := ⟨by omega, fun y _ hn => o16 y hn⟩
          have b3lt : b3 < h13.size := lt_of_get hb13
          have row16 : Row h16 p14 (bc y.v.b) := ((o14.row').frame fA (fun a ea hm => by have := g14 a.block ⟨a, ea, rfl⟩; have hm : a.block = b3 := hm; omega)).frame fB (fun a ea hm => by have := g14 a.block ⟨a, ea, rfl⟩; have hm : a.block = b2 := hm; omega)
          -- the table stays
          have T11 : Ct h11 t X11 (leaseF s y.abs ses dl) := ⟨_, _, _, _, _, _, _, H11⟩
          have lt11 := fun y (hy : X11.M y ∨ X11.D y) => T11.lt y hy
          have T14 := T11.on (f13.tt f14)
          have T15 := T14.frame fA (fun y hy e => by have := lt11 y hy; omega)
          have d2 : ¬ (X11.M b2 ∨ X11.D b2) := fun hm => by
            rcases hm with hm | hm
            · exact nM b2 zb2 (by omega) hm
            · rcases stA.newD b2 hm with h3 | h3
              · have := (H.dd b2 h3).2; omega
              · omega
          have T16 := T15.frame fB (fun y hy e => d2 (e ▸ hy))
          have stC := StepF.no F7 stA
          have stB : StepF X h X11 h16 := by
            refine ⟨⟨by have := f14.1; have := stC.fr.1; omega, fun y hy hn => ?_⟩, stC.newM, stC.newD, stC.oldD⟩
            have := stC.fr.1
            rw [o16 y (by omega), o15 y (by omega), (f13.tt f14).2 y (by omega) id]
            exact stC.fr.2 y hy hn
          exact k3 hm y.abs hpick h16 X11 p14 c14 T16 stB row16 (fun y hy => ⟨by have := g14 y hy; have := F7.1; omega, fun hx => by have := lt11 y (.inl hx); have := g14 y hy; omega⟩)
        · rw [if_neg (by simpa using hs0), wrap_id (by omega) (by omega)]
          refine ⟨⟨by first | trivial | rfl, i + 1, by omega, by omega, fun j z hj hz => ?_⟩, by show xf.length - Int.toNat ((i : Int) + 1) < xf.length - i; omega⟩
          by_cases ej : j = i
          · subst ej; rw [hy] at hz; cases hz; exact hs0
          · exact hall j z (by omega) hz
      · rw [if_neg (by simp; omega)]
        refine fin h7 4 f7 (k2 hm ?_)
        unfold leaseC
        rw [← hF, List.find?_map]
        have : xf.find? ((fun z : Cp => decide (z.ses = 0)) ∘ CV.abs) = none := by
          rw [List.find?_eq_none]
          intro y hy
          obtain ⟨j, hj⟩ := List.getElem?_of_mem hy
          have := hall j y (by have := (List.getElem?_eq_some_iff.1 hj).1; omega) hj
          have h2 : decide (y.abs.ses = 0) = false := decide_eq_false this
          show ¬(decide (y.abs.ses = 0) = true)
          rw [h2]; decide
        rw [this]; rfl
  · rw [decide_eq_false q1, if_pos (by decide)]
    exact bad (fun hm => q1 ⟨hm.1, hm.2.1⟩)
end Cps
end Go.Proofs.YtgccegnmggjkjaaGreatDoor

/-
  Printed by a program of this work (vc.py): the verification conditions of functions, and that each is enough for the call. No condition.
-/
set_option maxRecDepth 100000
set_option maxHeartbeats 4000000
namespace Go.Proofs.YtgccegnmggjkjaaGreatDoor
open Go.Den
def eid_Text.vc (x_0 : Bool) (x_1 : Int) (x_2 : Int) (x_3 : ByteArray) (x_4 : ByteArray) (h : Heap) (R : Value → Heap → Prop) : Prop :=
  NewP h (.cells #[.bool x_0, .int .u64 x_1, .int .u64 x_2, .string x_3, .string x_4] T.eid_Eid) fun b h_1 =>
  eid_Eid.LD h_1 ⟨b, 0, none⟩ fun t5_0 t5_1 t5_2 t5_3 t5_4 =>
  CallsH Tryz.prog F.eid_Right #[.agg #[.bool t5_0, .int .u64 t5_1, .int .u64 t5_2, .string t5_3, .string t5_4]] h_1 fun v h_2 =>
  ∃ (t6 : Bool), v = .bool t6 ∧
  if (!t6) = true then
    R (.tuple #[.string (⟨#[]⟩ : ByteArray), .int .i64 3]) h_2
  else
    eid_Eid.LD h_2 ⟨b, 0, none⟩ fun t9_0 t9_1 t9_2 t9_3 t9_4 =>
    ∃ (eq : Bool), EqV Tryz.prog T.eid_Eid (.agg #[.bool t9_0, .int .u64 t9_1, .int .u64 t9_2, .string t9_3, .string t9_4]) (.agg #[.bool false, .int .u64 0, .int .u64 0, .string (⟨#[]⟩ : ByteArray), .string (⟨#[]⟩ : ByteArray)]) eq ∧
    if eq = true then
      R (.tuple #[.string (⟨#[100, 116, 110, 58, 110, 111, 110, 101]⟩ : ByteArray), .int .i64 0]) h_2
    else
      ∃ (t14 : Bool), hcell h_2 ⟨b, 0, none⟩ = some (.bool t14) ∧
      if t14 = true then
        ∃ (t16 : Int), hcell h_2 ⟨b, 1, none⟩ = some (.int .u64 t16) ∧
        ∃ (t21 : Int), hcell h_2 ⟨b, 2, none⟩ = some (.int .u64 t21) ∧
        CallsH Tryz.prog F.strconv_FormatUint #[.int .u64 t16, .int .i64 10] h_2 fun v_1 h_3 =>
        ∃ (t17 : ByteArray), v_1 = .string t17 ∧
        hcell h_3 ⟨b, 2, none⟩ = some (.int .u64 t21) ∧
        (((⟨#[105, 112, 110, 58]⟩ : ByteArray).size + t17.size : Nat) : Int) ≤ IntKind.max .i64 ∧
        ((((⟨#[105, 112, 110, 58]⟩ : ByteArray) ++ t17).size + (⟨#[46]⟩ : ByteArray).size : Nat) : Int) ≤ IntKind.max .i64 ∧
        CallsH Tryz.prog F.strconv_FormatUint #[.int .u64 t21, .int .i64 10] h_3 fun v_2 h_4 =>
        ∃ (t22 : ByteArray), v_2 = .string t22 ∧
        (((((⟨#[105, 112, 110, 58]⟩ : ByteArray) ++ t17) ++ (⟨#[46]⟩ : ByteArray)).size + t22.size : Nat) : Int) ≤ IntKind.max .i64 ∧
        R (.tuple #[.string ((((⟨#[105, 112, 110, 58]⟩ : ByteArray) ++ t17) ++ (⟨#[46]⟩ : ByteArray)) ++ t22), .int .i64 0]) h_4
      else
        eid_Eid.LD h_2 ⟨b, 0, none⟩ fun t24_0 t24_1 t24_2 t24_3 t24_4 =>
        CallsH Tryz.prog F.eid_path #[.agg #[.bool t24_0, .int .u64 t24_1, .int .u64 t24_2, .string t24_3, .string t24_4]] h_2 fun v_3 h_5 =>
        ∃ (t25 : ByteArray), v_3 = .string t25 ∧
        (((⟨#[100, 116, 110, 58]⟩ : ByteArray).size + t25.size : Nat) : Int) ≤ IntKind.max .i64 ∧
        R (.tuple #[.string ((⟨#[100, 116, 110, 58]⟩ : ByteArray) ++ t25), .int .i64 0]) h_5
theorem eid_Text.den_eq (x_0 : Bool) (x_1 : Int) (x_2 : Int) (x_3 : ByteArray) (x_4 : ByteArray) (h : Heap) (R : Value → Heap → Prop) : eid_Text.vc x_0 x_1 x_2 x_3 x_4 h R = den Tryz.prog Tryz.f130.ntmps (.seq .leaf (.seq (.block (.seq .leaf (.cond (.seq .leaf .leaf) (.seq .leaf (.cond (.seq .leaf .leaf) (.seq .leaf (.cond (.seq (.plan (.op 0 (.op 1 (.op 5 (.op 6 (.op 2 (.op 3 (.op 4 (.op 7 (.op 8 (.op 9 (.op 10 .done)))))))))))) .leaf) .leaf))))))) (.seq .leaf .leaf))) none (bodyOf Tryz.f130) (retK Tryz.prog Tryz.f130.results R) (argEnv [.agg #[.bool x_0, .int .u64 x_1, .int .u64 x_2, .string x_3, .string x_4]]) h := by kernel_rfl
theorem eid_Text.walk {x_0 : Bool} {x_1 : Int} {x_2 : Int} {x_3 : ByteArray} {x_4 : ByteArray} {h : Heap} {R : Value → Heap → Prop} (hv : eid_Text.vc x_0 x_1 x_2 x_3 x_4 h R) : CallsH Tryz.prog F.eid_Text #[.agg #[.bool x_0, .int .u64 x_1, .int .u64 x_2, .string x_3, .string x_4]] h R :=
  callsH_of_body _ Tryz.func130 rfl rfl (Eq.mp (eid_Text.den_eq x_0 x_1 x_2 x_3 x_4 h R) hv)

def eid_path.vc (x_0 : Bool) (x_1 : Int) (x_2 : Int) (x_3 : ByteArray) (x_4 : ByteArray) (h : Heap) (R : Value → Heap → Prop) : Prop :=
  NewP h (.cells #[.bool x_0, .int .u64 x_1, .int .u64 x_2, .string x_3, .string x_4] T.eid_Eid) fun b h_1 =>
  ∃ (t4 : ByteArray), hcell h_1 ⟨b, 3, none⟩ = some (.string t4) ∧
  (((⟨#[47, 47]⟩ : ByteArray).size + t4.size : Nat) : Int) ≤ IntKind.max .i64 ∧
  ((((⟨#[47, 47]⟩ : ByteArray) ++ t4).size + (⟨#[47]⟩ : ByteArray).size : Nat) : Int) ≤ IntKind.max .i64 ∧
  ∃ (t8 : ByteArray), hcell h_1 ⟨b, 4, none⟩ = some (.string t8) ∧
  (((((⟨#[47, 47]⟩ : ByteArray) ++ t4) ++ (⟨#[47]⟩ : ByteArray)).size + t8.size : Nat) : Int) ≤ IntKind.max .i64 ∧
  R (.string ((((⟨#[47, 47]⟩ : ByteArray) ++ t4) ++ (⟨#[47]⟩ : ByteArray)) ++ t8)) h_1
theorem eid_path.den_eq (x_0 : Bool) (x_1 : Int) (x_2 : Int) (x_3 : ByteArray) (x_4 : ByteArray) (h : Heap) (R : Value → Heap → Prop) : eid_path.vc x_0 x_1 x_2 x_3 x_4 h R = den Tryz.prog Tryz.f177.ntmps (.seq .leaf (.seq .leaf .leaf)) none (bodyOf Tryz.f177) (retK Tryz.prog Tryz.f177.results R) (argEnv [.agg #[.bool x_0, .int .u64 x_1, .int .u64 x_2, .string x_3, .string x_4]]) h := by kernel_rfl
theorem eid_path.walk {x_0 : Bool} {x_1 : Int} {x_2 : Int} {x_3 : ByteArray} {x_4 : ByteArray} {h : Heap} {R : Value → Heap → Prop} (hv : eid_path.vc x_0 x_1 x_2 x_3 x_4 h R) : CallsH Tryz.prog F.eid_path #[.agg #[.bool x_0, .int .u64 x_1, .int .u64 x_2, .string x_3, .string x_4]] h R :=
  callsH_of_body _ Tryz.func177 rfl rfl (Eq.mp (eid_path.den_eq x_0 x_1 x_2 x_3 x_4 h R) hv)

def ref04_Digits.vc (n : Int) (h : Heap) (R : Value → Heap → Prop) : Prop :=
  ∃ (I : Int → ByteArray → Heap → Prop) (mu : Int → ByteArray → Heap → Nat), I n (⟨#[]⟩ : ByteArray) h ∧ ∀ (n_1 : Int) (out : ByteArray) (h_1 : Heap), I n_1 out h_1 →
    JoinP (fun (t9 : Bool) (h_2 : Heap) =>
      if t9 = true then
        NewP h_2 (.cells #[.int .u8 (IntKind.wrap .u8 (IntKind.wrap .u64 (48 + (Int.tmod n_1 10))))] T.uint8) fun b h_3 =>
        ∃ (t15 : ByteArray), ConvV Tryz.prog T.s_uint8 T.string (.slice (some ⟨b, 0, none⟩) 1 1) h_3 t15 ∧
        ((t15.size + out.size : Nat) : Int) ≤ IntKind.max .i64 ∧
        (I (IntKind.wrap .u64 (Int.tdiv n_1 10)) (t15 ++ out) h_3 ∧ mu (IntKind.wrap .u64 (Int.tdiv n_1 10)) (t15 ++ out) h_3 < mu n_1 out h_1)
      else
        R (.string out) h_2)
    (fun J =>
      if (decide (n_1 > 0)) = true then
        J true h_1
      else
        J (out.toList == (⟨#[]⟩ : ByteArray).toList) h_1)
theorem ref04_Digits.den_eq (n : Int) (h : Heap) (R : Value → Heap → Prop) : ref04_Digits.vc n h R = den Tryz.prog Tryz.f151.ntmps (.seq .leaf (.seq .leaf (.seq (.block (.loop [(0, .one (.int .u64)), (3, .one (.str))] (.seq (.seq (.join [(9, .one (.bool))] .leaf) (.cond .leaf .leaf)) (.block (.seq .leaf .leaf))))) (.seq .leaf .leaf)))) none (bodyOf Tryz.f151) (retK Tryz.prog Tryz.f151.results R) (argEnv [.int .u64 n]) h := by kernel_rfl
theorem ref04_Digits.walk {n : Int} {h : Heap} {R : Value → Heap → Prop} (hv : ref04_Digits.vc n h R) : CallsH Tryz.prog F.ref04_Digits #[.int .u64 n] h R :=
  callsH_of_body _ Tryz.func151 rfl rfl (Eq.mp (ref04_Digits.den_eq n h R) hv)

def ref04_Text.vc (x_0 : Bool) (x_1 : Int) (x_2 : Int) (x_3 : ByteArray) (x_4 : ByteArray) (h : Heap) (R : Value → Heap → Prop) : Prop :=
  NewP h (.cells #[.bool x_0, .int .u64 x_1, .int .u64 x_2, .string x_3, .string x_4] T.ref04_Eid) fun b h_1 =>
  ref04_Eid.LD h_1 ⟨b, 0, none⟩ fun t3_0 t3_1 t3_2 t3_3 t3_4 =>
  CallsH Tryz.prog F.ref04_Kind #[.agg #[.bool t3_0, .int .u64 t3_1, .int .u64 t3_2, .string t3_3, .string t3_4]] h_1 fun v h_2 =>
  ∃ (t4 : Int), v = .int .i64 t4 ∧
  if (t4 == 0) = true then
    R (.string (⟨#[100, 116, 110, 58, 110, 111, 110, 101]⟩ : ByteArray)) h_2
  else
    if (t4 == 1) = true then
      ∃ (t10 : Int), hcell h_2 ⟨b, 1, none⟩ = some (.int .u64 t10) ∧
      ∃ (t15 : Int), hcell h_2 ⟨b, 2, none⟩ = some (.int .u64 t15) ∧
      CallsH Tryz.prog F.ref04_Digits #[.int .u64 t10] h_2 fun v_1 h_3 =>
      ∃ (t11 : ByteArray), v_1 = .string t11 ∧
      hcell h_3 ⟨b, 2, none⟩ = some (.int .u64 t15) ∧
      (((⟨#[105, 112, 110, 58]⟩ : ByteArray).size + t11.size : Nat) : Int) ≤ IntKind.max .i64 ∧
      ((((⟨#[105, 112, 110, 58]⟩ : ByteArray) ++ t11).size + (⟨#[46]⟩ : ByteArray).size : Nat) : Int) ≤ IntKind.max .i64 ∧
      CallsH Tryz.prog F.ref04_Digits #[.int .u64 t15] h_3 fun v_2 h_4 =>
      ∃ (t16 : ByteArray), v_2 = .string t16 ∧
      (((((⟨#[105, 112, 110, 58]⟩ : ByteArray) ++ t11) ++ (⟨#[46]⟩ : ByteArray)).size + t16.size : Nat) : Int) ≤ IntKind.max .i64 ∧
      R (.string ((((⟨#[105, 112, 110, 58]⟩ : ByteArray) ++ t11) ++ (⟨#[46]⟩ : ByteArray)) ++ t16)) h_4
    else
      ∃ (t19 : ByteArray), hcell h_2 ⟨b, 3, none⟩ = some (.string t19) ∧
      (((⟨#[100, 116, 110, 58, 47, 47]⟩ : ByteArray).size + t19.size : Nat) : Int) ≤ IntKind.max .i64 ∧
      ((((⟨#[100, 116, 110, 58, 47, 47]⟩ : ByteArray) ++ t19).size + (⟨#[47]⟩ : ByteArray).size : Nat) : Int) ≤ IntKind.max .i64 ∧
      ∃ (t23 : ByteArray), hcell h_2 ⟨b, 4, none⟩ = some (.string t23) ∧
      (((((⟨#[100, 116, 110, 58, 47, 47]⟩ : ByteArray) ++ t19) ++ (⟨#[47]⟩ : ByteArray)).size + t23.size : Nat) : Int) ≤ IntKind.max .i64 ∧
      R (.string ((((⟨#[100, 116, 110, 58, 47, 47]⟩ : ByteArray) ++ t19) ++ (⟨#[47]⟩ : ByteArray)) ++ t23)) h_2
theorem ref04_Text.den_eq (x_0 : Bool) (x_1 : Int) (x_2 : Int) (x_3 : ByteArray) (x_4 : ByteArray) (h : Heap) (R : Value → Heap → Prop) : ref04_Text.vc x_0 x_1 x_2 x_3 x_4 h R = den Tryz.prog Tryz.f81.ntmps (.seq .leaf (.seq (.seq .leaf (.block (.seq .leaf (.cond (.seq .leaf .leaf) (.seq .leaf (.cond (.seq (.plan (.op 0 (.op 1 (.op 5 (.op 6 (.op 2 (.op 3 (.op 4 (.op 7 (.op 8 (.op 9 .done))))))))))) .leaf) .leaf)))))) (.seq .leaf .leaf))) none (bodyOf Tryz.f81) (retK Tryz.prog Tryz.f81.results R) (argEnv [.agg #[.bool x_0, .int .u64 x_1, .int .u64 x_2, .string x_3, .string x_4]]) h := by kernel_rfl
theorem ref04_Text.walk {x_0 : Bool} {x_1 : Int} {x_2 : Int} {x_3 : ByteArray} {x_4 : ByteArray} {h : Heap} {R : Value → Heap → Prop} (hv : ref04_Text.vc x_0 x_1 x_2 x_3 x_4 h R) : CallsH Tryz.prog F.ref04_Text #[.agg #[.bool x_0, .int .u64 x_1, .int .u64 x_2, .string x_3, .string x_4]] h R :=
  callsH_of_body _ Tryz.func81 rfl rfl (Eq.mp (ref04_Text.den_eq x_0 x_1 x_2 x_3 x_4 h R) hv)

def ref04_Kind.vc (x_0 : Bool) (x_1 : Int) (x_2 : Int) (x_3 : ByteArray) (x_4 : ByteArray) (h : Heap) (R : Value → Heap → Prop) : Prop :=
  NewP h (.cells #[.bool x_0, .int .u64 x_1, .int .u64 x_2, .string x_3, .string x_4] T.ref04_Eid) fun b h_1 =>
  ∃ (t4 : Bool), hcell h_1 ⟨b, 0, none⟩ = some (.bool t4) ∧
  if t4 = true then
    JoinP (fun (t27 : Bool) (h_2 : Heap) =>
      if t27 = true then
        R (.int .i64 (-1)) h_2
      else
        R (.int .i64 1) h_2)
    (fun J =>
      ∃ (t6 : ByteArray), hcell h_1 ⟨b, 3, none⟩ = some (.string t6) ∧
      if (!(t6.toList == (⟨#[]⟩ : ByteArray).toList)) = true then
        J true h_1
      else
        ∃ (t10 : ByteArray), hcell h_1 ⟨b, 4, none⟩ = some (.string t10) ∧
        if (!(t10.toList == (⟨#[]⟩ : ByteArray).toList)) = true then
          J true h_1
        else
          ∃ (t15 : Int), hcell h_1 ⟨b, 1, none⟩ = some (.int .u64 t15) ∧
          if (decide (t15 < 1)) = true then
            J true h_1
          else
            ∃ (t20 : Int), hcell h_1 ⟨b, 1, none⟩ = some (.int .u64 t20) ∧
            if (decide (t20 > 4294967295)) = true then
              J true h_1
            else
              ∃ (t25 : Int), hcell h_1 ⟨b, 2, none⟩ = some (.int .u64 t25) ∧
              J (decide (t25 > 4294967295)) h_1)
  else
    JoinP (fun (t35 : Bool) (h_3 : Heap) =>
      if t35 = true then
        R (.int .i64 (-1)) h_3
      else
        JoinP (fun (t43 : Bool) (h_4 : Heap) =>
          if t43 = true then
            R (.int .i64 0) h_4
          else
            JoinP (fun (t71 : Bool) (h_5 : Heap) =>
              if t71 = true then
                R (.int .i64 (-1)) h_5
              else
                R (.int .i64 2) h_5)
            (fun J_3 =>
              ∃ (t45 : ByteArray), hcell h_4 ⟨b, 3, none⟩ = some (.string t45) ∧
              if (decide (((t45.size : Nat) : Int) < 1)) = true then
                J_3 true h_4
              else
                ∃ (t50 : ByteArray), hcell h_4 ⟨b, 3, none⟩ = some (.string t50) ∧
                if (decide (((t50.size : Nat) : Int) > 16)) = true then
                  J_3 true h_4
                else
                  ∃ (t56 : ByteArray), hcell h_4 ⟨b, 4, none⟩ = some (.string t56) ∧
                  if (decide (((t56.size : Nat) : Int) > 24)) = true then
                    J_3 true h_4
                  else
                    ∃ (t62 : ByteArray), hcell h_4 ⟨b, 3, none⟩ = some (.string t62) ∧
                    CallsH Tryz.prog F.ref04_Plain #[.string t62, .bool false] h_4 fun v h_6 =>
                    ∃ (t63 : Bool), v = .bool t63 ∧
                    if (!t63) = true then
                      J_3 true h_6
                    else
                      ∃ (t68 : ByteArray), hcell h_6 ⟨b, 4, none⟩ = some (.string t68) ∧
                      CallsH Tryz.prog F.ref04_Plain #[.string t68, .bool true] h_6 fun v_1 h_7 =>
                      ∃ (t69 : Bool), v_1 = .bool t69 ∧
                      J_3 (!t69) h_7))
        (fun J_2 =>
          ∃ (t37 : ByteArray), hcell h_3 ⟨b, 3, none⟩ = some (.string t37) ∧
          if (t37.toList == (⟨#[]⟩ : ByteArray).toList) = true then
            ∃ (t41 : ByteArray), hcell h_3 ⟨b, 4, none⟩ = some (.string t41) ∧
            J_2 (t41.toList == (⟨#[]⟩ : ByteArray).toList) h_3
          else
            J_2 false h_3))
    (fun J_1 =>
      ∃ (t29 : Int), hcell h_1 ⟨b, 1, none⟩ = some (.int .u64 t29) ∧
      if (t29 != 0) = true then
        J_1 true h_1
      else
        ∃ (t33 : Int), hcell h_1 ⟨b, 2, none⟩ = some (.int .u64 t33) ∧
        J_1 (t33 != 0) h_1)
theorem ref04_Kind.den_eq (x_0 : Bool) (x_1 : Int) (x_2 : Int) (x_3 : ByteArray) (x_4 : ByteArray) (h : Heap) (R : Value → Heap → Prop) : ref04_Kind.vc x_0 x_1 x_2 x_3 x_4 h R = den Tryz.prog Tryz.f41.ntmps (.seq .leaf (.seq (.seq .leaf (.cond (.seq (.seq (.join [(27, .one (.bool))] .leaf) (.cond (.seq .leaf .leaf) .leaf)) (.seq .leaf .leaf)) .leaf)) (.seq (.seq (.join [(35, .one (.bool))] .leaf) (.cond (.seq .leaf .leaf) .leaf)) (.seq (.seq (.join [(43, .one (.bool))] .leaf) (.cond (.seq .leaf .leaf) .leaf)) (.seq (.seq (.join [(71, .one (.bool))] .leaf) (.cond (.seq .leaf .leaf) .leaf)) (.seq .leaf .leaf)))))) none (bodyOf Tryz.f41) (retK Tryz.prog Tryz.f41.results R) (argEnv [.agg #[.bool x_0, .int .u64 x_1, .int .u64 x_2, .string x_3, .string x_4]]) h := by kernel_rfl
theorem ref04_Kind.walk {x_0 : Bool} {x_1 : Int} {x_2 : Int} {x_3 : ByteArray} {x_4 : ByteArray} {h : Heap} {R : Value → Heap → Prop} (hv : ref04_Kind.vc x_0 x_1 x_2 x_3 x_4 h R) : CallsH Tryz.prog F.ref04_Kind #[.agg #[.bool x_0, .int .u64 x_1, .int .u64 x_2, .string x_3, .string x_4]] h R :=
  callsH_of_body _ Tryz.func41 rfl rfl (Eq.mp (ref04_Kind.den_eq x_0 x_1 x_2 x_3 x_4 h R) hv)

def ref04_Plain.vc (s : ByteArray) (slash : Bool) (h : Heap) (R : Value → Heap → Prop) : Prop :=
  ∃ (I : Int → Heap → Prop) (mu : Int → Heap → Nat), I 0 h ∧ ∀ (i : Int) (h_1 : Heap), I i h_1 →
    if (decide (i < ((s.size : Nat) : Int))) = true then
      ((0 : Int) ≤ i ∧ i < ((s.size : Nat) : Int)) ∧
      JoinP (fun (t41 : Bool) (h_2 : Heap) =>
        if t41 = true then
          R (.bool false) h_2
        else
          (I (IntKind.wrap .i64 (i + 1)) h_2 ∧ mu (IntKind.wrap .i64 (i + 1)) h_2 < mu i h_1))
      (fun J =>
        if (decide ((((s.data.toList.getD (Int.toNat i) 0).toNat : Nat) : Int) ≥ 97)) = true then
          if (decide ((((s.data.toList.getD (Int.toNat i) 0).toNat : Nat) : Int) ≤ 122)) = true then
            J false h_1
          else
            if (decide ((((s.data.toList.getD (Int.toNat i) 0).toNat : Nat) : Int) ≥ 48)) = true then
              if (decide ((((s.data.toList.getD (Int.toNat i) 0).toNat : Nat) : Int) ≤ 57)) = true then
                J false h_1
              else
                if ((((s.data.toList.getD (Int.toNat i) 0).toNat : Nat) : Int) == 45) = true then
                  J false h_1
                else
                  if slash = true then
                    J (!((((s.data.toList.getD (Int.toNat i) 0).toNat : Nat) : Int) == 47)) h_1
                  else
                    J true h_1
            else
              if ((((s.data.toList.getD (Int.toNat i) 0).toNat : Nat) : Int) == 45) = true then
                J false h_1
              else
                if slash = true then
                  J (!((((s.data.toList.getD (Int.toNat i) 0).toNat : Nat) : Int) == 47)) h_1
                else
                  J true h_1
        else
          if (decide ((((s.data.toList.getD (Int.toNat i) 0).toNat : Nat) : Int) ≥ 48)) = true then
            if (decide ((((s.data.toList.getD (Int.toNat i) 0).toNat : Nat) : Int) ≤ 57)) = true then
              J false h_1
            else
              if ((((s.data.toList.getD (Int.toNat i) 0).toNat : Nat) : Int) == 45) = true then
                J false h_1
              else
                if slash = true then
                  J (!((((s.data.toList.getD (Int.toNat i) 0).toNat : Nat) : Int) == 47)) h_1
                else
                  J true h_1
          else
            if ((((s.data.toList.getD (Int.toNat i) 0).toNat : Nat) : Int) == 45) = true then
              J false h_1
            else
              if slash = true then
                J (!((((s.data.toList.getD (Int.toNat i) 0).toNat : Nat) : Int) == 47)) h_1
              else
                J true h_1)
    else
      R (.bool true) h_1
theorem ref04_Plain.den_eq (s : ByteArray) (slash : Bool) (h : Heap) (R : Value → Heap → Prop) : ref04_Plain.vc s slash h R = den Tryz.prog Tryz.f108.ntmps (.seq .leaf (.seq (.seq .leaf (.block (.loop [(5, .one (.int .i64))] (.seq (.seq .leaf (.cond .leaf .leaf)) (.seq (.block (.seq .leaf (.seq (.join [(41, .one (.bool))] .leaf) (.cond (.seq .leaf .leaf) .leaf)))) .leaf))))) (.seq .leaf .leaf))) none (bodyOf Tryz.f108) (retK Tryz.prog Tryz.f108.results R) (argEnv [.string s, .bool slash]) h := by kernel_rfl
theorem ref04_Plain.walk {s : ByteArray} {slash : Bool} {h : Heap} {R : Value → Heap → Prop} (hv : ref04_Plain.vc s slash h R) : CallsH Tryz.prog F.ref04_Plain #[.string s, .bool slash] h R :=
  callsH_of_body _ Tryz.func108 rfl rfl (Eq.mp (ref04_Plain.den_eq s slash h R) hv)

def law04_As.vc (x_0 : Bool) (x_1 : Int) (x_2 : Int) (x_3 : ByteArray) (x_4 : ByteArray) (h : Heap) (R : Value → Heap → Prop) : Prop :=
  NewP h (.cells #[.bool x_0, .int .u64 x_1, .int .u64 x_2, .string x_3, .string x_4] T.eid_Eid) fun b h_1 =>
  NewP h_1 (.cells #[.bool false, .int .u64 0, .int .u64 0, .string (⟨#[]⟩ : ByteArray), .string (⟨#[]⟩ : ByteArray)] T.ref04_Eid) fun b_1 h_2 =>
  ∃ (t4 : Bool), hcell h_2 ⟨b, 0, none⟩ = some (.bool t4) ∧
  ∃ (t6 : Int), hcell h_2 ⟨b, 1, none⟩ = some (.int .u64 t6) ∧
  ∃ (t8 : Int), hcell h_2 ⟨b, 2, none⟩ = some (.int .u64 t8) ∧
  ∃ (t10 : ByteArray), hcell h_2 ⟨b, 3, none⟩ = some (.string t10) ∧
  ∃ (t12 : ByteArray), hcell h_2 ⟨b, 4, none⟩ = some (.string t12) ∧
  ref04_Eid.ST h_2 ⟨b_1, 0, none⟩ t4 t6 t8 t10 t12 fun h_3 =>
  ref04_Eid.LD h_3 ⟨b_1, 0, none⟩ fun r_0 r_1 r_2 r_3 r_4 =>
  R (.agg #[.bool r_0, .int .u64 r_1, .int .u64 r_2, .string r_3, .string r_4]) h_3
theorem law04_As.den_eq (x_0 : Bool) (x_1 : Int) (x_2 : Int) (x_3 : ByteArray) (x_4 : ByteArray) (h : Heap) (R : Value → Heap → Prop) : law04_As.vc x_0 x_1 x_2 x_3 x_4 h R = den Tryz.prog Tryz.f16.ntmps (.seq .leaf (.seq .leaf .leaf)) none (bodyOf Tryz.f16) (retK Tryz.prog Tryz.f16.results R) (argEnv [.agg #[.bool x_0, .int .u64 x_1, .int .u64 x_2, .string x_3, .string x_4]]) h := by kernel_rfl
theorem law04_As.walk {x_0 : Bool} {x_1 : Int} {x_2 : Int} {x_3 : ByteArray} {x_4 : ByteArray} {h : Heap} {R : Value → Heap → Prop} (hv : law04_As.vc x_0 x_1 x_2 x_3 x_4 h R) : CallsH Tryz.prog F.law04_As #[.agg #[.bool x_0, .int .u64 x_1, .int .u64 x_2, .string x_3, .string x_4]] h R :=
  callsH_of_body _ Tryz.func16 rfl rfl (Eq.mp (law04_As.den_eq x_0 x_1 x_2 x_3 x_4 h R) hv)

end Go.Proofs.YtgccegnmggjkjaaGreatDoor

/-
  What is proved here: the document's endpoints (package ref04): Plain, Class, Kind, Less, Digits, Text. No condition.
-/
set_option maxRecDepth 100000
namespace Go.Proofs.YtgccegnmggjkjaaGreatDoor
open Go.Den
namespace Eid
variable {h h' : Heap} {R : Value → Heap → Prop}
theorem pl_nat (more c : UInt8) : pl more c = ((decide ((97 : Int) ≤ (c.toNat : Int)) && decide ((c.toNat : Int) ≤ 122)) || (decide ((48 : Int) ≤ (c.toNat : Int)) && decide ((c.toNat : Int) ≤ 57)) || decide ((c.toNat : Int) = 45) || decide ((c.toNat : Int) = (more.toNat : Int))) := by
  have e : ∀ a : UInt8, decide (a ≤ c) = decide ((a.toNat : Int) ≤ (c.toNat : Int)) := fun a => decide_eq_decide.2 ⟨fun h => by have := UInt8.le_iff_toNat_le.1 h; omega, fun h => UInt8.le_iff_toNat_le.2 (by omega)⟩
  have e' : ∀ a : UInt8, decide (c ≤ a) = decide ((c.toNat : Int) ≤ (a.toNat : Int)) := fun a => decide_eq_decide.2 ⟨fun h => by have := UInt8.le_iff_toNat_le.1 h; omega, fun h => UInt8.le_iff_toNat_le.2 (by omega)⟩
  have e2 : ∀ a : UInt8, (c == a) = decide ((c.toNat : Int) = (a.toNat : Int)) := fun a => by
    rw [Bool.eq_iff_iff]
    simp only [beq_iff_eq, decide_eq_true_eq]
    exact ⟨fun h => by rw [h], fun h => UInt8.toNat_inj.1 (by omega)⟩
  unfold pl
  rw [e, e, e', e', e2, e2]
  rfl
theorem rplain_ok {s : ByteArray} (slash : Bool) (hs : s.size ≤ 1000000) (hk : R (.bool (plainB (if slash then 47 else 45) s)) h) : CallsH Tryz.prog F.ref04_Plain #[.string s, .bool slash] h R := by
  refine ref04_Plain.walk ⟨fun i g => g = h ∧ ∃ j : Nat, i = (j : Int) ∧ j ≤ s.size ∧ (s.data.toList.take j).all (pl (if slash then 47 else 45)) = true, fun i _ => s.size - i.toNat, ⟨rfl, 0, rfl, Nat.zero_le _, by simp⟩, ?_⟩
  rintro _ g ⟨rfl, j, rfl, hj, hall⟩
  have hsz : s.data.toList.length = s.size := by rw [Array.length_toList]; rfl
  by_cases hlt : j < s.size
  · rw [if_pos (decide_eq_true (by omega))]
    refine ⟨⟨by omega, by omega⟩, JoinP.of fun J hJ => ?_⟩
    rw [Int.toNat_natCast]
    obtain ⟨c, hc⟩ : ∃ c, s.data.toList[j]? = some c := ⟨_, List.getElem?_eq_getElem (by omega)⟩
    have hd : s.data.toList.getD j 0 = c := by rw [List.getD_eq_getElem?_getD, hc]; rfl
    rw [hd]
    have good : pl (if slash then 47 else 45) c = true → J false g := fun hp => by
      subst hJ
      dsimp only
      rw [if_neg (by decide), wrap_id (by omega) (by omega)]
      refine ⟨⟨rfl, j + 1, by omega, by omega, ?_⟩, by show s.size - Int.toNat ((j : Int) + 1) < s.size - j; omega⟩
      rw [List.take_add_one, hc, List.all_append, hall]
      simp [hp]
    have bad : pl (if slash then 47 else 45) c = false → J true g := fun hp => by
      subst hJ
      dsimp only
      rw [if_pos rfl]
      have : plainB (if slash then 47 else 45) s = false := by
        unfold plainB
        rw [List.all_eq_false]
        exact ⟨c, List.mem_of_getElem? hc, by rw [hp]; decide⟩
      rw [this] at hk
      exact hk
    clear hJ
    rw [pl_nat] at good bad
    generalize (c.toNat : Int) = x at good bad
    have dec : ∀ b : Bool, (((decide ((97 : Int) ≤ x) && decide (x ≤ 122)) || (decide ((48 : Int) ≤ x) && decide (x ≤ 57)) || decide (x = 45) || decide (x = (((if slash then (47 : UInt8) else 45).toNat : Nat) : Int))) = !b) → J b g := fun b hb => by
      cases b with
      | false => exact good hb
      | true => exact bad hb
    clear good bad
    cases slash <;> (repeat' split) <;> refine dec _ ?_ <;> simp_all <;> first | omega | (rw [Bool.eq_iff_iff]; simp only [Bool.or_eq_true, Bool.and_eq_true, decide_eq_true_eq, beq_iff_eq]; omega)
  · rw [if_neg (by simp; omega)]
    obtain rfl : j = s.size := by omega
    rw [List.take_of_length_le (by omega)] at hall
    unfold plainB at hk
    rw [hall] at hk
    exact hk
theorem as_ok (x : Ev) (hk : ∀ h', Fr (fun _ => False) h h' → R (ev5 x) h') : CallsH Tryz.prog F.law04_As #[ev5 x] h R := by
  refine law04_As.walk (eid_Eid.box fun b h1 e1 hb1 f1 => ref04_Eid.box fun b2 h2 e2 hb2 f2 => ?_)
  have hb := f2.get hb1 id
  refine ⟨_, cell_at hb rfl, _, cell_at hb rfl, _, cell_at hb rfl, _, cell_at hb rfl, _, cell_at hb rfl, ref04_Eid.set hb2 fun h3 a3 s3 o3 => ref04_Eid.ld a3 ?_⟩
  have z := f1.1
  exact hk h3 ((f1.tt f2).fresh (S := fun y => y = b2) ⟨by omega, fun y _ hn => o3 y hn⟩ (fun y e => by omega))
theorem nil_eq (s : ByteArray) : (s.toList == (⟨#[]⟩ : ByteArray).toList) = decide (s = ⟨#[]⟩) := by
  by_cases e : s = ⟨#[]⟩
  · rw [decide_eq_true e]; exact bytes_eq.2 e
  · rw [decide_eq_false e]
    cases q : s.toList == (⟨#[]⟩ : ByteArray).toList
    · rfl
    · exact absurd (bytes_eq.1 q) e
theorem eqv04 (x y : Ev) : EqV Tryz.prog T.ref04_Eid (ev5 x) (ev5 y) (decide (x = y)) := by
  rw [← eqB_dec]
  exact EqV.of (by unfold eqB; kernel_rfl)
theorem eqv04' {x y : Ev} {a b : Value} (ha : a = ev5 x) (hb : b = ev5 y) : EqV Tryz.prog T.ref04_Eid a b (decide (x = y)) := by subst ha hb; exact eqv04 x y
theorem class_alt (x : Ev) : classE x = if x.ipn = true then 1 else if x.node = 0 ∧ x.svc = 0 ∧ x.host = ⟨#[]⟩ ∧ x.dem = ⟨#[]⟩ then 0 else 2 := by
  unfold classE
  by_cases hi : x.ipn = true
  · rw [if_neg (fun e => by rw [e] at hi; cases hi)]; simp [hi]
  · have hi' : x.ipn = false := by simpa using hi
    by_cases hz : x.node = 0 ∧ x.svc = 0 ∧ x.host = ⟨#[]⟩ ∧ x.dem = ⟨#[]⟩
    · have : x = .zero := Ev.ext' hi' hz.1 hz.2.1 hz.2.2.1 hz.2.2.2
      rw [if_pos this, if_neg hi, if_pos hz]
    · rw [if_neg (fun e => hz (by rw [e]; exact ⟨rfl, rfl, rfl, rfl⟩))]; simp only [hi, hz, Bool.false_eq_true, if_false]
/-- which kind a name is of; -1: it may not be -/
def kindE (x : Ev) : Int := if rightE x = true then classE x else -1
theorem kind_lt {x : Ev} : kindE x < 1 ↔ ¬ (rightE x = true ∧ x ≠ .zero) := by
  unfold kindE classE
  by_cases q : rightE x = true
  · rw [if_pos q]
    by_cases z : x = .zero
    · simp [z]
    · rw [if_neg z]; simp only [q, z]; split <;> simp [z]
  · rw [if_neg q]; simp [q]
theorem rkind_ok (x : Ev) (hk : ∀ h', Fr (fun _ => False) h h' → R (.int .i64 (kindE x)) h') : CallsH Tryz.prog F.ref04_Kind #[ev5 x] h R := by
  refine ref04_Kind.walk (ref04_Eid.box fun b h1 eb hb f1 => ⟨_, cell_at hb rfl, ?_⟩)
  have K := hk h1 f1
  clear hk
  simp only [nil_eq]
  by_cases hi : x.ipn = true
  · have hz : x ≠ .zero := fun e => by rw [e] at hi; cases hi
    have e : kindE x = if (x.host = ⟨#[]⟩ ∧ x.dem = ⟨#[]⟩ ∧ 1 ≤ x.node ∧ x.node ≤ 4294967295 ∧ x.svc ≤ 4294967295) then 1 else -1 := by
      unfold kindE rightE classE
      rw [if_neg hz, if_pos hi, if_neg hz, if_pos hi]; simp only [decide_eq_true_eq]
    rw [e] at K
    rw [if_pos hi]
    refine JoinP.of fun J hJ => ⟨_, cell_at hb rfl, ?_⟩
    have bad : ¬ (x.host = ⟨#[]⟩ ∧ x.dem = ⟨#[]⟩ ∧ 1 ≤ x.node ∧ x.node ≤ 4294967295 ∧ x.svc ≤ 4294967295) → J true h1 := fun hn => by
      subst hJ; rw [if_neg hn] at K; exact K
    by_cases q1 : x.host = ⟨#[]⟩
    · rw [if_neg (by simpa using q1)]
      refine ⟨_, cell_at hb rfl, ?_⟩
      by_cases q2 : x.dem = ⟨#[]⟩
      · rw [if_neg (by simpa using q2)]
        refine ⟨_, cell_at hb rfl, ?_⟩
        by_cases q3 : x.node < 1
        · rw [if_pos (decide_eq_true q3)]; exact bad (fun e => by have := e.2.2.1; omega)
        rw [if_neg (by simpa using q3)]
        refine ⟨_, cell_at hb rfl, ?_⟩
        by_cases q4 : x.node > 4294967295
        · rw [if_pos (decide_eq_true q4)]; exact bad (fun e => by have := e.2.2.2.1; omega)
        rw [if_neg (by simpa using q4)]
        refine ⟨_, cell_at hb rfl, ?_⟩
        by_cases q5 : x.svc > 4294967295
        · rw [decide_eq_true q5]; exact bad (fun e => by have := e.2.2.2.2; omega)
        rw [decide_eq_false q5]
        subst hJ
        rw [if_pos ⟨q1, q2, by omega, by omega, by omega⟩] at K
        exact K
      · rw [if_pos (by simpa using q2)]; exact bad (fun e => q2 e.2.1)
    · rw [if_pos (by simpa using q1)]; exact bad (fun e => q1 e.1)
  · have hi' : x.ipn = false := by simpa using hi
    rw [if_neg hi]
    refine JoinP.of fun J hJ => ⟨_, cell_at hb rfl, ?_⟩
    have bad : ¬ (x.node = 0 ∧ x.svc = 0) → J true h1 := fun hn => by
      have e : kindE x = -1 := by
        unfold kindE rightE
        have hz : x ≠ .zero := fun e => by subst e; exact hn ⟨rfl, rfl⟩
        rw [if_neg hz, if_neg hi, if_neg]
        simp only [Bool.and_eq_true, decide_eq_true_eq]
        exact fun e => hn ⟨e.1.1, e.1.2.1⟩
      rw [e] at K
      subst hJ; exact K
    by_cases q1 : x.node = 0
    · rw [if_neg (by simpa using q1)]
      refine ⟨_, cell_at hb rfl, ?_⟩
      by_cases q2 : x.svc = 0
      · have : (x.svc != 0) = false := by simpa using q2
        rw [this]
        clear bad
        subst hJ
        dsimp only
        rw [if_neg (by decide)]
        refine JoinP.of fun J hJ => ⟨_, cell_at hb rfl, ?_⟩
        have go : ¬ (x.host = ⟨#[]⟩ ∧ x.dem = ⟨#[]⟩) → J false h1 := fun hn => by
          have hz : x ≠ .zero := fun e => by subst e; exact hn ⟨rfl, rfl⟩
          have e : kindE x = if (1 ≤ x.host.size ∧ x.host.size ≤ 16 ∧ x.dem.size ≤ 24) ∧ plainB 45 x.host = true ∧ plainB 47 x.dem = true then 2 else -1 := by
            unfold kindE rightE classE
            rw [if_neg hz, if_neg hi, if_neg hz, if_neg hi]
            simp only [q1, q2, true_and, Bool.and_eq_true, decide_eq_true_eq]
          rw [e] at K
          subst hJ
          dsimp only
          rw [if_neg (by decide)]
          refine JoinP.of fun J hJ => ⟨_, cell_at hb rfl, ?_⟩
          have bad : ¬ ((1 ≤ x.host.size ∧ x.host.size ≤ 16 ∧ x.dem.size ≤ 24) ∧ plainB 45 x.host = true ∧ plainB 47 x.dem = true) → J true h1 := fun hn => by
            subst hJ; rw [if_neg hn] at K; exact K
          by_cases q3 : x.host.size < 1
          · rw [if_pos (decide_eq_true (by omega))]; exact bad (fun e => by have := e.1; omega)
          rw [if_neg (by simp; omega)]
          refine ⟨_, cell_at hb rfl, ?_⟩
          by_cases q4 : x.host.size > 16
          · rw [if_pos (decide_eq_true (by omega))]; exact bad (fun e => by have := e.1; omega)
          rw [if_neg (by simp; omega)]
          refine ⟨_, cell_at hb rfl, ?_⟩
          by_cases q5 : x.dem.size > 24
          · rw [if_pos (decide_eq_true (by omega))]; exact bad (fun e => by have := e.1; omega)
          rw [if_neg (by simp; omega)]
          refine ⟨_, cell_at hb rfl, rplain_ok false (by omega) ⟨_, rfl, ?_⟩⟩
          have e1 : plainB (if false = true then 47 else 45) x.host = plainB 45 x.host := rfl
          have e2 : plainB (if true = true then 47 else 45) x.dem = plainB 47 x.dem := rfl
          rw [e1]
          by_cases q6 : plainB 45 x.host = true
          · rw [if_neg (by simpa using q6)]
            refine ⟨_, cell_at hb rfl, rplain_ok true (by omega) ⟨_, rfl, ?_⟩⟩
            rw [e2]
            by_cases q7 : plainB 47 x.dem = true
            · rw [q7]
              subst hJ
              rw [if_pos ⟨⟨by omega, by omega, by omega⟩, q6, q7⟩] at K
              exact K
            · have : (!plainB 47 x.dem) = true := by simpa using q7
              rw [this]; exact bad (fun e => q7 e.2.2)
          · rw [if_pos (by simpa using q6)]; exact bad (fun e => q6 e.2.1)
        by_cases q3 : x.host = ⟨#[]⟩
        · rw [if_pos (decide_eq_true q3)]
          refine ⟨_, cell_at hb rfl, ?_⟩
          by_cases q4 : x.dem = ⟨#[]⟩
          · rw [decide_eq_true q4]
            clear go
            have hz : x = .zero := Ev.ext' hi' q1 q2 q3 q4
            have e : kindE x = 0 := by
              unfold kindE rightE classE
              rw [if_pos hz, if_pos hz]; rfl
            rw [e] at K
            subst hJ; exact K
          · rw [decide_eq_false q4]; exact go (fun e => q4 e.2)
        · rw [if_neg (by simpa using q3)]; exact go (fun e => q3 e.1)
      · have : (x.svc != 0) = true := by simpa using q2
        rw [this]; exact bad (fun e => q2 e.2)
    · rw [if_pos (by simpa using q1)]; exact bad (fun e => q1 e.1)
end Eid
end Go.Proofs.YtgccegnmggjkjaaGreatDoor

/-
  The shelf's contracts laid at this program (written by the kit's lay-plain.mjs): that its bodies are those that the contracts are proved of. No condition.
-/
set_option maxRecDepth 100000
namespace Go.Proofs
open Go.Shelf
def Tryz.lays284_ren : Go.Shelf.Ren := ⟨fun | 284 => 229 | 129 => 214 | 317 => 254 | 318 => 255 | n => n, fun | 53 => 23 | 3 => 3 | 212 => 350 | 0 => 0 | 4 => 4 | 46 => 271 | 5 => 5 | 9 => 9 | n => n, fun | 17 => 0 | n => n⟩
theorem Tryz.lays284 : Go.Proofs.LaysM.n284 Tryz.prog Tryz.lays284_ren := {
  mixed := by kernel_rfl
  f129 := Tryz.func214.trans (congrArg some (by kernel_rfl))
  f284 := Tryz.func229.trans (congrArg some (by kernel_rfl))
  f317 := Tryz.func254.trans (congrArg some (by kernel_rfl))
  f318 := Tryz.func255.trans (congrArg some (by kernel_rfl))
  t0 := Tryz.underlying0
  a0 := Tryz.isAgg0
  z0 := Tryz.sizeOf0
  v0 := Tryz.zeroValue0
  t3 := Tryz.underlying3
  a3 := Tryz.isAgg3
  z3 := Tryz.sizeOf3
  v3 := Tryz.zeroValue3
  t4 := Tryz.underlying4
  a4 := Tryz.isAgg4
  z4 := Tryz.sizeOf4
  v4 := Tryz.zeroValue4
  t5 := Tryz.underlying5
  a5 := Tryz.isAgg5
  z5 := Tryz.sizeOf5
  v5 := Tryz.zeroValue5
  t9 := Tryz.underlying9
  a9 := Tryz.isAgg9
  z9 := Tryz.sizeOf9
  v9 := Tryz.zeroValue9
  t46 := Tryz.underlying271
  a46 := Tryz.isAgg271
  z46 := Tryz.sizeOf271
  v46 := Tryz.zeroValue271
  t53 := Tryz.underlying23
  a53 := Tryz.isAgg23
  z53 := Tryz.sizeOf23
  v53 := Tryz.zeroValue23
  t212 := Tryz.underlying350
  a212 := Tryz.isAgg350
  z212 := Tryz.sizeOf350
  v212 := Tryz.zeroValue350
  g17 := by kernel_rfl
  i0 := by kernel_rfl
  i3 := by kernel_rfl
  i4 := by kernel_rfl
  i5 := by kernel_rfl
  i9 := by kernel_rfl
  i46 := by kernel_rfl
  i53 := by kernel_rfl
  i212 := by kernel_rfl
  m17 := by kernel_rfl }
def Tryz.lays285_ren : Go.Shelf.Ren := ⟨fun | 285 => 230 | n => n, fun | 37 => 34 | 53 => 23 | 3 => 3 | 4 => 4 | 51 => 314 | 9 => 9 | 5 => 5 | 0 => 0 | n => n, fun | n => n⟩
theorem Tryz.lays285 : Go.Proofs.Lays.n285 Tryz.prog Tryz.lays285_ren := {
  mixed := by kernel_rfl
  f285 := Tryz.func230.trans (congrArg some (by kernel_rfl))
  t0 := Tryz.underlying0
  a0 := Tryz.isAgg0
  z0 := Tryz.sizeOf0
  v0 := Tryz.zeroValue0
  t3 := Tryz.underlying3
  a3 := Tryz.isAgg3
  z3 := Tryz.sizeOf3
  v3 := Tryz.zeroValue3
  t4 := Tryz.underlying4
  a4 := Tryz.isAgg4
  z4 := Tryz.sizeOf4
  v4 := Tryz.zeroValue4
  t5 := Tryz.underlying5
  a5 := Tryz.isAgg5
  z5 := Tryz.sizeOf5
  v5 := Tryz.zeroValue5
  t9 := Tryz.underlying9
  a9 := Tryz.isAgg9
  z9 := Tryz.sizeOf9
  v9 := Tryz.zeroValue9
  t37 := Tryz.underlying34
  a37 := Tryz.isAgg34
  z37 := Tryz.sizeOf34
  v37 := Tryz.zeroValue34
  t51 := Tryz.underlying314
  a51 := Tryz.isAgg314
  z51 := Tryz.sizeOf314
  v51 := Tryz.zeroValue314
  t53 := Tryz.underlying23
  a53 := Tryz.isAgg23
  z53 := Tryz.sizeOf23
  v53 := Tryz.zeroValue23 }
def Tryz.lays283_ren : Go.Shelf.Ren := ⟨fun | 283 => 228 | n => n, fun | 3 => 3 | 9 => 9 | 4 => 4 | n => n, fun | n => n⟩
theorem Tryz.lays283 : Go.Proofs.Lays.n283 Tryz.prog Tryz.lays283_ren := {
  mixed := by kernel_rfl
  f283 := Tryz.func228.trans (congrArg some (by kernel_rfl))
  t3 := Tryz.underlying3
  a3 := Tryz.isAgg3
  z3 := Tryz.sizeOf3
  v3 := Tryz.zeroValue3
  t4 := Tryz.underlying4
  a4 := Tryz.isAgg4
  z4 := Tryz.sizeOf4
  v4 := Tryz.zeroValue4
  t9 := Tryz.underlying9
  a9 := Tryz.isAgg9
  z9 := Tryz.sizeOf9
  v9 := Tryz.zeroValue9 }
end Go.Proofs

/-
  What is proved here: the shelf's contracts of internal/strconv, on heaps. No condition.
-/
set_option maxRecDepth 100000
namespace Go.Proofs.YtgccegnmggjkjaaGreatDoor
open Go.Den
namespace Num
variable {h h' : Heap} {R : Value → Heap → Prop}
/-- the table of the powers of ten lies where the program has it -/
def Tab (h : Heap) : Prop := ∃ t f, h[(0 : Nat)]? = some (.cells (Lib.pow10Tab.map fun z => Value.int .u64 z).toArray t f)
theorem Tab.frame {S : Nat → Prop} (T : Tab h) (f : Fr S h h') (hn : ∀ c, c < h.size → ¬ S c) : Tab h' := by
  obtain ⟨t, fr, h2⟩ := T
  exact ⟨t, fr, f.get h2 (hn _ (lt_of_get h2))⟩
theorem Tab.on (T : Tab h) (f : Fr (fun _ => False) h h') : Tab h' := T.frame f (fun _ _ => id)
theorem Tab.is {w : World} {s : String} (hs : Tryz.prog.globalNamed s = some 0) (T : Tab w.heap) : Lib.TabIs Tryz.prog w s .u64 Lib.pow10Tab := by
  obtain ⟨t, fr, h2⟩ := T
  unfold Lib.TabIs World.var?
  rw [hs]
  show (match w.heap[(0 : Nat)]? with | some (.cells cs _ _) => some cs | _ => none) = _
  rw [h2]
theorem small_ok {i : Nat} (hi : i < 100) (hk : R (.string ⟨(Lib.decDigits i).toArray⟩) h) : CallsH Tryz.prog F.internal_strconv_small #[.int .i64 i] h R := fun w hw =>
  (Any.internal_strconv_small Tryz.lays283 i hi w).mono fun e w' ⟨he, hw'⟩ => ⟨_, he, by rw [hw', hw]; exact hk, by rw [hw']; exact Same.refl _⟩
theorem digits_ok {u : Nat} (T : Tab h) (h1 : 1 ≤ u) (h2 : u < 18446744073709551616) (hk : R (.int .i64 (Lib.nDigits u)) h) : CallsH Tryz.prog F.internal_strconv_numDigits #[.int .u64 u] h R := fun w hw =>
  (Any.internal_strconv_numDigits Tryz.lays284 u h1 h2 w (by rw [← hw] at T; exact T.is (by kernel_rfl))).mono fun e w' ⟨he, hw'⟩ => ⟨_, he, by rw [hw', hw]; exact hk, by rw [hw']; exact Same.refl _⟩
end Num
end Go.Proofs.YtgccegnmggjkjaaGreatDoor

/-
  Printed by a program of this work (vc.py): the verification conditions of functions, and that each is enough for the call. No condition.
-/
set_option maxRecDepth 100000
set_option maxHeartbeats 4000000
namespace Go.Proofs.YtgccegnmggjkjaaGreatDoor
open Go.Den
def internal_strconv_FormatUint.vc (i : Int) (base : Int) (h : Heap) (R : Value → Heap → Prop) : Prop :=
  if (base == 10) = true then
    if (decide (i < 100)) = true then
      CallsH Tryz.prog F.internal_strconv_small #[.int .i64 (IntKind.wrap .i64 i)] h fun v h_1 =>
      ∃ (t15 : ByteArray), v = .string t15 ∧
      R (.string t15) h_1
    else
      NewP h (.cells #[.int .u8 0, .int .u8 0, .int .u8 0, .int .u8 0, .int .u8 0, .int .u8 0, .int .u8 0, .int .u8 0, .int .u8 0, .int .u8 0, .int .u8 0, .int .u8 0, .int .u8 0, .int .u8 0, .int .u8 0, .int .u8 0, .int .u8 0, .int .u8 0, .int .u8 0, .int .u8 0, .int .u8 0, .int .u8 0, .int .u8 0, .int .u8 0] T.a24_uint8) fun b h_2 =>
      CallsH Tryz.prog F.internal_strconv_numDigits #[.int .u64 i] h_2 fun v_1 h_3 =>
      ∃ (t17 : Int), v_1 = .int .i64 t17 ∧
      ((0 : Int) ≤ t17 ∧ t17 ≤ ((24 : Nat) : Int)) ∧ 
      CallsH Tryz.prog F.internal_strconv_formatBase10 #[.slice (slBase (some ⟨b, 0, none⟩) 24 0 1) ((Int.toNat t17) - 0) (24 - 0), .int .u64 i] h_3 fun v_2 h_4 =>
      v_2 = .tuple #[] ∧
      ((0 : Int) ≤ t17 ∧ t17 ≤ ((24 : Nat) : Int)) ∧ 
      ∃ (t24 : ByteArray), ConvV Tryz.prog T.s_uint8 T.string (.slice (slBase (some ⟨b, 0, none⟩) 24 0 1) ((Int.toNat t17) - 0) (24 - 0)) h_4 t24 ∧
      R (.string t24) h_4
  else
    CallsH Tryz.prog F.internal_strconv_formatBits #[.slice none 0 0, .int .u64 i, .int .i64 base, .bool false, .bool false] h fun v_3 h_5 =>
    ∃ (t28_0_p : Option Addr) (t28_0_l t28_0_c : Nat), ∃ (t28_1 : ByteArray), v_3 = .tuple #[.slice t28_0_p t28_0_l t28_0_c, .string t28_1] ∧
    R (.string t28_1) h_5
theorem internal_strconv_FormatUint.den_eq (i : Int) (base : Int) (h : Heap) (R : Value → Heap → Prop) : internal_strconv_FormatUint.vc i base h R = den Tryz.prog Tryz.f201.ntmps (.seq .leaf (.seq (.seq .leaf (.cond (.seq (.seq .leaf (.cond (.seq .leaf .leaf) .leaf)) (.seq .leaf (.seq .leaf (.seq .leaf (.seq .leaf .leaf))))) .leaf)) (.seq .leaf (.seq .leaf .leaf)))) none (bodyOf Tryz.f201) (retK Tryz.prog Tryz.f201.results R) (argEnv [.int .u64 i, .int .i64 base]) h := by kernel_rfl
theorem internal_strconv_FormatUint.walk {i : Int} {base : Int} {h : Heap} {R : Value → Heap → Prop} (hv : internal_strconv_FormatUint.vc i base h R) : CallsH Tryz.prog F.internal_strconv_FormatUint #[.int .u64 i, .int .i64 base] h R :=
  callsH_of_body _ Tryz.func201 rfl rfl (Eq.mp (internal_strconv_FormatUint.den_eq i base h R) hv)

def strconv_FormatUint.vc (i : Int) (base : Int) (h : Heap) (R : Value → Heap → Prop) : Prop :=
  CallsH Tryz.prog F.internal_strconv_FormatUint #[.int .u64 i, .int .i64 base] h fun v h_1 =>
  ∃ (t7 : ByteArray), v = .string t7 ∧
  R (.string t7) h_1
theorem strconv_FormatUint.den_eq (i : Int) (base : Int) (h : Heap) (R : Value → Heap → Prop) : strconv_FormatUint.vc i base h R = den Tryz.prog Tryz.f176.ntmps (.seq .leaf (.seq .leaf .leaf)) none (bodyOf Tryz.f176) (retK Tryz.prog Tryz.f176.results R) (argEnv [.int .u64 i, .int .i64 base]) h := by kernel_rfl
theorem strconv_FormatUint.walk {i : Int} {base : Int} {h : Heap} {R : Value → Heap → Prop} (hv : strconv_FormatUint.vc i base h R) : CallsH Tryz.prog F.strconv_FormatUint #[.int .u64 i, .int .i64 base] h R :=
  callsH_of_body _ Tryz.func176 rfl rfl (Eq.mp (strconv_FormatUint.den_eq i base h R) hv)

end Go.Proofs.YtgccegnmggjkjaaGreatDoor

/-
  What is proved here: strconv.FormatUint at base 10, on heaps. No condition.
-/
set_option maxRecDepth 100000
namespace Go.Proofs.YtgccegnmggjkjaaGreatDoor
open Go.Den
namespace Num
variable {h h' : Heap} {R : Value → Heap → Prop}
theorem base10_ok {blk n u cap : Nat} {c : Array Value} {t : TypeId} (hb : h[blk]? = some (.cells c t (0, 0))) (hz : ∀ j, j < n → c[j]? = some (.int .u8 0)) (hu : u < 10 ^ n) (hu64 : u < 18446744073709551616) (hn : n < 100)
    (hk : ∀ h' c' dk v', h'[blk]? = some (.cells c' t (0, 0)) → Lib.FmtInv n u 0 v' dk → (∀ j, j < n → c'[j]? = some (.int .u8 ((dk[j]!).toNat : Int))) → h'.size = h.size → (∀ x, x ≠ blk → h'[x]? = h[x]?) → R (.tuple #[]) h') :
    CallsH Tryz.prog F.internal_strconv_formatBase10 #[.slice (some ⟨blk, 0, none⟩) n cap, .int .u64 u] h R := fun w hw => by
  subst hw
  have hH : Sort.Holds (fun (b : UInt8) => Value.int .u8 (b.toNat : Int)) w blk 0 (Array.replicate n 0) := fun j hj => by
    rw [Array.size_replicate] at hj
    refine ⟨?_, ?_⟩
    · rw [cell_eq, hcell_blk hb, Nat.zero_add, hz j hj]
      have : (Array.replicate n (0 : UInt8))[j]! = 0 := by simp [hj]
      rw [this]; rfl
    · rw [frozen_eq]; exact hfrozen_blk hb
  have key := Any.internal_strconv_formatBase10 Tryz.lays285 blk 0 cap u (Array.replicate n 0) w hH (by rw [Array.size_replicate]; exact hu) hu64 (by rw [Array.size_replicate]; omega)
  rw [Array.size_replicate] at key
  refine Calls.mono key fun e w' ⟨he, k, v', dk, hw', hF⟩ => ⟨_, he, ?_, ?_⟩
  · subst hw'
    have hh : ((Sort.putRow (fun (b : UInt8) => Value.int .u8 (b.toNat : Int)) w blk 0 dk).drewN k).heap = w.heap.modify blk (Sort.onCells (Sort.putCells (fun (b : UInt8) => Value.int .u8 (b.toNat : Int)) 0 dk)) := rfl
    rw [hh]
    refine hk _ (Sort.putCells (fun (b : UInt8) => Value.int .u8 (b.toNat : Int)) 0 dk c) dk v' ?_ hF (fun j hj => ?_) (by simp) (fun x hx => by rw [Array.getElem?_modify, if_neg (fun e => hx e.symm)])
    · rw [Array.getElem?_modify, if_pos rfl, hb]; rfl
    · unfold Sort.putCells
      rw [Array.getElem?_mapIdx, hz j hj, Option.map_some, if_pos ⟨Nat.zero_le _, by rw [hF.size]; omega⟩, Nat.sub_zero]
  · subst hw'; exact ⟨rfl, rfl, rfl⟩
theorem tS : Tryz.prog.underlying T.s_uint8 = some (.slice T.uint8) := by kernel_rfl
theorem t8 : Tryz.prog.underlying T.uint8 = some (.int .u8) := by kernel_rfl
theorem tT : Tryz.prog.underlying T.string = some .string := by kernel_rfl
theorem format_ok {u : Nat} (tb : Tab h) (hu : u < 18446744073709551616) (hk : ∀ h', Fr (fun _ => False) h h' → R (.string ⟨(Lib.decDigits u).toArray⟩) h') : CallsH Tryz.prog F.internal_strconv_FormatUint #[.int .u64 u, .int .i64 10] h R := by
  refine internal_strconv_FormatUint.walk ?_
  unfold internal_strconv_FormatUint.vc
  rw [if_pos (by rfl)]
  by_cases h1 : u < 100
  · rw [if_pos (decide_eq_true (by omega)), wrap_id (by omega) (by omega)]
    exact small_ok h1 ⟨_, rfl, hk h (Fr.refl _ _)⟩
  · rw [if_neg (by simp; omega)]
    refine newP_of ?_
    generalize hcs : (#[.int .u8 0, .int .u8 0, .int .u8 0, .int .u8 0, .int .u8 0, .int .u8 0, .int .u8 0, .int .u8 0, .int .u8 0, .int .u8 0, .int .u8 0, .int .u8 0, .int .u8 0, .int .u8 0, .int .u8 0, .int .u8 0, .int .u8 0, .int .u8 0, .int .u8 0, .int .u8 0, .int .u8 0, .int .u8 0, .int .u8 0, .int .u8 0] : Array Value) = cs
    have hc0 : ∀ j, j < 24 → cs[j]? = some (.int .u8 0) := by
      have : cs = Array.replicate 24 (.int .u8 0) := by rw [← hcs]; rfl
      intro j hj
      rw [this]; simp [hj]
    have f1 : Fr (fun _ => False) h (h.push (.cells cs T.a24_uint8)) := Fr.push _ _
    have hb1 : (h.push (.cells cs T.a24_uint8))[h.size]? = some (.cells cs T.a24_uint8 (0, 0)) := push_new
    have hnd : Lib.nDigits u ≤ 20 := by have := Lib.numDigits_eq u (by omega) hu; split at this <;> omega
    refine digits_ok (tb.on f1) (by omega) hu ⟨_, rfl, ⟨by omega, by omega⟩, ?_⟩
    have es : slBase (some (⟨h.size, 0, none⟩ : Addr)) 24 0 1 = some ⟨h.size, 0, none⟩ := rfl
    rw [es, Int.toNat_natCast, Nat.sub_zero]
    refine base10_ok hb1 (fun j hj => hc0 j (by omega)) (Lib.lt_pow_nDigits u) hu (by omega) fun h2 c2 dk v2 hb2 hF hc2 s2 o2 => ⟨rfl, ⟨by omega, by omega⟩, str (Lib.decDigits u), ?_, ?_⟩
    · refine conv_str tS t8 tT (.inr ⟨_, rfl, heldL_blk hb2 (fun j v hj => ?_)⟩) (Lib.decDigits_length u).symm
      rw [Nat.zero_add]
      have hjl : j < (Lib.decDigits u).length := by have := (List.getElem?_eq_some_iff.1 hj).1; rwa [bc_len] at this
      have hjn : j < Lib.nDigits u := by rwa [Lib.decDigits_length] at hjl
      rw [hc2 j hjn, ← Lib.row_is_numeral hF j hjl, ← hj]
      unfold bc
      rw [List.getElem?_map, List.getElem?_eq_getElem hjl]; rfl
    · exact hk h2 (f1.fresh (S := fun y => y = h.size) ⟨by omega, fun y _ hn => o2 y hn⟩ (fun y e => Nat.le_of_eq e.symm))
theorem formatUint_ok {u : Nat} (tb : Tab h) (hu : u < 18446744073709551616) (hk : ∀ h', Fr (fun _ => False) h h' → R (.string ⟨(Lib.decDigits u).toArray⟩) h') : CallsH Tryz.prog F.strconv_FormatUint #[.int .u64 u, .int .i64 10] h R :=
  strconv_FormatUint.walk (format_ok tb hu fun h1 f1 => ⟨_, rfl, hk h1 f1⟩)
end Num
end Go.Proofs.YtgccegnmggjkjaaGreatDoor

/-
  What is proved here: the texts of endpoints: ref04.Digits, ref04.Text, eid.path, eid.Text. No condition.
-/
set_option maxRecDepth 100000
namespace Go.Proofs.YtgccegnmggjkjaaGreatDoor
open Go.Den
namespace Eid
variable {h h' : Heap} {R : Value → Heap → Prop}
theorem str_app (a b : List UInt8) : str a ++ str b = str (a ++ b) := by
  unfold str
  apply ByteArray.ext
  rw [ByteArray.data_append]
  simp
theorem str_size (a : List UInt8) : (str a).size = a.length := by unfold str; rfl
theorem str_self (s : ByteArray) : s = str s.data.toList := (str_data s).symm
theorem data_len (s : ByteArray) : s.data.toList.length = s.size := by rw [Array.length_toList]; rfl
def textE (x : Ev) : List UInt8 :=
  if x = .zero then [100, 116, 110, 58, 110, 111, 110, 101]
  else if x.ipn = true then [105, 112, 110, 58] ++ Lib.decDigits x.node.toNat ++ [46] ++ Lib.decDigits x.svc.toNat
  else [100, 116, 110, 58] ++ ([47, 47] ++ x.host.data.toList ++ [47] ++ x.dem.data.toList)
theorem maxi : IntKind.max .i64 = 9223372036854775807 := rfl
theorem dec_len {u : Nat} (hu : u < 18446744073709551616) : (Lib.decDigits u).length ≤ 20 := by
  rw [Lib.decDigits_length]
  by_cases h0 : u < 10
  · rw [Lib.nDigits_small h0]; omega
  · have := Lib.numDigits_eq u (by omega) hu
    split at this <;> omega
theorem text_len {x : Ev} (hr : rightE x = true) (h1 : 0 ≤ x.svc) : (textE x).length ≤ 100 := by
  unfold textE
  unfold rightE at hr
  by_cases z : x = .zero
  · rw [if_pos z]; simp
  rw [if_neg z] at hr ⊢
  by_cases hi : x.ipn = true
  · rw [if_pos hi] at hr ⊢
    have hr := of_decide_eq_true hr
    have l1 := dec_len (u := x.node.toNat) (by omega)
    have l2 := dec_len (u := x.svc.toNat) (by omega)
    simp only [List.length_append, List.length_cons, List.length_nil]; omega
  · rw [if_neg hi] at hr ⊢
    simp only [Bool.and_eq_true, decide_eq_true_eq] at hr
    simp only [List.length_append, List.length_cons, List.length_nil, data_len]; omega
theorem rdigits_ok {n : Int} (k : Nat) (e : n = (k : Int)) (hu : k < 18446744073709551616) (hk : ∀ h', Fr (fun _ => False) h h' → R (.string (str (Lib.decDigits k))) h') : CallsH Tryz.prog F.ref04_Digits #[.int .u64 n] h R := by
  have hl := dec_len hu
  refine ref04_Digits.walk ⟨fun n1 out g => ∃ (m : Nat) (d : List UInt8), n1 = (m : Int) ∧ out = str d ∧ Fr (fun _ => False) h g ∧ m < 18446744073709551616 ∧ d.length ≤ 20 ∧ ((m = 0 ∧ d ≠ [] ∧ d = Lib.decDigits k) ∨ (¬ (m = 0 ∧ d ≠ []) ∧ Lib.decDigits m ++ d = Lib.decDigits k)), fun n1 out _ => 2 * n1.toNat + (if out.size = 0 then 1 else 0), ⟨k, [], e, rfl, Fr.refl _ _, hu, by simp, .inr ⟨by simp, by simp⟩⟩, ?_⟩
  rintro _ _ g ⟨m, d, rfl, rfl, fg, hm, hd, hinv⟩
  refine JoinP.of fun J hJ => ?_
  have more : ¬ (m = 0 ∧ d ≠ []) → J true g := fun hgo => by
    subst hJ
    dsimp only
    rw [if_pos rfl]
    have hdec : Lib.decDigits m ++ d = Lib.decDigits k := by
      rcases hinv with ⟨h1, h2, _⟩ | ⟨_, h2⟩
      · exact absurd ⟨h1, h2⟩ hgo
      · exact h2
    have em : Int.tmod (m : Int) 10 = ((m % 10 : Nat) : Int) := by rw [Int.tmod_eq_emod_of_nonneg (by omega)]; omega
    have ed : Int.tdiv (m : Int) 10 = ((m / 10 : Nat) : Int) := by rw [Int.tdiv_eq_ediv_of_nonneg (by omega)]; omega
    rw [em, ed, wrap_u64_nat (by omega)]
    have eb : IntKind.wrap .u8 (IntKind.wrap .u64 (48 + ((m % 10 : Nat) : Int))) = ((UInt8.ofNat (48 + m % 10)).toNat : Int) := by
      rw [wrap_u64 (by omega) (by omega), wrap_u8 (by omega) (by omega)]
      have : (UInt8.ofNat (48 + m % 10)).toNat = 48 + m % 10 := by rw [UInt8.toNat_ofNat']; omega
      rw [this]; omega
    rw [eb]
    refine newP_of ⟨str [UInt8.ofNat (48 + m % 10)], conv_str Num.tS Num.t8 Num.tT (bs := [UInt8.ofNat (48 + m % 10)]) row_new rfl, ?_, ?_, ?_⟩
    · rw [str_size, str_size, maxi]; simp only [List.length_cons, List.length_nil]; omega
    · have hd' : ([UInt8.ofNat (48 + m % 10)] ++ d).length ≤ 20 := by
        have := congrArg List.length hdec
        rw [List.length_append] at this
        have h1 : 1 ≤ (Lib.decDigits m).length := by rw [Lib.decDigits_length]; exact Lib.nDigits_pos m
        rw [List.length_append, List.length_cons, List.length_nil]; omega
      refine ⟨m / 10, [UInt8.ofNat (48 + m % 10)] ++ d, rfl, str_app _ _, fg.tt (Fr.push _ _), by omega, hd', ?_⟩
      by_cases hs : m < 10
      · rw [Lib.decDigits_one hs] at hdec
        refine .inl ⟨by omega, by simp, ?_⟩
        rw [← hdec, Nat.mod_eq_of_lt hs]
      · rw [Lib.decDigits, dif_neg hs, List.append_assoc] at hdec
        exact .inr ⟨fun q => by omega, hdec⟩
    · rw [str_app, str_size, str_size, if_neg (by simp)]
      simp only [Int.toNat_natCast]
      by_cases hm0 : m = 0
      · have : d = [] := by
          cases d with
          | nil => rfl
          | cons a l => exact absurd ⟨hm0, by simp⟩ hgo
        subst this; subst hm0; simp
      · split <;> omega
  by_cases hm0 : m = 0
  · subst hm0
    rw [if_neg (by simp)]
    rw [nil_eq]
    by_cases hd0 : d = []
    · subst hd0; exact more (by simp)
    · have hne : ¬ str d = ⟨#[]⟩ := fun e => hd0 (by have := congrArg (fun s => s.data.toList) e; simpa [str] using this)
      rw [decide_eq_false hne]
      clear more
      subst hJ
      have : d = Lib.decDigits k := by
        rcases hinv with ⟨_, _, h3⟩ | ⟨h1, _⟩
        · exact h3
        · exact absurd ⟨rfl, hd0⟩ h1
      rw [this]
      exact hk g fg
  · rw [if_pos (decide_eq_true (by omega))]
    exact more (by omega)
theorem path_ok (x : Ev) (h1 : x.host.size ≤ 1000) (h2 : x.dem.size ≤ 1000) (hk : ∀ h', Fr (fun _ => False) h h' → R (.string (str ([47, 47] ++ x.host.data.toList ++ [47] ++ x.dem.data.toList))) h') : CallsH Tryz.prog F.eid_path #[ev5 x] h R := by
  refine eid_path.walk (eid_Eid.box fun b h3 eb hb f3 => ⟨_, cell_at hb rfl, ?_⟩)
  have e1 : (⟨#[47, 47]⟩ : ByteArray) = str [47, 47] := rfl
  have e2 : (⟨#[47]⟩ : ByteArray) = str [47] := rfl
  have l1 := data_len x.host
  have l2 := data_len x.dem
  have K := hk h3 f3
  rw [e1, e2, maxi]
  refine ⟨?_, ?_, _, cell_at hb rfl, ?_, ?_⟩
  · rw [str_size]; simp; omega
  · rw [str_self x.host, str_app, str_size, str_size]; simp; omega
  · rw [str_self x.host, str_app, str_app, str_size]; simp; omega
  · rw [str_self x.host, str_self x.dem, str_app, str_app, str_app]; exact K
theorem text_ok (x : Ev) (tb : Num.Tab h) (w1 : 0 ≤ x.svc) (hk : ∀ h', Fr (fun _ => False) h h' → R (.tuple #[.string (if rightE x = true then str (textE x) else ⟨#[]⟩), .int .i64 (if rightE x = true then 0 else 3)]) h') : CallsH Tryz.prog F.eid_Text #[ev5 x] h R := by
  refine eid_Text.walk (eid_Eid.box fun b h1 eb hb f1 => eid_Eid.ld hb (right_ok x fun h2 f2 => ⟨_, rfl, ?_⟩))
  by_cases hr : rightE x = true
  · simp only [hr, if_true] at hk
    rw [if_neg (by simpa using hr)]
    have hb2 := f2.get hb id
    have F2 := f1.tt f2
    have tb2 := tb.on F2
    refine eid_Eid.ld hb2 ⟨_, eqv' (y := .zero) (x := x) rfl rfl, ?_⟩
    unfold textE at hk
    unfold rightE at hr
    by_cases z : x = .zero
    · rw [if_pos (decide_eq_true z)]
      rw [if_pos z] at hk
      exact hk h2 F2
    rw [if_neg (by simpa using z)]
    rw [if_neg z] at hr
    simp only [if_neg z] at hk
    refine ⟨_, cell_at hb2 rfl, ?_⟩
    have e1 : (⟨#[105, 112, 110, 58]⟩ : ByteArray) = str [105, 112, 110, 58] := rfl
    have e2 : (⟨#[46]⟩ : ByteArray) = str [46] := rfl
    have e3 : (⟨#[100, 116, 110, 58]⟩ : ByteArray) = str [100, 116, 110, 58] := rfl
    by_cases hi : x.ipn = true
    · rw [if_pos hi] at hr ⊢
      simp only [if_pos hi] at hk
      have hr := of_decide_eq_true hr
      have l1 := dec_len (u := x.node.toNat) (by omega)
      have l2 := dec_len (u := x.svc.toNat) (by omega)
      have n1 : x.node = ((x.node.toNat : Nat) : Int) := by omega
      have n2 : x.svc = ((x.svc.toNat : Nat) : Int) := by omega
      rw [e1, e2, maxi]
      refine ⟨_, cell_at hb2 rfl, _, cell_at hb2 rfl, ?_⟩
      rw [n1]
      refine Num.formatUint_ok tb2 (by omega) fun h3 f3 => ⟨_, rfl, cell_at (f3.get hb2 id) rfl, ?_⟩
      have c1 : (⟨(Lib.decDigits x.node.toNat).toArray⟩ : ByteArray) = str (Lib.decDigits x.node.toNat) := rfl
      have c2 : (⟨(Lib.decDigits x.svc.toNat).toArray⟩ : ByteArray) = str (Lib.decDigits x.svc.toNat) := rfl
      rw [c1]
      refine ⟨?_, ?_, ?_⟩
      · rw [str_size, str_size]; simp; omega
      · rw [str_app, str_size, str_size]; simp; omega
      rw [n2]
      refine Num.formatUint_ok (tb2.on f3) (by omega) fun h4 f4 => ⟨_, rfl, ?_⟩
      rw [c2]
      refine ⟨?_, ?_⟩
      · rw [str_app, str_app, str_size, str_size]; simp; omega
      · rw [str_app, str_app, str_app]; exact hk h4 (F2.tt (f3.tt f4))
    · rw [if_neg hi] at hr ⊢
      simp only [if_neg hi] at hk
      simp only [Bool.and_eq_true, decide_eq_true_eq] at hr
      refine eid_Eid.ld hb2 (path_ok x (by omega) (by omega) fun h3 f3 => ⟨_, rfl, ?_⟩)
      have l1 := data_len x.host
      have l2 := data_len x.dem
      rw [e3, maxi]
      refine ⟨?_, ?_⟩
      · rw [str_size, str_size]; simp; omega
      · rw [str_app]; exact hk h3 (F2.tt f3)
  · simp only [hr, Bool.false_eq_true, if_false] at hk
    rw [if_pos (by simpa using hr)]
    exact hk h2 (f1.tt f2)
theorem rtext_ok (x : Ev) (hr : rightE x = true) (w1 : 0 ≤ x.svc) (hk : ∀ h', Fr (fun _ => False) h h' → R (.string (str (textE x))) h') : CallsH Tryz.prog F.ref04_Text #[ev5 x] h R := by
  refine ref04_Text.walk (ref04_Eid.box fun b h1 eb hb f1 => ref04_Eid.ld hb (rkind_ok x fun h2 f2 => ⟨_, rfl, ?_⟩))
  have hb2 := f2.get hb id
  have F2 := f1.tt f2
  have ek : kindE x = classE x := by unfold kindE; rw [if_pos hr]
  rw [ek]
  unfold classE
  unfold textE at hk
  unfold rightE at hr
  by_cases z : x = .zero
  · rw [if_pos z, if_pos (by decide)]
    rw [if_pos z] at hk
    exact hk h2 F2
  rw [if_neg z] at hr ⊢
  simp only [if_neg z] at hk
  have e1 : (⟨#[105, 112, 110, 58]⟩ : ByteArray) = str [105, 112, 110, 58] := rfl
  have e2 : (⟨#[46]⟩ : ByteArray) = str [46] := rfl
  have e3 : (⟨#[100, 116, 110, 58, 47, 47]⟩ : ByteArray) = str [100, 116, 110, 58, 47, 47] := rfl
  have e4 : (⟨#[47]⟩ : ByteArray) = str [47] := rfl
  by_cases hi : x.ipn = true
  · rw [if_pos hi] at hr ⊢
    simp only [if_pos hi] at hk
    have hr := of_decide_eq_true hr
    have l1 := dec_len (u := x.node.toNat) (by omega)
    have l2 := dec_len (u := x.svc.toNat) (by omega)
    rw [if_neg (by decide), if_pos (by decide), e1, e2, maxi]
    refine ⟨_, cell_at hb2 rfl, _, cell_at hb2 rfl, ?_⟩
    refine rdigits_ok x.node.toNat (by omega) (by omega) fun h3 f3 => ⟨_, rfl, cell_at (f3.get hb2 id) rfl, ?_, ?_, ?_⟩
    · rw [str_size, str_size]; simp; omega
    · rw [str_app, str_size, str_size]; simp; omega
    refine rdigits_ok x.svc.toNat (by omega) (by omega) fun h4 f4 => ⟨_, rfl, ?_, ?_⟩
    · rw [str_app, str_app, str_size, str_size]; simp; omega
    · rw [str_app, str_app, str_app]; exact hk h4 (F2.tt (f3.tt f4))
  · rw [if_neg hi] at hr ⊢
    simp only [if_neg hi] at hk
    simp only [Bool.and_eq_true, decide_eq_true_eq] at hr
    have l1 := data_len x.host
    have l2 := data_len x.dem
    rw [if_neg (by decide), if_neg (by decide), e3, e4, maxi]
    refine ⟨_, cell_at hb2 rfl, ?_, ?_, _, cell_at hb2 rfl, ?_, ?_⟩
    · rw [str_size]; simp; omega
    · rw [str_self x.host, str_app, str_size, str_size]; simp; omega
    · rw [str_self x.host, str_app, str_app, str_size]; simp; omega
    · rw [str_self x.host, str_self x.dem, str_app, str_app, str_app]
      have := hk h2 F2
      simpa using this
end Eid
end Go.Proofs.YtgccegnmggjkjaaGreatDoor

/-
  What is proved here: plain facts on numbers written with seven bits a byte, there and back. No program in sight. No condition.
-/
set_option maxRecDepth 100000
namespace Go.Fields

/-- a number's bytes; so many at most, and one -/
def encN : Nat → Nat → List UInt8
  | 0, n => [UInt8.ofNat n]
  | f + 1, n => if n > 127 then UInt8.ofNat (n % 128 + 128) :: encN f (n / 128) else [UInt8.ofNat n]
def encNum (n : Nat) : List UInt8 := encN 9 n
theorem encN_mono : ∀ (f n : Nat), n < 128 ^ (f + 1) → encN (f + 1) n = encN f n
  | 0, n, h => by
    unfold encN
    rw [if_neg (by omega)]
  | f + 1, n, h => by
    rw [show encN (f + 1 + 1) n = if n > 127 then UInt8.ofNat (n % 128 + 128) :: encN (f + 1) (n / 128) else [UInt8.ofNat n] from rfl,
      show encN (f + 1) n = if n > 127 then UInt8.ofNat (n % 128 + 128) :: encN f (n / 128) else [UInt8.ofNat n] from rfl]
    split
    · rw [encN_mono f (n / 128) (by rw [Nat.pow_succ] at h; omega)]
    · rfl
theorem encNum_step {n : Nat} (h : n < 18446744073709551616) : encNum n = if n > 127 then UInt8.ofNat (n % 128 + 128) :: encNum (n / 128) else [UInt8.ofNat n] := by
  unfold encNum
  rw [encN]
  split
  · rw [← encN_mono 8 (n / 128) (by omega)]
  · rfl
theorem encN_len : ∀ (f n : Nat), 1 ≤ (encN f n).length ∧ (encN f n).length ≤ f + 1
  | 0, n => by simp [encN]
  | f + 1, n => by
    have := encN_len f (n / 128)
    rw [encN]; split
    · simp only [List.length_cons]; omega
    · simp
theorem encNum_len (n : Nat) : 1 ≤ (encNum n).length ∧ (encNum n).length ≤ 10 := encN_len 9 n
/-- how many bytes -/
def sizeN : Nat → Nat → Nat
  | 0, _ => 1
  | f + 1, n => if n > 127 then sizeN f (n / 128) + 1 else 1
theorem encN_size : ∀ (f n : Nat), (encN f n).length = sizeN f n
  | 0, n => rfl
  | f + 1, n => by
    rw [encN, sizeN]; split
    · rw [List.length_cons, encN_size]
    · rfl
theorem sizeN_mono : ∀ (f n m : Nat), n ≤ m → sizeN f n ≤ sizeN f m
  | 0, _, _, _ => Nat.le_refl _
  | f + 1, n, m, h => by
    rw [sizeN, sizeN]
    have := sizeN_mono f (n / 128) (m / 128) (Nat.div_le_div_right h)
    split
    · rw [if_pos (by omega)]; omega
    · split <;> omega

/-- a number is read: what it is, the fault, what is left -/
def rdN : Nat → Nat → List UInt8 → Nat × Int × List UInt8
  | _, _, [] => (0, 8, [])
  | i, n, c :: bs =>
    if i = 10 ∨ (i = 9 ∧ c.toNat > 1) ∨ (c.toNat = 0 ∧ i > 0) then (0, 3, bs)
    else if c.toNat < 128 then (n + c.toNat % 128 * 2 ^ (7 * i), 0, bs)
    else rdN (i + 1) (n + c.toNat % 128 * 2 ^ (7 * i)) bs
def readNum (e : Int) (bs : List UInt8) : Nat × Int × List UInt8 := if e = 0 then rdN 0 0 bs else (0, e, bs)

theorem rdN_lt : ∀ (bs : List UInt8) (i n : Nat), i ≤ 10 → n < 2 ^ (7 * i) → n < 18446744073709551616 → (rdN i n bs).1 < 18446744073709551616
  | [], _, _, _, _, _ => by simp [rdN]
  | c :: bs, i, n, hi, hn, hn2 => by
    rw [rdN]
    split
    · simp
    · rename_i hno
      have hc : c.toNat % 128 < 128 := Nat.mod_lt _ (by omega)
      have hsum : n + c.toNat % 128 * 2 ^ (7 * i) < 18446744073709551616 ∧ n + c.toNat % 128 * 2 ^ (7 * i) < 2 ^ (7 * (i + 1)) := by
        have hp : (2 : Nat) ^ (7 * (i + 1)) = 128 * 2 ^ (7 * i) := by rw [Nat.mul_add, Nat.pow_add, Nat.mul_comm]
        have h1 : (c.toNat % 128 + 1) * 2 ^ (7 * i) ≤ 128 * 2 ^ (7 * i) := Nat.mul_le_mul_right _ (by omega)
        rw [Nat.add_mul] at h1
        refine ⟨?_, by omega⟩
        by_cases h9 : i = 9
        · subst h9
          have : c.toNat ≤ 1 := by omega
          have : c.toNat % 128 ≤ 1 := by omega
          omega
        · have : (2 : Nat) ^ (7 * (i + 1)) ≤ 2 ^ 63 := Nat.pow_le_pow_right (by omega) (by omega)
          omega
      split
      · exact hsum.1
      · exact rdN_lt bs (i + 1) _ (by omega) hsum.2 hsum.1
theorem readNum_lt (e : Int) (bs : List UInt8) : (readNum e bs).1 < 18446744073709551616 := by
  unfold readNum
  split
  · exact rdN_lt bs 0 0 (by omega) (by simp) (by omega)
  · simp
theorem rdN_len : ∀ (bs : List UInt8) (i n : Nat), (rdN i n bs).2.2.length ≤ bs.length
  | [], _, _ => by simp [rdN]
  | c :: bs, i, n => by
    rw [rdN]
    split
    · simp
    · split
      · simp
      · have := rdN_len bs (i + 1) (n + c.toNat % 128 * 2 ^ (7 * i)); simp only [List.length_cons]; omega

/-- there and back -/
theorem rdN_enc : ∀ (f n i acc : Nat) (rest : List UInt8), i + f = 9 → n * 2 ^ (7 * i) < 18446744073709551616 → (n = 0 → i = 0) → rdN i acc (encN f n ++ rest) = (acc + n * 2 ^ (7 * i), 0, rest)
  | 0, n, i, acc, rest, hf, hn, h0 => by
    have hi : i = 9 := by omega
    subst hi
    have hn2 : n < 2 := by
      have : n * 2 ^ 63 < 2 * 2 ^ 63 := hn
      exact Nat.lt_of_mul_lt_mul_right this
    have hne : n ≠ 0 := fun e => by have := h0 e; omega
    obtain rfl : n = 1 := by omega
    simp [encN, rdN]
  | f + 1, n, i, acc, rest, hf, hn, h0 => by
    have hp : (2 : Nat) ^ (7 * (i + 1)) = 128 * 2 ^ (7 * i) := by rw [Nat.mul_add, Nat.pow_add, Nat.mul_comm]
    have hn' : n < 18446744073709551616 := by
      have : n * 1 ≤ n * 2 ^ (7 * i) := Nat.mul_le_mul_left _ (Nat.two_pow_pos _)
      omega
    rw [encN]
    split
    · rename_i hgt
      rw [List.cons_append, rdN]
      have hc : (UInt8.ofNat (n % 128 + 128)).toNat = n % 128 + 128 := by rw [UInt8.toNat_ofNat']; omega
      rw [hc, if_neg (by omega), if_neg (by omega)]
      have e1 : (n % 128 + 128) % 128 = n % 128 := by omega
      have hdm : n = 128 * (n / 128) + n % 128 := (Nat.div_add_mod n 128).symm
      rw [rdN_enc f (n / 128) (i + 1) _ rest (by omega) ?_ (fun e => by omega), e1]
      · refine Prod.ext ?_ rfl
        simp only
        rw [hp]
        have : n / 128 * (128 * 2 ^ (7 * i)) = (128 * (n / 128)) * 2 ^ (7 * i) := by rw [Nat.mul_comm 128 (n / 128), Nat.mul_assoc]
        rw [this, Nat.add_assoc, ← Nat.add_mul, Nat.add_comm (n % 128), ← hdm]
      · rw [hp]
        have : n / 128 * (128 * 2 ^ (7 * i)) = (128 * (n / 128)) * 2 ^ (7 * i) := by rw [Nat.mul_comm 128 (n / 128), Nat.mul_assoc]
        rw [this]
        refine Nat.lt_of_le_of_lt (Nat.mul_le_mul_right _ ?_) hn
        omega
    · rename_i hle
      rw [List.cons_append, List.nil_append, rdN]
      have hc : (UInt8.ofNat n).toNat = n := by rw [UInt8.toNat_ofNat']; omega
      rw [hc, if_neg (by omega), if_pos (by omega), Nat.mod_eq_of_lt (by omega)]
theorem readNum_enc {n : Nat} (hn : n < 18446744073709551616) (rest : List UInt8) : readNum 0 (encNum n ++ rest) = (n, 0, rest) := by
  unfold readNum encNum
  rw [if_pos rfl, rdN_enc 9 n 0 0 rest (by omega) (by simpa using hn) (fun _ => rfl)]
  simp
theorem encNum_inj {n m : Nat} (hn : n < 18446744073709551616) (hm : m < 18446744073709551616) (h : encNum n = encNum m) : n = m := by
  have h1 := readNum_enc hn []
  have h2 := readNum_enc hm []
  rw [h, h2] at h1
  exact (congrArg Prod.fst h1).symm
/-- cut, it is too short -/
theorem rdN_cut : ∀ (f n i acc k : Nat), i + f = 9 → n < 18446744073709551616 → (n * 2 ^ (7 * i) < 18446744073709551616) → k < (encN f n).length → rdN i acc ((encN f n).take k) = (0, 8, [])
  | f, n, i, acc, 0, _, _, _, _ => by simp [rdN]
  | 0, n, i, acc, k + 1, _, _, _, hk => by simp [encN] at hk
  | f + 1, n, i, acc, k + 1, hf, hn, hn2, hk => by
    rw [encN] at hk ⊢
    split at hk
    · rename_i hgt
      rw [if_pos hgt, List.take_succ_cons, rdN]
      have hc : (UInt8.ofNat (n % 128 + 128)).toNat = n % 128 + 128 := by rw [UInt8.toNat_ofNat']; omega
      have hp : (2 : Nat) ^ (7 * (i + 1)) = 128 * 2 ^ (7 * i) := by rw [Nat.mul_add, Nat.pow_add, Nat.mul_comm]
      rw [hc, if_neg (by omega), if_neg (by omega)]
      refine rdN_cut f (n / 128) (i + 1) _ k (by omega) (by omega) ?_ (by simpa using hk)
      rw [hp]
      have : n / 128 * (128 * 2 ^ (7 * i)) = (128 * (n / 128)) * 2 ^ (7 * i) := by rw [Nat.mul_comm 128 (n / 128), Nat.mul_assoc]
      rw [this]
      refine Nat.lt_of_le_of_lt (Nat.mul_le_mul_right _ ?_) hn2
      omega
    · simp at hk
theorem readNum_cut {n k : Nat} (hn : n < 18446744073709551616) (hk : k < (encNum n).length) : readNum 0 ((encNum n).take k) = (0, 8, []) := by
  unfold readNum encNum at *
  rw [if_pos rfl]
  exact rdN_cut 9 n 0 0 k (by omega) hn (by simpa using hn) hk
end Go.Fields

/-
  What is proved here: plain facts on numbers, truths and texts that are written and read. No program in sight. No condition.
-/
set_option maxRecDepth 100000
namespace Go.Fields

/-- a whole number as it is written -/
def natOf (n : Int) : Nat := n.toNat
def bit (b : Bool) : Nat := if b = true then 1 else 0
def encText (t : List UInt8) : List UInt8 := encNum t.length ++ t
/-- what a fault becomes -/
def failE (e e' : Int) : Int := if e = 0 then e' else e
/-- a number that is at most another one -/
def readMost (top : Nat) (e : Int) (bs : List UInt8) : Nat × Int × List UInt8 :=
  if (readNum e bs).1 > top then (0, failE (readNum e bs).2.1 3, (readNum e bs).2.2) else readNum e bs
theorem readMost_le (top : Nat) (e : Int) (bs : List UInt8) : (readMost top e bs).1 ≤ top := by
  unfold readMost
  split
  · exact Nat.zero_le _
  · rename_i h; exact Nat.le_of_not_lt h
def readInt (e : Int) (bs : List UInt8) : Nat × Int × List UInt8 := readMost 1099511627776 e bs
/-- a text is read -/
def readText (e : Int) (bs : List UInt8) : List UInt8 × Int × List UInt8 :=
  if (readNum e bs).2.1 = 0 then
    (if (readNum e bs).1 > (readNum e bs).2.2.length then ([], 8, (readNum e bs).2.2)
    else ((readNum e bs).2.2.take (readNum e bs).1, 0, (readNum e bs).2.2.drop (readNum e bs).1))
  else ([], (readNum e bs).2.1, (readNum e bs).2.2)
/-- the end -/
def readEnd (e : Int) (bs : List UInt8) : Int := if e = 0 then (if bs = [] then 0 else 2) else e
/-- a number that is at most another one, as the document reads it -/
def readMost' (top : Nat) (e : Int) (bs : List UInt8) : Nat × Int × List UInt8 :=
  if (readNum e bs).1 > top then (0, 3, (readNum e bs).2.2) else readNum e bs
theorem readNum_err {e : Int} (he : e ≠ 0) (bs : List UInt8) : readNum e bs = (0, e, bs) := by unfold readNum; rw [if_neg he]
theorem readMost_enc {top n : Nat} (hn : n ≤ top) (ht : top < 18446744073709551616) (y : List UInt8) : readMost top 0 (encNum n ++ y) = (n, 0, y) := by
  unfold readMost
  rw [readNum_enc (by omega)]
  rw [if_neg (by show ¬ n > top; omega)]
theorem readMost_cut {top n k : Nat} (hn : n ≤ top) (ht : top < 18446744073709551616) (hk : k < (encNum n).length) : (readMost top 0 ((encNum n).take k)).2.1 = 8 := by
  unfold readMost
  rw [readNum_cut (by omega) hk]
  rw [if_neg (by show ¬ 0 > top; omega)]
theorem readMost_err {top : Nat} {e : Int} (he : e ≠ 0) (bs : List UInt8) : readMost top e bs = (0, e, bs) := by
  unfold readMost
  rw [readNum_err he, if_neg (by show ¬ 0 > top; omega)]
theorem readText_enc {t : List UInt8} (ht : t.length < 18446744073709551616) (y : List UInt8) : readText 0 (encText t ++ y) = (t, 0, y) := by
  unfold readText encText
  rw [List.append_assoc, readNum_enc ht]
  dsimp only
  rw [if_pos rfl, if_neg (by rw [List.length_append]; omega)]
  simp
theorem readText_err {e : Int} (he : e ≠ 0) (bs : List UInt8) : readText e bs = ([], e, bs) := by
  unfold readText
  rw [readNum_err he]
  dsimp only
  rw [if_neg he]
theorem readText_cut {t : List UInt8} {k : Nat} (ht : t.length < 18446744073709551616) (hk : k < (encText t).length) : (readText 0 ((encText t).take k)).2.1 = 8 := by
  unfold readText encText
  by_cases h1 : k < (encNum t.length).length
  · rw [List.take_append_of_le_length (by omega), readNum_cut ht h1]
    rfl
  · unfold encText at hk
    rw [List.length_append] at hk
    rw [List.take_append, List.take_of_length_le (by omega), readNum_enc ht]
    dsimp only
    rw [if_pos rfl, if_pos (by rw [List.length_take]; omega)]
theorem bit_le (b : Bool) : bit b ≤ 1 := by unfold bit; split <;> omega
theorem readNum_len (e : Int) (bs : List UInt8) : (readNum e bs).2.2.length ≤ bs.length := by
  unfold readNum; split
  · exact rdN_len bs 0 0
  · exact Nat.le_refl _
theorem readMost_len (top : Nat) (e : Int) (bs : List UInt8) : (readMost top e bs).2.2.length ≤ bs.length := by
  unfold readMost; split <;> exact readNum_len e bs
theorem readText_len (e : Int) (bs : List UInt8) : (readText e bs).2.2.length ≤ bs.length ∧ (readText e bs).1.length ≤ bs.length := by
  have := readNum_len e bs
  unfold readText
  split
  · split
    · exact ⟨this, by simp⟩
    · refine ⟨by rw [List.length_drop]; omega, by rw [List.length_take]; omega⟩
  · exact ⟨this, by simp⟩
end Go.Fields

/-
  What is proved here: what the functions of package fields do to bytes, writers and readers in memory. No condition.
-/
set_option maxRecDepth 100000
namespace Go.Proofs.YtgccegnmggjkjaaGreatDoor
open Go.Den Go.Fields
namespace Fld

variable {h h0 : Heap} {w r : Nat} {S : Nat → Prop} {bs : List UInt8} {e : Int} {R : Value → Heap → Prop}

/-! ### the writer -/
/-- w is a writer of bs; S: its blocks -/
def Wr (h : Heap) (w : Nat) (S : Nat → Prop) (bs : List UInt8) : Prop :=
  ∃ p c, h[w]? = some (.cells #[.bool true, .slice p bs.length c] T.fields_Writer (0, 0)) ∧ Own h p bs.length c 1 (bc bs) ∧ ¬ inBlk p w ∧ ∀ x, S x ↔ x = w ∨ inBlk p x
/-- w is a writer that no call made -/
def WrZ (h : Heap) (w : Nat) : Prop := h[w]? = some (.cells #[.bool false, .slice none 0 0] T.fields_Writer (0, 0))

theorem Wr.lt (H : Wr h w S bs) : ∀ x, S x → x < h.size := by
  obtain ⟨p, c, hb, o, _, hs⟩ := H
  intro x hx
  rcases (hs x).1 hx with rfl | hx
  · exact lt_of_get hb
  · exact o.blk_lt hx
theorem Wr.frame {Q : Nat → Prop} {h' : Heap} (H : Wr h w S bs) (hf : Fr Q h h') (hn : ∀ x, S x → ¬ Q x) : Wr h' w S bs := by
  obtain ⟨p, c, hb, o, hw, hs⟩ := H
  exact ⟨p, c, hf.get hb (hn w ((hs w).2 (.inl rfl))), o.frame hf (fun x hx => hn x ((hs x).2 (.inr hx))), hw, hs⟩
theorem Wr.self (H : Wr h w S bs) : S w := by
  obtain ⟨p, c, _, _, _, hs⟩ := H; exact (hs w).2 (.inl rfl)

theorem new_ok (hk : ∀ h' w S, Wr h' w S [] → Fr (fun _ => False) h h' → (∀ x, S x → h.size ≤ x) → R (.pointer (some ⟨w, 0, none⟩)) h') : CallsH Tryz.prog F.fields_New #[] h R := by
  refine fields_New.walk (newP_of ?_)
  refine hk _ _ (fun x => x = h.size) ⟨none, 0, push_new, .nil rfl rfl rfl rfl, (fun ⟨a, e, _⟩ => by cases e), fun x => ?_⟩ (Fr.push _ _) (fun x hx => by omega)
  constructor
  · exact .inl
  · rintro (hx | ⟨a, e, _⟩)
    · exact hx
    · cases e

theorem Wr.store {p p' : Option Addr} {c c' n : Nat} {h1 : Heap} {cs : List UInt8} {K : Heap → Prop} (hb : h[w]? = some (.cells #[.bool true, .slice p bs.length c] T.fields_Writer (0, 0))) (hw : ¬ inBlk p w) (hs : ∀ x, S x ↔ x = w ∨ inBlk p x)
    (o : Own h1 p' (bs.length + n) c' 1 (bc bs ++ bc cs)) (f : Fr (inBlk p) h h1) (g : ∀ x, inBlk p' x → inBlk p x ∨ h.size ≤ x) (hn : n = cs.length)
    (hk : ∀ h' S', Wr h' w S' (bs ++ cs) → Step S h S' h' → K h') : StoreP h1 ⟨w, 1, none⟩ (.slice p' (bs.length + n) c') K := by
  subst hn
  have hb1 := f.get hb hw
  have hlt := lt_of_get hb
  have hw' : ¬ inBlk p' w := fun hx => (g w hx).elim hw (fun h2 => by omega)
  refine storeP_blk hb1 (by simp) fun h' k1 k2 k3 => ?_
  have f2 : Fr (fun x => x = w) h1 h' := Fr.of_eq k2 k3
  refine hk h' (fun x => x = w ∨ inBlk p' x) ⟨p', c', ?_, ?_, hw', fun x => Iff.rfl⟩ ⟨?_, ?_⟩
  · rw [k1, List.length_append]; rfl
  · rw [List.length_append, bc_append]
    exact o.frame f2 (fun x hx e => hw' (e ▸ hx))
  · exact f.trans f2 (fun x _ hx => (hs x).2 (.inr hx)) (fun x _ hx => (hs x).2 (.inl hx))
  · rintro x (hx | hx)
    · exact .inl ((hs x).2 (.inl hx))
    · exact (g x hx).imp (fun h2 => (hs x).2 (.inr h2)) id

theorem Wr.push {x : Int} {b : UInt8} {K : Heap → Prop} (H : Wr h w S bs) (hl : bs.length ≤ 1099511627786) (hx : x = (b.toNat : Int)) (hk : ∀ h' S', Wr h' w S' (bs ++ [b]) → Step S h S' h' → K h') :
    ∃ (p : Option Addr) (l c : Nat), hcell h ⟨w, 1, none⟩ = some (.slice p l c) ∧
    NewP h (.cells #[.int .u8 x] T.uint8) fun b h_1 =>
    denSem Tryz.prog (Builtin.append_ #[T.s_uint8, T.s_uint8] T.s_uint8 #[.slice p l c, .slice (some ⟨b, 0, none⟩) 1 1]) h_1 fun v h_2 =>
    ∃ (q : Option Addr) (m d : Nat), v = .slice q m d ∧ StoreP h_2 ⟨w, 1, none⟩ (.slice q m d) K := by
  obtain ⟨p, c, hb, o, hw, hs⟩ := H
  refine ⟨p, bs.length, c, cell_at hb rfl, ?_⟩
  refine den_append1 tU uU o rfl (fun v hv => by simp at hv; subst hv; rfl) (by omega) (by omega) ?_
  intro p' c' h1 o1 f1 g1
  subst hx
  exact ⟨_, _, _, rfl, Wr.store (cs := [b]) hb hw hs o1 f1 g1 rfl hk⟩

def numI (h0 : Heap) (w : Nat) (S0 : Nat → Prop) (bs : List UInt8) (n0 : Nat) (n : Int) (h : Heap) : Prop :=
  ∃ (m : Nat) (S : Nat → Prop) (d : List UInt8), n = (m : Int) ∧ m < 18446744073709551616 ∧ Wr h w S (bs ++ d) ∧ d ++ encNum m = encNum n0 ∧ Step S0 h0 S h

theorem num_ok {n : Int} (k : Nat) (H : Wr h w S bs) (hl : bs.length ≤ 1099511627776) (e : n = (k : Int)) (hn : k < 18446744073709551616)
    (hk : ∀ h' S', Wr h' w S' (bs ++ encNum k) → Step S h S' h' → R (.pointer (some ⟨w, 0, none⟩)) h') : CallsH Tryz.prog F.fields_Writer_Num #[.pointer (some ⟨w, 0, none⟩), .int .u64 n] h R := by
  subst e
  refine fields_Writer_Num.walk ?_
  obtain ⟨p, c, hb, _⟩ := id H
  refine JoinP.of fun J hJ => ⟨true, cell_at hb rfl, ?_⟩
  subst hJ
  simp only [Bool.not_true, Bool.false_eq_true, if_false]
  clear hb
  refine ⟨numI h w S bs k, fun n _ => n.toNat, ⟨k, S, [], rfl, hn, by simpa using H, rfl, Step.refl _ _⟩, ?_⟩
  rintro _ h2 ⟨m, S2, d, rfl, hm, H2, hd, st⟩
  have hdl : d.length ≤ 10 := by
    have := congrArg List.length hd
    rw [List.length_append] at this
    have := (encNum_len k).2
    omega
  by_cases hgt : (m : Int) > 127
  · simp only [hgt, decide_true, if_true]
    refine H2.push (by rw [List.length_append]; omega) (or128 m) fun h5 S5 H5 st5 => ?_
    rw [shr7]
    refine ⟨⟨m / 128, S5, d ++ [UInt8.ofNat (m % 128 + 128)], rfl, by omega, by rwa [List.append_assoc] at H5, ?_, st.trans st5⟩, ?_⟩
    · rw [← hd, encNum_step hm, if_pos (by omega)]; simp
    · show Int.toNat ((m / 128 : Nat) : Int) < Int.toNat (m : Int)
      omega
  · simp only [hgt, decide_false, Bool.false_eq_true, if_false]
    refine H2.push (by rw [List.length_append]; omega) (b := UInt8.ofNat m) (by rw [wrap_u8_nat, UInt8.toNat_ofNat']) fun h5 S5 H5 st5 => ?_
    refine hk h5 S5 ?_ (st.trans st5)
    rwa [← hd, encNum_step hm, if_neg (by omega), ← List.append_assoc]
theorem num_zero {n : Int} (H : WrZ h w) (hk : R (.pointer (some ⟨w, 0, none⟩)) h) : CallsH Tryz.prog F.fields_Writer_Num #[.pointer (some ⟨w, 0, none⟩), .int .u64 n] h R := by
  refine fields_Writer_Num.walk (JoinP.of fun J hJ => ⟨false, cell_at H rfl, ?_⟩)
  subst hJ
  exact hk
theorem num_nil {n : Int} (hk : R (.pointer none) h) : CallsH Tryz.prog F.fields_Writer_Num #[.pointer none, .int .u64 n] h R :=
  fields_Writer_Num.nil.walk hk
theorem max0 (n : Int) (h2 : n ≤ 9223372036854775807) : IntKind.wrap .u64 (if 0 > n then 0 else n) = ((natOf n : Nat) : Int) := by
  unfold natOf
  split
  · rw [wrap_u64 (by omega) (by omega)]; omega
  · rw [wrap_u64 (by omega) (by omega)]; omega
theorem int_ok {n : Int} (H : Wr h w S bs) (hl : bs.length ≤ 1099511627776) (hn : n ≤ 9223372036854775807)
    (hk : ∀ h' S', Wr h' w S' (bs ++ encNum (natOf n)) → Step S h S' h' → R (.pointer (some ⟨w, 0, none⟩)) h') : CallsH Tryz.prog F.fields_Writer_Int #[.pointer (some ⟨w, 0, none⟩), .int .i64 n] h R :=
  fields_Writer_Int.walk (num_ok (natOf n) H hl (max0 n hn) (by unfold natOf; omega) fun h' S' H' st => ⟨_, rfl, hk h' S' H' st⟩)
theorem int_nil {n : Int} (hk : R (.pointer none) h) : CallsH Tryz.prog F.fields_Writer_Int #[.pointer none, .int .i64 n] h R :=
  fields_Writer_Int.nil.walk (num_nil ⟨_, rfl, hk⟩)
theorem bool_ok {b : Bool} (H : Wr h w S bs) (hl : bs.length ≤ 1099511627776)
    (hk : ∀ h' S', Wr h' w S' (bs ++ encNum (bit b)) → Step S h S' h' → R (.pointer (some ⟨w, 0, none⟩)) h') : CallsH Tryz.prog F.fields_Writer_Bool #[.pointer (some ⟨w, 0, none⟩), .bool b] h R := by
  refine fields_Writer_Bool.walk ?_
  unfold fields_Writer_Bool.vc
  cases b
  all_goals simp only [if_true, Bool.false_eq_true, if_false]
  · exact num_ok 0 H hl rfl (by omega) fun h' S' H' st => ⟨_, rfl, hk h' S' H' st⟩
  · exact num_ok 1 H hl rfl (by omega) fun h' S' H' st => ⟨_, rfl, hk h' S' H' st⟩
theorem bool_nil {b : Bool} (hk : R (.pointer none) h) : CallsH Tryz.prog F.fields_Writer_Bool #[.pointer none, .bool b] h R := by
  refine fields_Writer_Bool.nil.walk ?_
  unfold fields_Writer_Bool.nil.vc
  cases b
  all_goals simp only [if_true, Bool.false_eq_true, if_false]
  all_goals exact num_nil ⟨_, rfl, hk⟩
theorem text_ok' {p : Option Addr} {n c : Nat} {t : List UInt8} (H : Wr h w S bs) (hl : bs.length ≤ 1099511627776) (hr : Row h p (bc t)) (hn : n = t.length) (ht : t.length ≤ 1099511627776) (hp : ∀ x, inBlk p x → t ≠ [] → ¬ S x)
    (hk : ∀ h' S', Wr h' w S' (bs ++ encText t) → Step S h S' h' → R (.pointer (some ⟨w, 0, none⟩)) h') : CallsH Tryz.prog F.fields_Writer_Text #[.pointer (some ⟨w, 0, none⟩), .slice p n c] h R := by
  subst hn
  refine fields_Writer_Text.walk (num_ok t.length H hl (wrap_u64 (by omega) (by omega)) (by omega) fun h1 S1 H1 st1 => ⟨_, rfl, ?_⟩)
  obtain ⟨q, d, hb, o, hw, hs⟩ := H1
  refine JoinP.of fun J hJ => ⟨true, cell_at hb rfl, ?_⟩
  subst hJ
  refine JoinP.of fun J hJ => ?_
  simp only [if_true]
  subst hJ
  refine ⟨q, _, d, cell_at hb rfl, ?_⟩
  have hlen := (encNum_len t.length).2
  rw [List.length_append]
  rw [List.length_append] at o
  refine den_append tU uU o (by
    by_cases hne : t = []
    · rw [hne]; exact .inl rfl
    · exact hr.frame st1.fr (fun a e hx => hp _ ⟨a, e, rfl⟩ hne hx)) (by rw [bc_len, Nat.mul_one]) (bc_one t) (by omega) (by omega) ?_
  intro p' c' h' o1 _ f2 g
  refine ⟨_, _, _, rfl, ?_⟩
  rw [List.length_append] at hb
  have := Wr.store (n := t.length) (cs := t) (K := fun h_5 => R (Value.pointer (some { block := w, off := 0 })) h_5) (bs := bs ++ encNum t.length) (by rw [List.length_append]; exact hb) hw hs (by rw [List.length_append]; exact o1) f2 g rfl fun h2 S2 H2 st2 => ?_
  · rw [List.length_append] at this
    exact this
  · exact hk h2 S2 (by unfold encText; rwa [List.append_assoc] at H2) (st1.trans st2)
theorem text_ok {p : Option Addr} {n c : Nat} {t : List UInt8} (H : Wr h w S bs) (hl : bs.length ≤ 1099511627776) (hr : Row h p (bc t)) (hn : n = t.length) (ht : t.length ≤ 1099511627776) (hp : ∀ x, inBlk p x → ¬ S x)
    (hk : ∀ h' S', Wr h' w S' (bs ++ encText t) → Step S h S' h' → R (.pointer (some ⟨w, 0, none⟩)) h') : CallsH Tryz.prog F.fields_Writer_Text #[.pointer (some ⟨w, 0, none⟩), .slice p n c] h R :=
  text_ok' H hl hr hn ht (fun x hx _ => hp x hx) hk
theorem text_zero {p : Option Addr} {n c : Nat} (H : WrZ h w) (hk : R (.pointer (some ⟨w, 0, none⟩)) h) : CallsH Tryz.prog F.fields_Writer_Text #[.pointer (some ⟨w, 0, none⟩), .slice p n c] h R := by
  refine fields_Writer_Text.walk (num_zero H ⟨_, rfl, JoinP.of fun J hJ => ⟨false, cell_at H rfl, ?_⟩⟩)
  subst hJ
  exact hk
theorem text_nil {p : Option Addr} {n c : Nat} (hk : R (.pointer none) h) : CallsH Tryz.prog F.fields_Writer_Text #[.pointer none, .slice p n c] h R :=
  fields_Writer_Text.nil.walk (num_nil ⟨_, rfl, hk⟩)
theorem bytes_ok (H : Wr h w S bs) (hl : bs.length ≤ 70368744177664)
    (hk : ∀ p' c' h', Own h' p' bs.length c' 1 (bc bs) → Fr (fun _ => False) h h' → (∀ x, inBlk p' x → h.size ≤ x) → R (.slice p' bs.length c') h') : CallsH Tryz.prog F.fields_Writer_Bytes #[.pointer (some ⟨w, 0, none⟩)] h R := by
  obtain ⟨p, c, hb, o, hw, hs⟩ := H
  exact fields_Writer_Bytes.walk ⟨p, _, c, cell_at hb rfl, clone_ok o.row' rfl hl fun p' c' h' o1 f1 g1 => ⟨_, _, _, rfl, hk p' c' h' o1 f1 g1⟩⟩
theorem bytes_zero (H : WrZ h w) (hk : ∀ h', Fr (fun _ => False) h h' → R (.slice none 0 0) h') : CallsH Tryz.prog F.fields_Writer_Bytes #[.pointer (some ⟨w, 0, none⟩)] h R := by
  refine fields_Writer_Bytes.walk ⟨none, 0, 0, cell_at H rfl, ?_⟩
  refine slices_Clone_s_byte_byte.walk ?_
  exact ⟨_, _, _, rfl, hk h (Fr.refl _ _)⟩
theorem bytes_nil (hk : R (.slice none 0 0) h) : CallsH Tryz.prog F.fields_Writer_Bytes #[.pointer none] h R := fields_Writer_Bytes.nil.walk hk

/-! ### the reader -/
/-- r is a reader of bs, its fault is e; S: its blocks -/
def Rd (h : Heap) (r : Nat) (S : Nat → Prop) (e : Int) (bs : List UInt8) : Prop :=
  ∃ p c, h[r]? = some (.cells #[.int .i64 e, .bool true, .slice p bs.length c] T.fields_Reader (0, 0)) ∧ Own h p bs.length c 1 (bc bs) ∧ ¬ inBlk p r ∧ S r ∧ (∀ x, inBlk p x → S x) ∧ ∀ x, S x → x < h.size
theorem Rd.lt (H : Rd h r S e bs) : ∀ x, S x → x < h.size := by
  obtain ⟨p, c, _, _, _, _, _, hs⟩ := H; exact hs
theorem Rd.self (H : Rd h r S e bs) : S r := by
  obtain ⟨p, c, _, _, _, hs, _, _⟩ := H; exact hs
theorem Rd.frame {Q : Nat → Prop} {h' : Heap} (H : Rd h r S e bs) (hf : Fr Q h h') (hn : ∀ x, S x → ¬ Q x) : Rd h' r S e bs := by
  obtain ⟨p, c, hb, o, hr, h1, h2, h3⟩ := H
  exact ⟨p, c, hf.get hb (hn r h1), o.frame hf (fun x hx => hn x (h2 x hx)), hr, h1, h2, fun x hx => Nat.lt_of_lt_of_le (h3 x hx) hf.1⟩

theorem read_ok {p : Option Addr} {n c : Nat} (hr : Row h p (bc bs)) (hn : n = bs.length) (hl : bs.length ≤ 70368744177664)
    (hk : ∀ h' r S, Rd h' r S 0 bs → Fr (fun _ => False) h h' → (∀ x, S x → h.size ≤ x) → R (.pointer (some ⟨r, 0, none⟩)) h') : CallsH Tryz.prog F.fields_Read #[.slice p n c] h R := by
  refine fields_Read.walk (clone_ok hr hn hl fun p' c' h1 o1 f1 g1 => ⟨_, _, _, rfl, newP_of ?_⟩)
  refine hk _ _ (fun x => h.size ≤ x ∧ x ≤ h1.size) ⟨p', c', push_new, o1.frame (Fr.push (S := fun _ => False) _ _) (fun _ _ => id), ?_, ⟨f1.1, Nat.le_refl _⟩, ?_, ?_⟩ (Fr.on f1 (Fr.push _ _)) (fun x hx => hx.1)
  · intro hx; have := o1.blk_lt hx; omega
  · intro x hx; have := o1.blk_lt hx; exact ⟨g1 x hx, by omega⟩
  · intro x hx; rw [Array.size_push]; omega

theorem fail_ok {e' : Int} (H : Rd h r S e bs) (hk : ∀ h', Rd h' r S (failE e e') bs → Fr (fun x => x = r) h h' → R (.tuple #[]) h') : CallsH Tryz.prog F.fields_fault_fail #[.pointer (some ⟨r, 0, none⟩), .int .i64 e'] h R := by
  obtain ⟨p, c, hb, o, hr, h1, h2, h3⟩ := id H
  refine fields_fault_fail.walk ⟨e, cell_at hb rfl, ?_⟩
  unfold failE at hk
  by_cases h0 : e = 0
  · subst h0
    simp only [beq_self_eq_true, if_true]
    refine storeP_blk hb (by simp) fun h' k1 k2 k3 => ?_
    have f : Fr (fun x => x = r) h h' := Fr.of_eq k2 k3
    exact hk h' ⟨p, c, k1, o.frame f (fun x hx e => hr (e ▸ hx)), hr, h1, h2, fun x hx => by rw [k2]; exact h3 x hx⟩ f
  · simp only [beq_iff_eq, h0, if_false]
    simp only [h0, if_false] at hk
    exact hk h H (Fr.refl _ _)
theorem fine_ok (H : Rd h r S e bs) (hk : R (.bool (e == 0)) h) : CallsH Tryz.prog F.fields_Reader_fine #[.pointer (some ⟨r, 0, none⟩)] h R := by
  obtain ⟨p, c, hb, o, hr, h1, h2, h3⟩ := H
  exact fields_Reader_fine.walk ⟨true, cell_at hb rfl, e, cell_at hb rfl, hk⟩

def rnumI (h0 : Heap) (r : Nat) (S : Nat → Prop) (bs : List UInt8) (n i : Int) (h : Heap) : Prop :=
  ∃ (k a : Nat) (rest : List UInt8), i = (k : Int) ∧ n = (a : Int) ∧ k ≤ 10 ∧ a < 2 ^ (7 * k) ∧ a < 18446744073709551616 ∧ Rd h r S 0 rest ∧ Fr (fun x => x = r) h0 h ∧ rdN k a rest = rdN 0 0 bs

theorem rnum_ok (H : Rd h r S e bs) (hk : ∀ h', Rd h' r S (readNum e bs).2.1 (readNum e bs).2.2 → Fr (fun x => x = r) h h' → R (.int .u64 ((readNum e bs).1 : Int)) h') :
    CallsH Tryz.prog F.fields_Reader_Num #[.pointer (some ⟨r, 0, none⟩)] h R := by
  refine fields_Reader_Num.walk (JoinP.of fun J hJ => ?_)
  by_cases he : e = 0
  · subst he
    unfold readNum at hk
    rw [if_pos rfl] at hk
    refine ⟨rnumI h r S bs, fun _ i _ => 11 - i.toNat, ⟨0, 0, bs, rfl, rfl, by omega, by simp, by omega, H, Fr.refl _ _, rfl⟩, ?_⟩
    rintro _ _ h2 ⟨k, a, rest, rfl, rfl, hk10, ha, ha2, H2, f2, hrd⟩
    refine fine_ok H2 ⟨_, rfl, ?_⟩
    simp only [beq_self_eq_true, if_true]
    obtain ⟨p, c, hb, o, hr, h1, hsub, h3⟩ := id H2
    refine ⟨p, _, c, cell_at hb rfl, ?_⟩
    cases rest with
    | nil =>
      simp only [List.length_nil, Int.natCast_zero, beq_self_eq_true, if_true]
      refine fail_ok H2 fun h4 H4 f4 => ⟨rfl, ?_⟩
      subst hJ
      rw [rdN] at hrd
      rw [← hrd] at hk
      exact hk h4 H4 (f2.tt f4)
    | cons b rest =>
      have hne : ((((b :: rest).length : Nat) : Int) == 0) = false := by simp only [List.length_cons, beq_eq_false_iff_ne, ne_eq]; omega
      simp only [hne, Bool.false_eq_true, if_false]
      refine ⟨p, _, c, cell_at hb rfl, ⟨by omega, by simp only [List.length_cons]; omega⟩, ?_⟩
      obtain ⟨ab, aoff, rfl⟩ := o.some (by rw [bc_len]; simp)
      refine onSome_some.2 ⟨(b.toNat : Int), o.cell rfl, some ⟨ab, aoff, none⟩, _, c, cell_at hb rfl, ⟨by omega, by simp only [List.length_cons]; omega⟩, ?_⟩
      have o2 := o.sub (l := 1) (u := (b :: rest).length) (by simp) (Nat.le_refl _)
      have er : ((bc (b :: rest)).take ((b :: rest).length * 1)).drop (1 * 1) = bc rest := by
        simp only [Nat.mul_one]
        rw [List.take_of_length_le (by rw [bc_len]; exact Nat.le_refl _)]; rfl
      rw [er] at o2
      have el : (b :: rest).length - Int.toNat 1 = rest.length := by simp
      rw [el]
      have el2 : (b :: rest).length - 1 = rest.length := by simp
      rw [el2] at o2
      refine storeP_blk hb (by simp) fun h5 k1 k2 k3 => ?_
      have f5 : Fr (fun x => x = r) h2 h5 := Fr.of_eq k2 k3
      have H5 : Rd h5 r S 0 rest := ⟨_, _, k1, o2.frame f5 (fun x hx e => hr (e ▸ inBlk_sub hx)), fun hx => hr (inBlk_sub hx), h1, fun x hx => hsub x (inBlk_sub hx), fun x hx => by rw [k2]; exact h3 x hx⟩
      have f25 := f2.tt f5
      clear o2 k1 k2 k3 f5 er el el2 hne o hb hsub h3 hr
      have w1 : IntKind.wrap .i64 ((k : Int) * 7) = ((7 * k : Nat) : Int) := by rw [wrap_id (by omega) (by omega)]; omega
      have w2 : IntKind.wrap .i64 (7 * (k : Int)) = ((7 * k : Nat) : Int) := by rw [wrap_id (by omega) (by omega)]; omega
      have w3 : IntKind.wrap .i64 ((k : Int) + 1) = ((k + 1 : Nat) : Int) := by rw [wrap_id (by omega) (by omega)]; omega
      have hb := b.toNat_lt
      rw [rdN] at hrd
      refine JoinP.of fun J1 hJ1 => ?_
      have fin : J1 (decide (k = 10 ∨ (k = 9 ∧ b.toNat > 1) ∨ (b.toNat = 0 ∧ k > 0))) h5 := by
        subst hJ1
        by_cases hbad : k = 10 ∨ (k = 9 ∧ b.toNat > 1) ∨ (b.toNat = 0 ∧ k > 0)
        · simp only [hbad, decide_true, if_true]
          rw [if_pos hbad] at hrd
          refine fail_ok H5 fun h7 H7 f7 => ⟨rfl, ?_⟩
          subst hJ
          rw [← hrd] at hk
          exact hk h7 H7 (f25.tt f7)
        · simp only [hbad, decide_false, Bool.false_eq_true, if_false]
          rw [if_neg hbad] at hrd
          rw [w2, w3, if_neg (by omega), and128, and127]
          have hd : b.toNat % 128 * 2 ^ (7 * k) < 18446744073709551616 := by
            by_cases h9 : k = 9
            · subst h9
              have : b.toNat % 128 ≤ 1 := by omega
              have := Nat.mul_le_mul_right (2 ^ (7 * 9)) this
              omega
            · have h8 : k ≤ 8 := by omega
              have p1 : (2 : Nat) ^ (7 * k) ≤ 2 ^ 56 := Nat.pow_le_pow_right (by omega) (by omega)
              have p2 : b.toNat % 128 ≤ 127 := by omega
              have := Nat.mul_le_mul p2 p1
              omega
          have key : IntKind.wrap .u64 ((b.toNat % 128 : Nat) : Int) = ((b.toNat % 128 : Nat) : Int) := wrap_u64_nat (by omega)
          have k64 : 7 * k ≤ 64 := by omega
          rw [key, or_shl ha hd k64]
          by_cases hlt : b.toNat < 128
          · simp only [hlt, decide_true, if_true]
            rw [if_pos hlt] at hrd
            rw [← hrd] at hk
            exact hk h5 H5 f25
          · simp only [hlt, decide_false, Bool.false_eq_true, if_false]
            rw [if_neg hlt] at hrd
            have h9 : k ≤ 8 := by omega
            have p3 : (2 : Nat) ^ (7 * (k + 1)) = 128 * 2 ^ (7 * k) := by rw [Nat.mul_add, Nat.pow_add, Nat.mul_comm]
            have p4 : b.toNat % 128 + 1 ≤ 128 := by omega
            have p5 := Nat.mul_le_mul_right (2 ^ (7 * k)) p4
            rw [Nat.add_mul] at p5
            have p6 : (2 : Nat) ^ (7 * (k + 1)) ≤ 2 ^ 63 := Nat.pow_le_pow_right (by omega) (by omega)
            refine ⟨⟨k + 1, _, rest, rfl, rfl, by omega, by omega, by omega, H5, f25, hrd⟩, ?_⟩
            show 11 - Int.toNat ((k + 1 : Nat) : Int) < 11 - Int.toNat (k : Int)
            omega
      rw [w1]
      by_cases c1 : k = 10
      · subst c1; simpa using fin
      · have c1' : ((k : Int) == 10) = false := by simp only [beq_eq_false_iff_ne, ne_eq]; omega
        simp only [c1', Bool.false_eq_true, if_false]
        by_cases c2 : k = 9
        · subst c2
          by_cases c3 : b.toNat > 1
          · have c3' : (b.toNat : Int) > 1 := by omega
            have c4 : ¬ b.toNat = 0 := by omega
            simpa [c3, c3', c4] using fin
          · have c3' : ¬ (b.toNat : Int) > 1 := by omega
            by_cases c4 : b.toNat = 0
            · simpa [c3, c3', c4] using fin
            · simpa [c3, c3', c4] using fin
        · have c2' : (((7 * k : Nat) : Int) == 63) = false := by simp only [beq_eq_false_iff_ne, ne_eq]; omega
          simp only [c2', Bool.false_eq_true, if_false]
          by_cases c4 : b.toNat = 0
          · have c5 : decide ((k : Int) > 0) = decide (k > 0) := by simp
            simp only [c4, Int.natCast_zero, beq_self_eq_true, if_true, c5]
            simpa [c1, c2, c4] using fin
          · have c4' : ((b.toNat : Int) == 0) = false := by simp only [beq_eq_false_iff_ne, ne_eq]; omega
            simp only [c4', Bool.false_eq_true, if_false]
            simpa [c1, c2, c4] using fin
  · refine ⟨fun _ _ h2 => h2 = h, fun _ _ _ => 0, rfl, ?_⟩
    rintro _ _ h2 rfl
    refine fine_ok H ⟨_, rfl, ?_⟩
    have : (e == 0) = false := by simpa using he
    simp only [this, Bool.false_eq_true, if_false]
    subst hJ
    unfold readNum at hk
    rw [if_neg he] at hk
    exact hk _ H (Fr.refl _ _)

theorem most_ok (top : Nat) {t : Int} (ht : t = (top : Int)) (H : Rd h r S e bs) (hk : ∀ h', Rd h' r S (readMost top e bs).2.1 (readMost top e bs).2.2 → Fr (fun x => x = r) h h' → R (.int .u64 ((readMost top e bs).1 : Int)) h') :
    CallsH Tryz.prog F.fields_Reader_atMost #[.pointer (some ⟨r, 0, none⟩), .int .u64 t] h R := by
  subst ht
  refine fields_Reader_atMost.walk (rnum_ok H fun h1 H1 f1 => ⟨_, rfl, ?_⟩)
  unfold readMost at hk
  by_cases hgt : (readNum e bs).1 > top
  · have : ((readNum e bs).1 : Int) > (top : Int) := by omega
    simp only [this, decide_true, if_true]
    rw [if_pos hgt] at hk
    exact fail_ok H1 fun h2 H2 f2 => ⟨rfl, hk h2 H2 (f1.tt f2)⟩
  · have : ¬ ((readNum e bs).1 : Int) > (top : Int) := by omega
    simp only [this, decide_false, Bool.false_eq_true, if_false]
    rw [if_neg hgt] at hk
    exact hk h1 H1 f1
theorem rint_ok (H : Rd h r S e bs) (hk : ∀ h', Rd h' r S (readInt e bs).2.1 (readInt e bs).2.2 → Fr (fun x => x = r) h h' → R (.int .i64 ((readInt e bs).1 : Int)) h') :
    CallsH Tryz.prog F.fields_Reader_Int #[.pointer (some ⟨r, 0, none⟩)] h R :=
  fields_Reader_Int.walk (most_ok 1099511627776 rfl H fun h1 H1 f1 => ⟨_, rfl, by
    have := readMost_le 1099511627776 e bs
    rw [wrap_id (by omega) (by omega)]
    exact hk h1 H1 f1⟩)
theorem rbool_ok (H : Rd h r S e bs) (hk : ∀ h', Rd h' r S (readMost 1 e bs).2.1 (readMost 1 e bs).2.2 → Fr (fun x => x = r) h h' → R (.bool (decide ((readMost 1 e bs).1 = 1))) h') :
    CallsH Tryz.prog F.fields_Reader_Bool #[.pointer (some ⟨r, 0, none⟩)] h R :=
  fields_Reader_Bool.walk (most_ok 1 rfl H fun h1 H1 f1 => ⟨_, rfl, by
    have := hk h1 H1 f1
    have e : (((readMost 1 e bs).1 : Int) == 1) = decide ((readMost 1 e bs).1 = 1) := by
      by_cases q : (readMost 1 e bs).1 = 1
      · simp [q]
      · have : ¬ ((readMost 1 e bs).1 : Int) = 1 := by omega
        simp [q, this]
    rw [e]; exact this⟩)
theorem rtext_ok (H : Rd h r S e bs) (hl : bs.length ≤ 70368744177664)
    (hk : ∀ h' p c, Rd h' r S (readText e bs).2.1 (readText e bs).2.2 → Own h' p (readText e bs).1.length c 1 (bc (readText e bs).1) → (∀ x, inBlk p x → h.size ≤ x) → Fr (fun x => x = r) h h' → R (.slice p (readText e bs).1.length c) h') :
    CallsH Tryz.prog F.fields_Reader_Text #[.pointer (some ⟨r, 0, none⟩)] h R := by
  refine fields_Reader_Text.walk (rnum_ok H fun h1 H1 f1 => ⟨_, rfl, fine_ok H1 ⟨_, rfl, ?_⟩⟩)
  unfold readText at hk
  have hlt := readNum_lt e bs
  have hlen : (readNum e bs).2.2.length ≤ bs.length := by
    unfold readNum; split
    · exact rdN_len bs 0 0
    · exact Nat.le_refl _
  generalize readNum e bs = N at *
  obtain ⟨n, e', rest⟩ := N
  dsimp only at *
  by_cases h0 : e' = 0
  · subst h0
    simp only [beq_self_eq_true, Bool.not_true, Bool.false_eq_true, if_false]
    obtain ⟨p, c, hb, o, hr, k1, k2, k3⟩ := id H1
    refine ⟨p, _, c, cell_at hb rfl, ?_⟩
    rw [if_pos rfl] at hk
    rw [wrap_u64 (n := ((rest.length : Nat) : Int)) (by omega) (by omega)]
    by_cases hgt : n > rest.length
    · have : (n : Int) > (rest.length : Int) := by omega
      simp only [this, decide_true, if_true]
      rw [if_pos hgt] at hk
      exact fail_ok H1 fun h2 H2 f2 => ⟨rfl, hk h2 none 0 H2 (.nil rfl rfl rfl rfl) (fun x ⟨a, e, _⟩ => by cases e) (f1.tt f2)⟩
    · have : ¬ (n : Int) > (rest.length : Int) := by omega
      simp only [this, decide_false, Bool.false_eq_true, if_false]
      rw [if_neg hgt] at hk
      have hc := o.le
      refine ⟨p, _, c, cell_at hb rfl, ⟨by omega, by omega⟩, ?_⟩
      have oc := o.sub (l := 0) (u := n) (by omega) (by omega)
      simp only [Nat.mul_one, List.drop_zero, bc_take] at oc
      have etl : (rest.take n).length = n := by rw [List.length_take]; omega
      refine clone_ok oc.row' (by rw [etl]; omega) (by omega) fun p' c' h4 o4 f4 g4 => ⟨_, _, _, rfl, ?_⟩
      have H4 := H1.frame f4 (fun _ _ => id)
      obtain ⟨p2, c2, hb2, o2, hr2, k1', k2', k3'⟩ := H4
      refine ⟨p2, _, c2, cell_at hb2 rfl, ⟨by omega, by omega⟩, ?_⟩
      refine storeP_blk hb2 (by simp) fun h5 q1 q2 q3 => ?_
      have f5 : Fr (fun x => x = r) h4 h5 := Fr.of_eq q2 q3
      have os := o2.sub (l := n) (u := rest.length) (by omega) (Nat.le_refl _)
      rw [Nat.mul_one, Nat.mul_one, ← bc_len rest, List.take_length, bc_len, bc_drop] at os
      have edl : (rest.drop n).length = rest.length - n := by simp
      refine hk h5 p' c' ⟨slBase p2 c2 n 1, c2 - n, ?_, ?_, fun hx => hr2 (inBlk_sub hx), k1', fun x hx => k2' x (inBlk_sub hx), fun x hx => by rw [q2]; exact k3' x hx⟩ (o4.frame f5 (fun x hx e => ?_)) (fun x hx => ?_) (f1.tt ((f4.mono fun _ _ => False.elim).tt f5))
      · rw [edl]
        simpa using q1
      · rw [edl]
        exact os.frame f5 (fun x hx e => hr2 (e ▸ inBlk_sub hx))
      · have := g4 x hx; have := lt_of_get hb; omega
      · have := g4 x hx; have := f1.1; omega
  · have : (e' == 0) = false := by simpa using h0
    simp only [this, Bool.not_false, if_true]
    rw [if_neg h0] at hk
    exact hk h1 none 0 H1 (.nil rfl rfl rfl rfl) (fun x ⟨a, e, _⟩ => by cases e) f1
theorem rend_ok (H : Rd h r S e bs) (hk : R (.int .i64 (readEnd e bs)) h) : CallsH Tryz.prog F.fields_Reader_End #[.pointer (some ⟨r, 0, none⟩)] h R := by
  obtain ⟨p, c, hb, o, hr, k1, k2, k3⟩ := H
  refine fields_Reader_End.walk (JoinP.of fun J hJ => ⟨true, cell_at hb rfl, ?_⟩)
  subst hJ
  simp only [Bool.not_true, Bool.false_eq_true, if_false]
  refine ⟨e, cell_at hb rfl, ?_⟩
  unfold readEnd at hk
  by_cases h0 : e = 0
  · subst h0
    simp only [bne_self_eq_false, Bool.false_eq_true, if_false]
    refine ⟨p, _, c, cell_at hb rfl, ?_⟩
    rw [if_pos rfl] at hk
    cases bs with
    | nil => exact hk
    | cons b bs =>
      have : (((b :: bs).length : Nat) : Int) > 0 := by simp only [List.length_cons]; omega
      simp only [this, decide_true, if_true]
      rwa [if_neg (by simp)] at hk
  · have : (e != 0) = true := by simpa using h0
    simp only [this, if_true]
    rw [if_neg h0] at hk
    exact ⟨e, cell_at hb rfl, hk⟩
end Fld
end Go.Proofs.YtgccegnmggjkjaaGreatDoor

/-
  What is proved here: rows of records (slices of slices of bytes) in memory. No condition.
-/
set_option maxRecDepth 100000
namespace Go.Den
/-- '[]byte(s)' -/
theorem den_s2b {P : Program} {sT dT e : TypeId} {h : Heap} {s : ByteArray} {K : Value → Heap → Prop} (hs : P.underlying sT = some .string) (hd : P.underlying dT = some (.slice e)) (he : P.underlying e = some (.int .u8))
    (hk : ∀ p c h', Row h' p (bc s.data.toList) → s.size ≤ c → Fr (fun _ => False) h h' → (∀ y, inBlk p y → h.size ≤ y) → K (.slice p s.size c) h') : denSem P (convert sT dT (.string s)) h K := by
  unfold convert
  refine den_of_rd (s := underlying sT) (rd_underlying hs) ?_
  refine den_of_rd (s := underlying dT) (rd_underlying hd) ?_
  show denSem P (underlying e >>= _) h K
  refine den_of_rd (s := underlying e) (rd_underlying he) ?_
  show denSem P (Conv.stringToBytes e s) h K
  unfold Conv.stringToBytes
  rw [den_bind]
  unfold choose
  simp only [denSem, Question.forced, Bool.false_eq_true, if_false, Question.cut]
  intro tq
  generalize hcap : s.size + tq % (2 ^ 63 - s.size) = cap
  have hle : s.size ≤ cap := by omega
  generalize hcs : (s.data.map fun b => Value.int .u8 (b.toNat : Int)) ++ Array.replicate (cap - s.size) (Value.int .u8 0) = cs
  have hrow : ∀ j v, (bc s.data.toList)[j]? = some v → cs[0 + j]? = some v := fun j v hj => by
    have hjl := (List.getElem?_eq_some_iff.1 hj).1
    rw [bc_len, Array.length_toList] at hjl
    rw [← hcs, Nat.zero_add, Array.getElem?_append_left (by simpa using hjl), Array.getElem?_map, ← hj]
    unfold bc
    rw [List.getElem?_map, Array.getElem?_toList]
  show denSem P (newRow e cs >>= _) h K
  rw [den_bind]
  show denSem P (markStringish ⟨h.size, 0, none⟩ >>= fun _ => pure (.slice (some ⟨h.size, 0, none⟩) s.size cap)) (h.push (.cells cs e)) K
  rw [den_bind]
  unfold markStringish shape
  have hsh : hshape (h.push (.cells cs e)) h.size = some (e, cs.size) := by simp [hshape]
  show denSem P (match hshape (h.push (.cells cs e)) h.size with | some (_, n) => freeze { block := h.size, off := n } 1 | _ => pure ()) (h.push (.cells cs e)) _
  rw [hsh]
  show K (.slice (some ⟨h.size, 0, none⟩) s.size cap) (hfreeze (h.push (.cells cs e)) { block := h.size, off := cs.size } 1)
  unfold hfreeze
  rw [if_neg (by omega)]
  refine hk _ _ _ (.inr ⟨_, rfl, heldL_blk (c := cs) (t := e) (f := if (0 : Nat) == 0 then (cs.size, cs.size + 1) else (min 0 cs.size, max 0 (cs.size + 1))) ?_ hrow⟩) hle ⟨by simp, fun c hc _ => ?_⟩ (fun y ⟨a, ea, ey⟩ => by cases ea; exact Nat.le_of_eq ey)
  · rw [Array.getElem?_modify, if_pos rfl, push_new]; rfl
  · rw [Array.getElem?_modify, if_neg (by simp; omega), Array.getElem?_push, if_neg (by omega)]
end Go.Den
namespace Go.Proofs.YtgccegnmggjkjaaGreatDoor
open Go.Den Go.Fields
namespace Fld
variable {h h' h0 : Heap} {R : Value → Heap → Prop} {p q : Option Addr} {l c : Nat} {bs : List (List UInt8)}

theorem s2b {s : ByteArray} {K : Value → Heap → Prop} (hk : ∀ p c h', Row h' p (bc s.data.toList) → s.size ≤ c → Fr (fun _ => False) h h' → (∀ y, inBlk p y → h.size ≤ y) → K (.slice p s.size c) h') : denSem Tryz.prog (convert T.string T.s_uint8 (.string s)) h K := den_s2b uS uU u8 hk
abbrev nenc (n : BV) : List Value := [n.val]
theorem tN : SlTy Tryz.prog T.s_s_uint8 T.s_uint8 1 24 (.slice none 0 0) := ⟨by kernel_rfl, by kernel_rfl, rfl⟩
theorem uN : Tryz.prog.underlying T.s_s_uint8 = some (.slice T.s_uint8) := by kernel_rfl
theorem nenc_len (n : BV) : (nenc n).length = 1 := rfl
theorem nenc_one (xs : List BV) : ∀ v ∈ xs.flatMap nenc, oneCell v = true := by
  intro v hv
  obtain ⟨a, _, ha⟩ := List.mem_flatMap.1 hv
  simp at ha
  subst ha; rfl

/-- records that were written behind h0 -/
def BL (h0 h : Heap) (p : Option Addr) (l c : Nat) (bs : List (List UInt8)) : Prop :=
  ∃ (xs : List BV) (D : Nat → Prop), l = xs.length ∧ Own h p l c 1 (xs.flatMap nenc) ∧ xs.map BV.b = bs ∧ (∀ x ∈ xs, x.ok h D) ∧ (∀ y, D y → h0.size ≤ y ∧ y < h.size ∧ ¬ inBlk p y) ∧ ∀ y, inBlk p y → h0.size ≤ y
theorem BL.nil : BL h0 h none 0 0 [] := ⟨[], fun _ => False, rfl, .nil rfl rfl rfl rfl, rfl, (fun x hx => by cases hx), (fun y hy => hy.elim), fun y ⟨a, e, _⟩ => by cases e⟩
theorem BL.on (H : BL h0 h p l c bs) (f : Fr (fun _ => False) h h') : BL h0 h' p l c bs := by
  obtain ⟨xs, D, h1, h2, h3, h4, h5, h6⟩ := H
  exact ⟨xs, D, h1, h2.frame f (fun _ _ => id), h3, fun x hx => (h4 x hx).frame f (fun _ _ => id), fun y hy => ⟨(h5 y hy).1, Nat.lt_of_lt_of_le (h5 y hy).2.1 f.1, (h5 y hy).2.2⟩, h6⟩
theorem BL.len (H : BL h0 h p l c bs) : l = bs.length := by
  obtain ⟨xs, D, h1, _, h3, _⟩ := H
  rw [h1, ← h3, List.length_map]
theorem BL.lt (H : BL h0 h p l c bs) {y : Nat} (hy : inBlk p y) : y < h.size := by
  obtain ⟨xs, D, _, h2, _⟩ := H
  exact h2.blk_lt hy
theorem BL.mono {h1 : Heap} (H : BL h1 h p l c bs) (hz : h0.size ≤ h1.size) : BL h0 h p l c bs := by
  obtain ⟨xs, D, h1, h2, h3, h4, h5, h6⟩ := H
  exact ⟨xs, D, h1, h2, h3, h4, fun y hy => ⟨Nat.le_trans hz (h5 y hy).1, (h5 y hy).2⟩, fun y hy => Nat.le_trans hz (h6 y hy)⟩
/-- one record more -/
theorem BL.push {b : List UInt8} {q' : Option Addr} {d : Nat} {K : Value → Heap → Prop} (H : BL h0 h p l c bs) (up : h0.size ≤ h.size) (o : Own h q' b.length d 1 (bc b)) (hq : ∀ y, inBlk q' y → h0.size ≤ y ∧ ¬ inBlk p y) (hl : l ≤ 1000000)
    (hk : ∀ p' c' h', BL h0 h' p' (l + 1) c' (bs ++ [b]) → Fr (inBlk p) h h' → (∀ y, inBlk p' y → inBlk p y ∨ h.size ≤ y) → K (.slice p' (l + 1) c') h') :
    NewP h (.cells #[.slice q' b.length d] T.s_uint8) fun b' h1 => denSem Tryz.prog (Builtin.append_ #[T.s_s_uint8, T.s_s_uint8] T.s_s_uint8 #[.slice p l c, .slice (some ⟨b', 0, none⟩) 1 1]) h1 K := by
  obtain ⟨xs, D, h1, h2, h3, h4, h5, h6⟩ := H
  refine den_append1 tN uN h2 rfl (fun v hv => by simp at hv; subst hv; rfl) (by omega) (by omega) ?_
  intro p' c' h' o' f' g'
  have lt : ∀ y, inBlk q' y → y < h.size := fun y hy => o.blk_lt hy
  refine hk p' c' h' ⟨xs ++ [⟨q', d, b⟩], fun y => D y ∨ inBlk q' y, by rw [List.length_append, h1]; rfl, ?_, ?_, ?_, ?_, ?_⟩ f' g'
  · rw [List.flatMap_append]; simpa using o'
  · rw [List.map_append, h3]; rfl
  · intro x hx
    rcases List.mem_append.1 hx with hx | hx
    · exact ((h4 x hx).frame f' (fun y hy => (h5 y hy).2.2)).mono (fun y => .inl)
    · simp at hx; subst hx
      exact BV.of_own (o.frame f' (fun y hy => (hq y hy).2)) (fun y => .inr)
  · have z := f'.1
    rintro y (hy | hy)
    · exact ⟨(h5 y hy).1, by have := (h5 y hy).2.1; omega, fun hx => (g' y hx).elim (h5 y hy).2.2 (fun h2 => by have := (h5 y hy).2.1; omega)⟩
    · exact ⟨(hq y hy).1, by have := lt y hy; omega, fun hx => (g' y hx).elim (hq y hy).2 (fun h2 => by have := lt y hy; omega)⟩
  · intro y hy
    rcases g' y hy with h2 | h2
    · exact h6 y h2
    · omega
/-- what records say, row by row -/
theorem BL.rows (H : BL h0 h p l c bs) : ∃ xs : List BV, l = xs.length ∧ Row h p (xs.flatMap nenc) ∧ xs.map BV.b = bs ∧ l ≤ c ∧ ∀ x ∈ xs, Row h x.p (bc x.b) := by
  obtain ⟨xs, D, h1, h2, h3, h4, h5, h6⟩ := H
  exact ⟨xs, h1, h2.row', h3, h2.le, fun x hx => (h4 x hx).row⟩
end Fld
end Go.Proofs.YtgccegnmggjkjaaGreatDoor

/-
  Printed by a program of this work (vc.py): the verification conditions of functions, and that each is enough for the call. No condition.
-/
set_option maxRecDepth 100000
set_option maxHeartbeats 4000000
namespace Go.Proofs.YtgccegnmggjkjaaGreatDoor
open Go.Den
def law19_Same.vc (a_p : Option Addr) (a_l a_c : Nat) (b_p : Option Addr) (b_l b_c : Nat) (h : Heap) (R : Value → Heap → Prop) : Prop :=
  if (((a_l : Nat) : Int) != ((b_l : Nat) : Int)) = true then
    R (.bool false) h
  else
    ∃ (I : Int → Heap → Prop) (mu : Int → Heap → Nat), I 0 h ∧ ∀ (i : Int) (h_1 : Heap), I i h_1 →
      if (decide (i < ((a_l : Nat) : Int))) = true then
        ((0 : Int) ≤ i ∧ i < ((a_l : Nat) : Int)) ∧
        onSome a_p fun a =>
        ∃ (t20_p : Option Addr) (t20_l t20_c : Nat), hcell h_1 (a.add (Int.toNat i * 1)) = some (.slice t20_p t20_l t20_c) ∧
        ∃ (t21 : ByteArray), ConvV Tryz.prog T.s_uint8 T.string (.slice t20_p t20_l t20_c) h_1 t21 ∧
        ((0 : Int) ≤ i ∧ i < ((b_l : Nat) : Int)) ∧
        onSome b_p fun a_1 =>
        ∃ (t25_p : Option Addr) (t25_l t25_c : Nat), hcell h_1 (a_1.add (Int.toNat i * 1)) = some (.slice t25_p t25_l t25_c) ∧
        ∃ (t26 : ByteArray), ConvV Tryz.prog T.s_uint8 T.string (.slice t25_p t25_l t25_c) h_1 t26 ∧
        if (!(t21.toList == t26.toList)) = true then
          R (.bool false) h_1
        else
          (I (IntKind.wrap .i64 (i + 1)) h_1 ∧ mu (IntKind.wrap .i64 (i + 1)) h_1 < mu i h_1)
      else
        R (.bool true) h_1
theorem law19_Same.den_eq (a_p : Option Addr) (a_l a_c : Nat) (b_p : Option Addr) (b_l b_c : Nat) (h : Heap) (R : Value → Heap → Prop) : law19_Same.vc a_p a_l a_c b_p b_l b_c h R = den Tryz.prog Tryz.f20.ntmps (.seq .leaf (.seq (.seq .leaf (.cond (.seq .leaf .leaf) .leaf)) (.seq (.seq .leaf (.block (.loop [(5, .one (.int .i64))] (.seq (.seq .leaf (.cond .leaf .leaf)) (.seq (.block (.seq (.plan (.op 0 (.op 1 (.op 2 (.op 3 (.op 4 (.op 5 (.op 6 (.op 7 (.op 8 (.op 9 (.op 10 .done)))))))))))) (.cond (.seq .leaf .leaf) .leaf))) .leaf))))) (.seq .leaf .leaf)))) none (bodyOf Tryz.f20) (retK Tryz.prog Tryz.f20.results R) (argEnv [.slice a_p a_l a_c, .slice b_p b_l b_c]) h := by kernel_rfl
theorem law19_Same.walk {a_p : Option Addr} {a_l a_c : Nat} {b_p : Option Addr} {b_l b_c : Nat} {h : Heap} {R : Value → Heap → Prop} (hv : law19_Same.vc a_p a_l a_c b_p b_l b_c h R) : CallsH Tryz.prog F.law19_Same #[.slice a_p a_l a_c, .slice b_p b_l b_c] h R :=
  callsH_of_body _ Tryz.func20 rfl rfl (Eq.mp (law19_Same.den_eq a_p a_l a_c b_p b_l b_c h R) hv)

end Go.Proofs.YtgccegnmggjkjaaGreatDoor

/-
  What is proved here: rows of records that are only read; law19.Same. No condition.
-/
set_option maxRecDepth 100000
namespace Go.Proofs.YtgccegnmggjkjaaGreatDoor
open Go.Den Go.Fields
namespace Fld
variable {h h' h0 : Heap} {R : Value → Heap → Prop} {p q : Option Addr} {c d i : Nat}

/-- a row of records that is only read -/
structure Rows (h : Heap) (p : Option Addr) (l c : Nat) (xs : List BV) : Prop where
  len : l = xs.length
  row : Row h p (xs.flatMap nenc)
  cap : l ≤ c
  each : ∀ x ∈ xs, Row h x.p (bc x.b)
theorem Rows.on {l c : Nat} {xs : List BV} (H : Rows h p l c xs) (f : Fr (fun _ => False) h h') : Rows h' p l c xs :=
  ⟨H.len, H.row.frame f (fun _ _ => id), H.cap, fun x hx => (H.each x hx).frame f (fun _ _ => id)⟩
theorem BL.to_rows {h0 : Heap} {l c : Nat} {bs : List (List UInt8)} (H : BL h0 h p l c bs) : ∃ xs, Rows h p l c xs ∧ xs.map BV.b = bs := by
  obtain ⟨xs, e1, e2, e3, e4, e5⟩ := H.rows
  exact ⟨xs, ⟨e1, e2, e4, e5⟩, e3⟩
theorem same_ok {l c m d : Nat} {xs ys : List BV} (H1 : Rows h p l c xs) (H2 : Rows h q m d ys) (hm : l ≤ 1000000000) (hk : R (.bool (decide (xs.map BV.b = ys.map BV.b))) h) : CallsH Tryz.prog F.law19_Same #[.slice p l c, .slice q m d] h R := by
  obtain ⟨rfl, r1, _, e1⟩ := H1
  obtain ⟨rfl, r2, _, e2⟩ := H2
  refine law19_Same.walk ?_
  unfold law19_Same.vc
  by_cases hl : xs.length = ys.length
  · have : (((xs.length : Nat) : Int) != ((ys.length : Nat) : Int)) = false := by rw [hl]; simp
    rw [this]
    simp only [Bool.false_eq_true, if_false]
    refine ⟨fun i g => g = h ∧ ∃ k : Nat, i = (k : Int) ∧ k ≤ xs.length ∧ (xs.take k).map BV.b = (ys.take k).map BV.b, fun i _ => xs.length - i.toNat, ⟨rfl, 0, rfl, by omega, by simp⟩, ?_⟩
    rintro _ _ ⟨rfl, k, rfl, hk1, hk2⟩
    by_cases hlt : k < xs.length
    · have q1 : (k : Int) < ((xs.length : Nat) : Int) := by omega
      simp only [q1, decide_true, if_true, Int.toNat_natCast]
      have gx : xs[k]? = some xs[k] := List.getElem?_eq_getElem hlt
      have gy : ys[k]? = some (ys[k]'(by omega)) := List.getElem?_eq_getElem _
      generalize xs[k] = x at gx
      generalize ys[k]'(by omega) = y at gy
      obtain ⟨a, rfl⟩ := r1.some (by intro e; cases xs with | nil => simp at hlt | cons => simp at e)
      obtain ⟨b, rfl⟩ := r2.some (by intro e; cases ys with | nil => simp at gy | cons => simp at e)
      have cx := (r1.heldAt nenc_len gx).1
      have cy := (r2.heldAt nenc_len gy).1
      rw [add_zero_addr] at cx cy
      refine ⟨⟨by first | trivial | omega, by first | trivial | omega⟩, onSome_some.2 ⟨_, _, _, cx, _, conv (e1 x (List.mem_of_getElem? gx)) rfl, ⟨by first | trivial | omega, by first | trivial | omega⟩, onSome_some.2 ⟨_, _, _, cy, _, conv (e2 y (List.mem_of_getElem? gy)) rfl, ?_⟩⟩⟩
      rw [str_list, str_list]
      by_cases hxy : x.b = y.b
      · rw [hxy]
        simp only [beq_self_eq_true, Bool.not_true, Bool.false_eq_true, if_false]
        rw [wrap_id (by omega) (by omega)]
        refine ⟨⟨by first | trivial | rfl, k + 1, by omega, by omega, ?_⟩, by show _ - Int.toNat ((k : Int) + 1) < _; omega⟩
        rw [List.take_add_one, List.take_add_one, gx, gy, List.map_append, List.map_append, hk2]
        simp [hxy]
      · have : (x.b == y.b) = false := by simpa using hxy
        simp only [this, Bool.not_false, if_true]
        have hne : xs.map BV.b ≠ ys.map BV.b := fun e => by
          have h1 : (xs.map BV.b)[k]? = (ys.map BV.b)[k]? := by rw [e]
          rw [List.getElem?_map, List.getElem?_map, gx, gy] at h1
          exact hxy (Option.some.inj h1)
        rw [decide_eq_false hne] at hk
        exact hk
    · have q1 : ¬ (k : Int) < ((xs.length : Nat) : Int) := by omega
      simp only [q1, decide_false, Bool.false_eq_true, if_false]
      obtain rfl : k = xs.length := by omega
      rw [List.take_length, hl, List.take_length] at hk2
      rw [decide_eq_true hk2] at hk
      exact hk
  · have : (((xs.length : Nat) : Int) != ((ys.length : Nat) : Int)) = true := by simp; omega
    rw [if_pos this]
    have hne : xs.map BV.b ≠ ys.map BV.b := fun e => hl (by have := congrArg List.length e; simpa using this)
    rw [decide_eq_false hne] at hk
    exact hk
end Fld
end Go.Proofs.YtgccegnmggjkjaaGreatDoor

/-
  Printed by a program of this work (vc.py): the verification conditions of functions, and that each is enough for the call. No condition.
-/
set_option maxRecDepth 100000
set_option maxHeartbeats 4000000
namespace Go.Proofs.YtgccegnmggjkjaaGreatDoor
open Go.Den
def ref15_Num.vc (n : Int) (h : Heap) (R : Value → Heap → Prop) : Prop :=
  ∃ (I : Int → Option Addr → Nat → Nat → Heap → Prop) (mu : Int → Option Addr → Nat → Nat → Heap → Nat), I n none 0 0 h ∧ ∀ (n_1 : Int) (out_p : Option Addr) (out_l out_c : Nat) (h_1 : Heap), I n_1 out_p out_l out_c h_1 →
    if (decide (n_1 > 127)) = true then
      NewP h_1 (.cells #[.int .u8 (IntKind.wrap .u8 (IntKind.wrap .u64 (128 + (Int.tmod n_1 128))))] T.uint8) fun b h_2 =>
      denSem Tryz.prog (Builtin.append_ #[T.s_uint8, T.s_uint8] T.s_uint8 #[.slice out_p out_l out_c, .slice (some ⟨b, 0, none⟩) 1 1]) h_2 fun v h_3 =>
      ∃ (t12_p : Option Addr) (t12_l t12_c : Nat), v = .slice t12_p t12_l t12_c ∧
      (I (IntKind.wrap .u64 (Int.tdiv n_1 128)) t12_p t12_l t12_c h_3 ∧ mu (IntKind.wrap .u64 (Int.tdiv n_1 128)) t12_p t12_l t12_c h_3 < mu n_1 out_p out_l out_c h_1)
    else
      NewP h_1 (.cells #[.int .u8 (IntKind.wrap .u8 n_1)] T.uint8) fun b_1 h_4 =>
      denSem Tryz.prog (Builtin.append_ #[T.s_uint8, T.s_uint8] T.s_uint8 #[.slice out_p out_l out_c, .slice (some ⟨b_1, 0, none⟩) 1 1]) h_4 fun v_1 h_5 =>
      ∃ (t19_p : Option Addr) (t19_l t19_c : Nat), v_1 = .slice t19_p t19_l t19_c ∧
      R (.slice t19_p t19_l t19_c) h_5
theorem ref15_Num.den_eq (n : Int) (h : Heap) (R : Value → Heap → Prop) : ref15_Num.vc n h R = den Tryz.prog Tryz.f82.ntmps (.seq .leaf (.seq .leaf (.seq (.block (.loop [(0, .one (.int .u64)), (3, .one (.slice))] (.seq (.seq .leaf (.cond .leaf .leaf)) (.block (.seq .leaf .leaf))))) (.seq .leaf .leaf)))) none (bodyOf Tryz.f82) (retK Tryz.prog Tryz.f82.results R) (argEnv [.int .u64 n]) h := by kernel_rfl
theorem ref15_Num.walk {n : Int} {h : Heap} {R : Value → Heap → Prop} (hv : ref15_Num.vc n h R) : CallsH Tryz.prog F.ref15_Num #[.int .u64 n] h R :=
  callsH_of_body _ Tryz.func82 rfl rfl (Eq.mp (ref15_Num.den_eq n h R) hv)

def ref15_Text.vc (b_p : Option Addr) (b_l b_c : Nat) (h : Heap) (R : Value → Heap → Prop) : Prop :=
  CallsH Tryz.prog F.ref15_Num #[.int .u64 (IntKind.wrap .u64 ((b_l : Nat) : Int))] h fun v h_1 =>
  ∃ (t6_p : Option Addr) (t6_l t6_c : Nat), v = .slice t6_p t6_l t6_c ∧
  denSem Tryz.prog (Builtin.append_ #[T.s_uint8, T.s_uint8] T.s_uint8 #[.slice t6_p t6_l t6_c, .slice b_p b_l b_c]) h_1 fun v_1 h_2 =>
  ∃ (t8_p : Option Addr) (t8_l t8_c : Nat), v_1 = .slice t8_p t8_l t8_c ∧
  R (.slice t8_p t8_l t8_c) h_2
theorem ref15_Text.den_eq (b_p : Option Addr) (b_l b_c : Nat) (h : Heap) (R : Value → Heap → Prop) : ref15_Text.vc b_p b_l b_c h R = den Tryz.prog Tryz.f80.ntmps (.seq .leaf (.seq .leaf .leaf)) none (bodyOf Tryz.f80) (retK Tryz.prog Tryz.f80.results R) (argEnv [.slice b_p b_l b_c]) h := by kernel_rfl
theorem ref15_Text.walk {b_p : Option Addr} {b_l b_c : Nat} {h : Heap} {R : Value → Heap → Prop} (hv : ref15_Text.vc b_p b_l b_c h R) : CallsH Tryz.prog F.ref15_Text #[.slice b_p b_l b_c] h R :=
  callsH_of_body _ Tryz.func80 rfl rfl (Eq.mp (ref15_Text.den_eq b_p b_l b_c h R) hv)

end Go.Proofs.YtgccegnmggjkjaaGreatDoor

/-
  What is proved here: what the document's functions of layer 15 do that write. No condition.
-/
set_option maxRecDepth 100000
namespace Go.Proofs.YtgccegnmggjkjaaGreatDoor
open Go.Den Go.Fields
namespace Fld
variable {h h0 : Heap} {w r : Nat} {S : Nat → Prop} {bs : List UInt8} {e : Int} {R : Value → Heap → Prop}

/-! ### the document's -/
def refI (h0 : Heap) (n0 : Nat) (n : Int) (p : Option Addr) (l c : Nat) (h : Heap) : Prop :=
  ∃ (m : Nat) (d : List UInt8), n = (m : Int) ∧ m < 18446744073709551616 ∧ l = d.length ∧ Own h p l c 1 (bc d) ∧ d ++ encNum m = encNum n0 ∧ Up h0 (inBlk p) h
theorem refByte (m : Nat) : IntKind.wrap .u8 (IntKind.wrap .u64 (128 + (Int.tmod (m : Int) 128))) = ((UInt8.ofNat (m % 128 + 128)).toNat : Int) := by
  have e1 : Int.tmod (m : Int) 128 = ((m % 128 : Nat) : Int) := by rw [Int.tmod_eq_emod_of_nonneg (by omega)]; omega
  rw [e1, wrap_u64 (by omega) (by omega), UInt8.toNat_ofNat', wrap_u8 (by omega) (by omega)]; omega
theorem Up.app {h0 h h' : Heap} {p p' : Option Addr} (u : Up h0 (inBlk p) h) (f : Fr (inBlk p) h h') (g : ∀ c, inBlk p' c → inBlk p c ∨ h.size ≤ c) : Up h0 (inBlk p') h' :=
  u.step ⟨f, g⟩
theorem refNum_ok {n : Int} (k : Nat) (e : n = (k : Int)) (hn : k < 18446744073709551616) (hk : ∀ p c h', Own h' p (encNum k).length c 1 (bc (encNum k)) → Up h (inBlk p) h' → R (.slice p (encNum k).length c) h') :
    CallsH Tryz.prog F.ref15_Num #[.int .u64 n] h R := by
  subst e
  refine ref15_Num.walk ⟨refI h k, fun n _ _ _ _ => n.toNat, ⟨k, [], rfl, hn, rfl, .nil rfl rfl rfl rfl, rfl, ⟨Fr.refl _ _, fun c ⟨a, e, _⟩ => by cases e⟩⟩, ?_⟩
  rintro _ p _ c h1 ⟨m, d, rfl, hm, rfl, o, hd, u⟩
  have hdl : d.length ≤ 10 := by
    have := congrArg List.length hd
    rw [List.length_append] at this
    have := (encNum_len k).2
    omega
  by_cases hgt : (m : Int) > 127
  · simp only [hgt, decide_true, if_true]
    rw [refByte]
    refine den_append1 tU uU o rfl (fun v hv => by simp at hv; subst hv; rfl) (by omega) (by omega) ?_
    intro p' c' h2 o2 f2 g2
    have e2 : IntKind.wrap .u64 (Int.tdiv (m : Int) 128) = ((m / 128 : Nat) : Int) := by
      rw [Int.tdiv_eq_ediv_of_nonneg (by omega), wrap_u64 (by omega) (by omega)]; omega
    rw [e2]
    refine ⟨_, _, _, rfl, ⟨m / 128, d ++ [UInt8.ofNat (m % 128 + 128)], rfl, by omega, by simp, by rw [bc_append]; exact o2, ?_, Up.app u f2 g2⟩, ?_⟩
    · rw [← hd, encNum_step hm, if_pos (by omega)]; simp
    · show Int.toNat ((m / 128 : Nat) : Int) < Int.toNat (m : Int)
      omega
  · simp only [hgt, decide_false, Bool.false_eq_true, if_false]
    have e3 : IntKind.wrap .u8 (m : Int) = ((UInt8.ofNat m).toNat : Int) := by rw [wrap_u8_nat, UInt8.toNat_ofNat']
    rw [e3]
    refine den_append1 tU uU o rfl (fun v hv => by simp at hv; subst hv; rfl) (by omega) (by omega) ?_
    intro p' c' h2 o2 f2 g2
    have e4 : d ++ [UInt8.ofNat m] = encNum k := by rw [← hd, encNum_step hm, if_neg (by omega)]
    have e5 : d.length + 1 = (encNum k).length := by rw [← e4]; simp
    rw [e5] at o2 ⊢
    refine ⟨_, _, _, rfl, hk p' c' h2 ?_ (Up.app u f2 g2)⟩
    rw [← e4, bc_append, e4]; exact o2
theorem refText_ok {p : Option Addr} {n c : Nat} {t : List UInt8} (hr : Row h p (bc t)) (hn : n = t.length) (ht : t.length ≤ 1099511627776) (hk : ∀ p c h', Own h' p (encText t).length c 1 (bc (encText t)) → Up h (inBlk p) h' → R (.slice p (encText t).length c) h') :
    CallsH Tryz.prog F.ref15_Text #[.slice p n c] h R := by
  subst hn
  refine ref15_Text.walk (refNum_ok t.length (wrap_u64 (by omega) (by omega)) (by omega) fun q d h1 o1 u1 => ⟨_, _, _, rfl, ?_⟩)
  have hlen := (encNum_len t.length).2
  refine den_append tU uU o1 (hr.frame u1.fr (fun _ _ => id)) (by rw [bc_len, Nat.mul_one]) (bc_one t) (by omega) (by omega) ?_
  intro p' c' h' o2 _ f2 g
  have e : (encNum t.length).length + t.length = (encText t).length := by unfold encText; rw [List.length_append]
  rw [e] at o2 ⊢
  refine ⟨_, _, _, rfl, hk p' c' h' ?_ (Up.app u1 f2 g)⟩
  unfold encText; rw [bc_append]; exact o2

end Fld
end Go.Proofs.YtgccegnmggjkjaaGreatDoor

/-
  Printed by a program of this work (vc.py): the verification conditions of functions, and that each is enough for the call. No condition.
-/
set_option maxRecDepth 100000
set_option maxHeartbeats 4000000
namespace Go.Proofs.YtgccegnmggjkjaaGreatDoor
open Go.Den
def ref21_Table_There.vc (t : Nat) (h : Heap) (R : Value → Heap → Prop) : Prop :=
  ∃ (I : Option Addr → Nat → Nat → Int → Heap → Prop) (mu : Option Addr → Nat → Nat → Int → Heap → Nat), I none 0 0 0 h ∧ ∀ (out_p : Option Addr) (out_l out_c : Nat) (i : Int) (h_1 : Heap), I out_p out_l out_c i h_1 →
    ∃ (t9_p : Option Addr) (t9_l t9_c : Nat), hcell h_1 ⟨t, 0, none⟩ = some (.slice t9_p t9_l t9_c) ∧
    if (decide (i < ((t9_l : Nat) : Int))) = true then
      JoinP (fun (out_p_1 : Option Addr) (out_l_1 out_c_1 : Nat) (h_2 : Heap) =>
        (I out_p_1 out_l_1 out_c_1 (IntKind.wrap .i64 (i + 1)) h_2 ∧ mu out_p_1 out_l_1 out_c_1 (IntKind.wrap .i64 (i + 1)) h_2 < mu out_p out_l out_c i h_1))
      (fun J =>
        ∃ (t17_p : Option Addr) (t17_l t17_c : Nat), hcell h_1 ⟨t, 0, none⟩ = some (.slice t17_p t17_l t17_c) ∧
        ((0 : Int) ≤ i ∧ i < ((t17_l : Nat) : Int)) ∧
        onSome t17_p fun a =>
        ∃ (t21 : Int), hcell h_1 ((a.add (Int.toNat i * 11)).add 10) = some (.int .i64 t21) ∧
        JoinP (fun (out_p_2 : Option Addr) (out_l_2 out_c_2 : Nat) (h_3 : Heap) =>
          J out_p_2 out_l_2 out_c_2 h_3)
        (fun J_1 =>
          if (t21 == 0) = true then
            ∃ (t27_p : Option Addr) (t27_l t27_c : Nat), hcell h_1 ⟨t, 0, none⟩ = some (.slice t27_p t27_l t27_c) ∧
            ((0 : Int) ≤ i ∧ i < ((t27_l : Nat) : Int)) ∧
            onSome t27_p fun a_1 =>
            ref21_Copy.LD h_1 (a_1.add (Int.toNat i * 11)) fun t30_0 t30_1 t30_2 t30_3 t30_4 t30_5 t30_6_p t30_6_l t30_6_c t30_7 t30_8 t30_9 t30_10 =>
            NewP h_1 (.cells #[.int .i64 t30_0, .bool t30_1, .int .u64 t30_2, .int .u64 t30_3, .string t30_4, .string t30_5, .slice t30_6_p t30_6_l t30_6_c, .int .u64 t30_7, .int .i64 t30_8, .int .u64 t30_9, .int .i64 t30_10] T.ref21_Copy) fun b h_4 =>
            denSem Tryz.prog (Builtin.append_ #[T.s_ref21_Copy, T.s_ref21_Copy] T.s_ref21_Copy #[.slice out_p out_l out_c, .slice (some ⟨b, 0, none⟩) 1 1]) h_4 fun v h_5 =>
            ∃ (t32_p : Option Addr) (t32_l t32_c : Nat), v = .slice t32_p t32_l t32_c ∧
            J_1 t32_p t32_l t32_c h_5
          else
            J_1 out_p out_l out_c h_1))
    else
      R (.slice out_p out_l out_c) h_1
theorem ref21_Table_There.den_eq (t : Nat) (h : Heap) (R : Value → Heap → Prop) : ref21_Table_There.vc t h R = den Tryz.prog Tryz.f65.ntmps (.seq .leaf (.seq .leaf (.seq (.seq .leaf (.block (.loop [(3, .one (.slice)), (4, .one (.int .i64))] (.seq (.seq .leaf (.cond .leaf .leaf)) (.seq (.join [(3, .one (.slice))] (.block (.seq .leaf (.join [(3, .one (.slice))] (.cond .leaf .leaf))))) .leaf))))) (.seq .leaf .leaf)))) none (bodyOf Tryz.f65) (retK Tryz.prog Tryz.f65.results R) (argEnv [.pointer (some ⟨t, 0, none⟩)]) h := by kernel_rfl
theorem ref21_Table_There.walk {t : Nat} {h : Heap} {R : Value → Heap → Prop} (hv : ref21_Table_There.vc t h R) : CallsH Tryz.prog F.ref21_Table_There #[.pointer (some ⟨t, 0, none⟩)] h R :=
  callsH_of_body _ Tryz.func65 rfl rfl (Eq.mp (ref21_Table_There.den_eq t h R) hv)

def ref21_Table_is.vc (t : Nat) (i : Int) (x_0 : Bool) (x_1 : Int) (x_2 : Int) (x_3 : ByteArray) (x_4 : ByteArray) (h : Heap) (R : Value → Heap → Prop) : Prop :=
  NewP h (.cells #[.bool x_0, .int .u64 x_1, .int .u64 x_2, .string x_3, .string x_4] T.ref04_Eid) fun b h_1 =>
  ∃ (t10_p : Option Addr) (t10_l t10_c : Nat), hcell h_1 ⟨t, 0, none⟩ = some (.slice t10_p t10_l t10_c) ∧
  ((0 : Int) ≤ i ∧ i < ((t10_l : Nat) : Int)) ∧
  onSome t10_p fun a =>
  ∃ (t14 : Int), hcell h_1 ((a.add (Int.toNat i * 11)).add 10) = some (.int .i64 t14) ∧
  if (t14 == 0) = true then
    ∃ (t20_p : Option Addr) (t20_l t20_c : Nat), hcell h_1 ⟨t, 0, none⟩ = some (.slice t20_p t20_l t20_c) ∧
    ((0 : Int) ≤ i ∧ i < ((t20_l : Nat) : Int)) ∧
    onSome t20_p fun a_1 =>
    ref04_Eid.LD h_1 ((a_1.add (Int.toNat i * 11)).add 1) fun t24_0 t24_1 t24_2 t24_3 t24_4 =>
    ref04_Eid.LD h_1 ⟨b, 0, none⟩ fun t25_0 t25_1 t25_2 t25_3 t25_4 =>
    ∃ (eq : Bool), EqV Tryz.prog T.ref04_Eid (.agg #[.bool t24_0, .int .u64 t24_1, .int .u64 t24_2, .string t24_3, .string t24_4]) (.agg #[.bool t25_0, .int .u64 t25_1, .int .u64 t25_2, .string t25_3, .string t25_4]) eq ∧
    R (.bool eq) h_1
  else
    R (.bool false) h_1
theorem ref21_Table_is.den_eq (t : Nat) (i : Int) (x_0 : Bool) (x_1 : Int) (x_2 : Int) (x_3 : ByteArray) (x_4 : ByteArray) (h : Heap) (R : Value → Heap → Prop) : ref21_Table_is.vc t i x_0 x_1 x_2 x_3 x_4 h R = den Tryz.prog Tryz.f142.ntmps (.seq .leaf (.seq (.plan (.op 0 (.op 1 (.op 2 (.op 3 (.op 4 (.op 5 (.op 6 (.op 7 (.op 8 (.op 9 (.op 10 (.op 11 (.op 12 (.op 13 (.op 14 (.op 15 (.op 16 (.op 17 (.op 18 (.op 19 (.op 20 (.op 21 .done))))))))))))))))))))))) .leaf)) none (bodyOf Tryz.f142) (retK Tryz.prog Tryz.f142.results R) (argEnv [.pointer (some ⟨t, 0, none⟩), .int .i64 i, .agg #[.bool x_0, .int .u64 x_1, .int .u64 x_2, .string x_3, .string x_4]]) h := by kernel_rfl
theorem ref21_Table_is.walk {t : Nat} {i : Int} {x_0 : Bool} {x_1 : Int} {x_2 : Int} {x_3 : ByteArray} {x_4 : ByteArray} {h : Heap} {R : Value → Heap → Prop} (hv : ref21_Table_is.vc t i x_0 x_1 x_2 x_3 x_4 h R) : CallsH Tryz.prog F.ref21_Table_is #[.pointer (some ⟨t, 0, none⟩), .int .i64 i, .agg #[.bool x_0, .int .u64 x_1, .int .u64 x_2, .string x_3, .string x_4]] h R :=
  callsH_of_body _ Tryz.func142 rfl rfl (Eq.mp (ref21_Table_is.den_eq t i x_0 x_1 x_2 x_3 x_4 h R) hv)

def ref21_Table_count.vc (t : Nat) (x_0 : Bool) (x_1 : Int) (x_2 : Int) (x_3 : ByteArray) (x_4 : ByteArray) (ready : Bool) (h : Heap) (R : Value → Heap → Prop) : Prop :=
  NewP h (.cells #[.bool x_0, .int .u64 x_1, .int .u64 x_2, .string x_3, .string x_4] T.ref04_Eid) fun b h_1 =>
  ∃ (I : Int → Int → Heap → Prop) (mu : Int → Int → Heap → Nat), I 0 0 h_1 ∧ ∀ (n : Int) (i : Int) (h_2 : Heap), I n i h_2 →
    ∃ (t13_p : Option Addr) (t13_l t13_c : Nat), hcell h_2 ⟨t, 0, none⟩ = some (.slice t13_p t13_l t13_c) ∧
    if (decide (i < ((t13_l : Nat) : Int))) = true then
      JoinP (fun (n_1 : Int) (h_3 : Heap) =>
        (I n_1 (IntKind.wrap .i64 (i + 1)) h_3 ∧ mu n_1 (IntKind.wrap .i64 (i + 1)) h_3 < mu n i h_2))
      (fun J =>
        JoinP (fun (t36 : Bool) (h_4 : Heap) =>
          JoinP (fun (n_2 : Int) (h_5 : Heap) =>
            J n_2 h_5)
          (fun J_2 =>
            if t36 = true then
              J_2 (IntKind.wrap .i64 (n + 1)) h_4
            else
              J_2 n h_4))
        (fun J_1 =>
          ref04_Eid.LD h_2 ⟨b, 0, none⟩ fun t20_0 t20_1 t20_2 t20_3 t20_4 =>
          CallsH Tryz.prog F.ref21_Table_is #[.pointer (some ⟨t, 0, none⟩), .int .i64 i, .agg #[.bool t20_0, .int .u64 t20_1, .int .u64 t20_2, .string t20_3, .string t20_4]] h_2 fun v h_6 =>
          ∃ (t21 : Bool), v = .bool t21 ∧
          if t21 = true then
            if (!ready) = true then
              J_1 true h_6
            else
              ∃ (t29_p : Option Addr) (t29_l t29_c : Nat), hcell h_6 ⟨t, 0, none⟩ = some (.slice t29_p t29_l t29_c) ∧
              ((0 : Int) ≤ i ∧ i < ((t29_l : Nat) : Int)) ∧
              onSome t29_p fun a =>
              ∃ (t33 : Int), hcell h_6 ((a.add (Int.toNat i * 11)).add 8) = some (.int .i64 t33) ∧
              J_1 (t33 == 0) h_6
          else
            J_1 false h_6))
    else
      R (.int .i64 n) h_2
theorem ref21_Table_count.den_eq (t : Nat) (x_0 : Bool) (x_1 : Int) (x_2 : Int) (x_3 : ByteArray) (x_4 : ByteArray) (ready : Bool) (h : Heap) (R : Value → Heap → Prop) : ref21_Table_count.vc t x_0 x_1 x_2 x_3 x_4 ready h R = den Tryz.prog Tryz.f68.ntmps (.seq .leaf (.seq .leaf (.seq (.seq .leaf (.block (.loop [(7, .one (.int .i64)), (8, .one (.int .i64))] (.seq (.seq .leaf (.cond .leaf .leaf)) (.seq (.join [(7, .one (.int .i64))] (.block (.seq (.join [(36, .one (.bool))] .leaf) (.join [(7, .one (.int .i64))] (.cond .leaf .leaf))))) .leaf))))) (.seq .leaf .leaf)))) none (bodyOf Tryz.f68) (retK Tryz.prog Tryz.f68.results R) (argEnv [.pointer (some ⟨t, 0, none⟩), .agg #[.bool x_0, .int .u64 x_1, .int .u64 x_2, .string x_3, .string x_4], .bool ready]) h := by kernel_rfl
theorem ref21_Table_count.walk {t : Nat} {x_0 : Bool} {x_1 : Int} {x_2 : Int} {x_3 : ByteArray} {x_4 : ByteArray} {ready : Bool} {h : Heap} {R : Value → Heap → Prop} (hv : ref21_Table_count.vc t x_0 x_1 x_2 x_3 x_4 ready h R) : CallsH Tryz.prog F.ref21_Table_count #[.pointer (some ⟨t, 0, none⟩), .agg #[.bool x_0, .int .u64 x_1, .int .u64 x_2, .string x_3, .string x_4], .bool ready] h R :=
  callsH_of_body _ Tryz.func68 rfl rfl (Eq.mp (ref21_Table_count.den_eq t x_0 x_1 x_2 x_3 x_4 ready h R) hv)

def ref21_Table_Ready.vc (t : Nat) (x_0 : Bool) (x_1 : Int) (x_2 : Int) (x_3 : ByteArray) (x_4 : ByteArray) (h : Heap) (R : Value → Heap → Prop) : Prop :=
  NewP h (.cells #[.bool x_0, .int .u64 x_1, .int .u64 x_2, .string x_3, .string x_4] T.ref04_Eid) fun b h_1 =>
  ref04_Eid.LD h_1 ⟨b, 0, none⟩ fun t6_0 t6_1 t6_2 t6_3 t6_4 =>
  CallsH Tryz.prog F.ref21_Table_count #[.pointer (some ⟨t, 0, none⟩), .agg #[.bool t6_0, .int .u64 t6_1, .int .u64 t6_2, .string t6_3, .string t6_4], .bool true] h_1 fun v h_2 =>
  ∃ (t7 : Int), v = .int .i64 t7 ∧
  R (.int .i64 t7) h_2
theorem ref21_Table_Ready.den_eq (t : Nat) (x_0 : Bool) (x_1 : Int) (x_2 : Int) (x_3 : ByteArray) (x_4 : ByteArray) (h : Heap) (R : Value → Heap → Prop) : ref21_Table_Ready.vc t x_0 x_1 x_2 x_3 x_4 h R = den Tryz.prog Tryz.f15.ntmps (.seq .leaf (.seq .leaf .leaf)) none (bodyOf Tryz.f15) (retK Tryz.prog Tryz.f15.results R) (argEnv [.pointer (some ⟨t, 0, none⟩), .agg #[.bool x_0, .int .u64 x_1, .int .u64 x_2, .string x_3, .string x_4]]) h := by kernel_rfl
theorem ref21_Table_Ready.walk {t : Nat} {x_0 : Bool} {x_1 : Int} {x_2 : Int} {x_3 : ByteArray} {x_4 : ByteArray} {h : Heap} {R : Value → Heap → Prop} (hv : ref21_Table_Ready.vc t x_0 x_1 x_2 x_3 x_4 h R) : CallsH Tryz.prog F.ref21_Table_Ready #[.pointer (some ⟨t, 0, none⟩), .agg #[.bool x_0, .int .u64 x_1, .int .u64 x_2, .string x_3, .string x_4]] h R :=
  callsH_of_body _ Tryz.func15 rfl rfl (Eq.mp (ref21_Table_Ready.den_eq t x_0 x_1 x_2 x_3 x_4 h R) hv)

def ref21_Table_Counts.vc (t : Nat) (h : Heap) (R : Value → Heap → Prop) : Prop :=
  NewP h (.cells #[.int .i64 0, .int .i64 0, .int .i64 0, .int .i64 0, .int .i64 0, .int .i64 0] T.a6_int) fun b h_1 =>
  ∃ (t9_p : Option Addr) (t9_l t9_c : Nat), hcell h_1 ⟨t, 0, none⟩ = some (.slice t9_p t9_l t9_c) ∧
  NewP h_1 (.cells #[.int .i64 0, .int .i64 0, .int .i64 0, .int .i64 0, .int .i64 0, .int .i64 0] T.a6_int) fun b_1 h_2 =>
  a6_int.ST h_2 ⟨b_1, 0, none⟩ ((t9_l : Nat) : Int) 0 0 0 0 0 fun h_3 =>
  ∃ (I : Int → Heap → Prop) (mu : Int → Heap → Nat), I 0 h_3 ∧ ∀ (i : Int) (h_4 : Heap), I i h_4 →
    ∃ (t16_p : Option Addr) (t16_l t16_c : Nat), hcell h_4 ⟨t, 0, none⟩ = some (.slice t16_p t16_l t16_c) ∧
    if (decide (i < ((t16_l : Nat) : Int))) = true then
      ∃ (t24_p : Option Addr) (t24_l t24_c : Nat), hcell h_4 ⟨t, 0, none⟩ = some (.slice t24_p t24_l t24_c) ∧
      ((0 : Int) ≤ i ∧ i < ((t24_l : Nat) : Int)) ∧
      onSome t24_p fun a =>
      ∃ (t28 : Int), hcell h_4 ((a.add (Int.toNat i * 11)).add 10) = some (.int .i64 t28) ∧
      JoinP (fun (t42 : Bool) (h_5 : Heap) =>
        JoinP (fun (k : Int) (h_6 : Heap) =>
          ((0 : Int) ≤ k ∧ k < ((6 : Nat) : Int)) ∧
          ∃ (t45 : Int), hcell h_6 ((⟨b_1, 0, none⟩ : Addr).add (Int.toNat k * 1)) = some (.int .i64 t45) ∧
          ((0 : Int) ≤ k ∧ k < ((6 : Nat) : Int)) ∧
          StoreP h_6 ((⟨b_1, 0, none⟩ : Addr).add (Int.toNat k * 1)) (.int .i64 (IntKind.wrap .i64 (t45 + 1))) fun h_7 =>
          (I (IntKind.wrap .i64 (i + 1)) h_7 ∧ mu (IntKind.wrap .i64 (i + 1)) h_7 < mu i h_4))
        (fun J_1 =>
          if t42 = true then
            J_1 1 h_5
          else
            J_1 (IntKind.wrap .i64 (t28 + 2)) h_5))
      (fun J =>
        if ((IntKind.wrap .i64 (t28 + 2)) == 2) = true then
          ∃ (t36_p : Option Addr) (t36_l t36_c : Nat), hcell h_4 ⟨t, 0, none⟩ = some (.slice t36_p t36_l t36_c) ∧
          ((0 : Int) ≤ i ∧ i < ((t36_l : Nat) : Int)) ∧
          onSome t36_p fun a_1 =>
          ∃ (t40 : Int), hcell h_4 ((a_1.add (Int.toNat i * 11)).add 8) = some (.int .i64 t40) ∧
          J (t40 == 0) h_4
        else
          J false h_4)
    else
      a6_int.LD h_4 ⟨b_1, 0, none⟩ fun t48_0 t48_1 t48_2 t48_3 t48_4 t48_5 =>
      a6_int.ST h_4 ⟨b, 0, none⟩ t48_0 t48_1 t48_2 t48_3 t48_4 t48_5 fun h_8 =>
      a6_int.LD h_8 ⟨b, 0, none⟩ fun r_0 r_1 r_2 r_3 r_4 r_5 =>
      R (.agg #[.int .i64 r_0, .int .i64 r_1, .int .i64 r_2, .int .i64 r_3, .int .i64 r_4, .int .i64 r_5]) h_8
theorem ref21_Table_Counts.den_eq (t : Nat) (h : Heap) (R : Value → Heap → Prop) : ref21_Table_Counts.vc t h R = den Tryz.prog Tryz.f66.ntmps (.seq .leaf (.seq .leaf (.seq (.seq .leaf (.block (.loop [(4, .one (.int .i64))] (.seq (.seq .leaf (.cond .leaf .leaf)) (.seq (.block (.seq .leaf (.seq (.seq (.join [(42, .one (.bool))] .leaf) (.join [(5, .one (.int .i64))] (.cond .leaf .leaf))) .leaf))) .leaf))))) (.seq .leaf .leaf)))) none (bodyOf Tryz.f66) (retK Tryz.prog Tryz.f66.results R) (argEnv [.pointer (some ⟨t, 0, none⟩)]) h := by kernel_rfl
theorem ref21_Table_Counts.walk {t : Nat} {h : Heap} {R : Value → Heap → Prop} (hv : ref21_Table_Counts.vc t h R) : CallsH Tryz.prog F.ref21_Table_Counts #[.pointer (some ⟨t, 0, none⟩)] h R :=
  callsH_of_body _ Tryz.func66 rfl rfl (Eq.mp (ref21_Table_Counts.den_eq t h R) hv)

def ref21_May.vc (x_0 : Bool) (x_1 : Int) (x_2 : Int) (x_3 : ByteArray) (x_4 : ByteArray) (data_p : Option Addr) (data_l data_c : Nat) (v_until : Int) (h : Heap) (R : Value → Heap → Prop) : Prop :=
  NewP h (.cells #[.bool x_0, .int .u64 x_1, .int .u64 x_2, .string x_3, .string x_4] T.ref04_Eid) fun b h_1 =>
  ref04_Eid.LD h_1 ⟨b, 0, none⟩ fun t7_0 t7_1 t7_2 t7_3 t7_4 =>
  CallsH Tryz.prog F.ref04_Kind #[.agg #[.bool t7_0, .int .u64 t7_1, .int .u64 t7_2, .string t7_3, .string t7_4]] h_1 fun v h_2 =>
  ∃ (t8 : Int), v = .int .i64 t8 ∧
  if (decide (t8 > 0)) = true then
    if (decide (((data_l : Nat) : Int) > 0)) = true then
      if (decide (((data_l : Nat) : Int) ≤ 600)) = true then
        R (.bool (decide (v_until ≤ 1099511627776))) h_2
      else
        R (.bool false) h_2
    else
      R (.bool false) h_2
  else
    R (.bool false) h_2
theorem ref21_May.den_eq (x_0 : Bool) (x_1 : Int) (x_2 : Int) (x_3 : ByteArray) (x_4 : ByteArray) (data_p : Option Addr) (data_l data_c : Nat) (v_until : Int) (h : Heap) (R : Value → Heap → Prop) : ref21_May.vc x_0 x_1 x_2 x_3 x_4 data_p data_l data_c v_until h R = den Tryz.prog Tryz.f141.ntmps (.seq .leaf (.seq .leaf .leaf)) none (bodyOf Tryz.f141) (retK Tryz.prog Tryz.f141.results R) (argEnv [.agg #[.bool x_0, .int .u64 x_1, .int .u64 x_2, .string x_3, .string x_4], .slice data_p data_l data_c, .int .u64 v_until]) h := by kernel_rfl
theorem ref21_May.walk {x_0 : Bool} {x_1 : Int} {x_2 : Int} {x_3 : ByteArray} {x_4 : ByteArray} {data_p : Option Addr} {data_l data_c : Nat} {v_until : Int} {h : Heap} {R : Value → Heap → Prop} (hv : ref21_May.vc x_0 x_1 x_2 x_3 x_4 data_p data_l data_c v_until h R) : CallsH Tryz.prog F.ref21_May #[.agg #[.bool x_0, .int .u64 x_1, .int .u64 x_2, .string x_3, .string x_4], .slice data_p data_l data_c, .int .u64 v_until] h R :=
  callsH_of_body _ Tryz.func141 rfl rfl (Eq.mp (ref21_May.den_eq x_0 x_1 x_2 x_3 x_4 data_p data_l data_c v_until h R) hv)

def ref21_Table_Add.vc (t : Nat) (x_0 : Bool) (x_1 : Int) (x_2 : Int) (x_3 : ByteArray) (x_4 : ByteArray) (data_p : Option Addr) (data_l data_c : Nat) (v_until : Int) (h : Heap) (R : Value → Heap → Prop) : Prop :=
  NewP h (.cells #[.bool x_0, .int .u64 x_1, .int .u64 x_2, .string x_3, .string x_4] T.ref04_Eid) fun b h_1 =>
  ref04_Eid.LD h_1 ⟨b, 0, none⟩ fun t11_0 t11_1 t11_2 t11_3 t11_4 =>
  CallsH Tryz.prog F.ref21_May #[.agg #[.bool t11_0, .int .u64 t11_1, .int .u64 t11_2, .string t11_3, .string t11_4], .slice data_p data_l data_c, .int .u64 v_until] h_1 fun v h_2 =>
  ∃ (t14 : Bool), v = .bool t14 ∧
  if (!t14) = true then
    R (.tuple #[.int .i64 0, .int .i64 1]) h_2
  else
    ref04_Eid.LD h_2 ⟨b, 0, none⟩ fun t17_0 t17_1 t17_2 t17_3 t17_4 =>
    CallsH Tryz.prog F.ref21_Table_count #[.pointer (some ⟨t, 0, none⟩), .agg #[.bool t17_0, .int .u64 t17_1, .int .u64 t17_2, .string t17_3, .string t17_4], .bool false] h_2 fun v_1 h_3 =>
    ∃ (t18 : Int), v_1 = .int .i64 t18 ∧
    if (decide (t18 ≥ 16)) = true then
      R (.tuple #[.int .i64 0, .int .i64 15]) h_3
    else
      ∃ (t23_p : Option Addr) (t23_l t23_c : Nat), hcell h_3 ⟨t, 0, none⟩ = some (.slice t23_p t23_l t23_c) ∧
      ref04_Eid.LD h_3 ⟨b, 0, none⟩ fun t26_0 t26_1 t26_2 t26_3 t26_4 =>
      NewP h_3 (.cells #[.int .i64 0, .bool false, .int .u64 0, .int .u64 0, .string (⟨#[]⟩ : ByteArray), .string (⟨#[]⟩ : ByteArray), .slice none 0 0, .int .u64 0, .int .i64 0, .int .u64 0, .int .i64 0] T.ref21_Copy) fun b_1 h_4 =>
      heldL ⟨b, 0, none⟩ [.bool t26_0, .int .u64 t26_1, .int .u64 t26_2, .string t26_3, .string t26_4] 0 h_4 ∧
      hcell h_4 ⟨t, 0, none⟩ = some (.slice t23_p t23_l t23_c) ∧
      ref21_Copy.ST h_4 ⟨b_1, 0, none⟩ (IntKind.wrap .i64 (((t23_l : Nat) : Int) + 1)) t26_0 t26_1 t26_2 t26_3 t26_4 none 0 0 v_until 0 0 0 fun h_5 =>
      ∃ (t30_p : Option Addr) (t30_l t30_c : Nat), hcell h_5 ⟨b_1, 6, none⟩ = some (.slice t30_p t30_l t30_c) ∧
      denSem Tryz.prog (Builtin.append_ #[T.s_uint8, T.s_uint8] T.s_uint8 #[.slice t30_p t30_l t30_c, .slice data_p data_l data_c]) h_5 fun v_2 h_6 =>
      ∃ (t32_p : Option Addr) (t32_l t32_c : Nat), v_2 = .slice t32_p t32_l t32_c ∧
      StoreP h_6 ⟨b_1, 6, none⟩ (.slice t32_p t32_l t32_c) fun h_7 =>
      ∃ (t38_p : Option Addr) (t38_l t38_c : Nat), hcell h_7 ⟨t, 0, none⟩ = some (.slice t38_p t38_l t38_c) ∧
      ref21_Copy.LD h_7 ⟨b_1, 0, none⟩ fun t39_0 t39_1 t39_2 t39_3 t39_4 t39_5 t39_6_p t39_6_l t39_6_c t39_7 t39_8 t39_9 t39_10 =>
      NewP h_7 (.cells #[.int .i64 t39_0, .bool t39_1, .int .u64 t39_2, .int .u64 t39_3, .string t39_4, .string t39_5, .slice t39_6_p t39_6_l t39_6_c, .int .u64 t39_7, .int .i64 t39_8, .int .u64 t39_9, .int .i64 t39_10] T.ref21_Copy) fun b_2 h_8 =>
      hcell h_8 ⟨t, 0, none⟩ = some (.slice t38_p t38_l t38_c) ∧
      denSem Tryz.prog (Builtin.append_ #[T.s_ref21_Copy, T.s_ref21_Copy] T.s_ref21_Copy #[.slice t38_p t38_l t38_c, .slice (some ⟨b_2, 0, none⟩) 1 1]) h_8 fun v_3 h_9 =>
      ∃ (t41_p : Option Addr) (t41_l t41_c : Nat), v_3 = .slice t41_p t41_l t41_c ∧
      StoreP h_9 ⟨t, 0, none⟩ (.slice t41_p t41_l t41_c) fun h_10 =>
      ∃ (t45 : Int), hcell h_10 ⟨b_1, 0, none⟩ = some (.int .i64 t45) ∧
      R (.tuple #[.int .i64 t45, .int .i64 0]) h_10
theorem ref21_Table_Add.den_eq (t : Nat) (x_0 : Bool) (x_1 : Int) (x_2 : Int) (x_3 : ByteArray) (x_4 : ByteArray) (data_p : Option Addr) (data_l data_c : Nat) (v_until : Int) (h : Heap) (R : Value → Heap → Prop) : ref21_Table_Add.vc t x_0 x_1 x_2 x_3 x_4 data_p data_l data_c v_until h R = den Tryz.prog Tryz.f58.ntmps (.seq .leaf (.seq (.seq .leaf (.cond (.seq .leaf .leaf) .leaf)) (.seq (.seq .leaf (.cond (.seq .leaf .leaf) .leaf)) (.seq (.plan (.op 0 (.op 1 (.op 2 (.op 3 (.op 4 (.op 5 (.op 6 (.op 7 (.op 8 (.op 9 (.op 10 .done)))))))))))) (.seq .leaf (.seq (.plan (.op 0 (.op 1 (.op 2 (.op 3 (.op 4 (.op 5 (.op 6 (.op 7 (.op 8 (.op 9 (.op 10 .done)))))))))))) (.seq .leaf .leaf))))))) none (bodyOf Tryz.f58) (retK Tryz.prog Tryz.f58.results R) (argEnv [.pointer (some ⟨t, 0, none⟩), .agg #[.bool x_0, .int .u64 x_1, .int .u64 x_2, .string x_3, .string x_4], .slice data_p data_l data_c, .int .u64 v_until]) h := by kernel_rfl
theorem ref21_Table_Add.walk {t : Nat} {x_0 : Bool} {x_1 : Int} {x_2 : Int} {x_3 : ByteArray} {x_4 : ByteArray} {data_p : Option Addr} {data_l data_c : Nat} {v_until : Int} {h : Heap} {R : Value → Heap → Prop} (hv : ref21_Table_Add.vc t x_0 x_1 x_2 x_3 x_4 data_p data_l data_c v_until h R) : CallsH Tryz.prog F.ref21_Table_Add #[.pointer (some ⟨t, 0, none⟩), .agg #[.bool x_0, .int .u64 x_1, .int .u64 x_2, .string x_3, .string x_4], .slice data_p data_l data_c, .int .u64 v_until] h R :=
  callsH_of_body _ Tryz.func58 rfl rfl (Eq.mp (ref21_Table_Add.den_eq t x_0 x_1 x_2 x_3 x_4 data_p data_l data_c v_until h R) hv)

def ref21_Table_Lease.vc (t : Nat) (x_0 : Bool) (x_1 : Int) (x_2 : Int) (x_3 : ByteArray) (x_4 : ByteArray) (session : Int) (deadline : Int) (h : Heap) (R : Value → Heap → Prop) : Prop :=
  NewP h (.cells #[.bool x_0, .int .u64 x_1, .int .u64 x_2, .string x_3, .string x_4] T.ref04_Eid) fun b h_1 =>
  JoinP (fun (t20 : Bool) (h_2 : Heap) =>
    if t20 = true then
      R (.tuple #[.int .i64 (-1), .int .i64 1]) h_2
    else
      ∃ (I : Int → Heap → Prop) (mu : Int → Heap → Nat), I 0 h_2 ∧ ∀ (i : Int) (h_3 : Heap), I i h_3 →
        ∃ (t25_p : Option Addr) (t25_l t25_c : Nat), hcell h_3 ⟨t, 0, none⟩ = some (.slice t25_p t25_l t25_c) ∧
        if (decide (i < ((t25_l : Nat) : Int))) = true then
          JoinP (fun (t44 : Bool) (h_4 : Heap) =>
            if t44 = true then
              ∃ (t48_p : Option Addr) (t48_l t48_c : Nat), hcell h_4 ⟨t, 0, none⟩ = some (.slice t48_p t48_l t48_c) ∧
              ∃ (t53_p : Option Addr) (t53_l t53_c : Nat), hcell h_4 ⟨t, 0, none⟩ = some (.slice t53_p t53_l t53_c) ∧
              ((0 : Int) ≤ i ∧ i < ((t48_l : Nat) : Int)) ∧
              onSome t48_p fun a =>
              StoreP h_4 ((a.add (Int.toNat i * 11)).add 8) (.int .i64 session) fun h_5 =>
              ((0 : Int) ≤ i ∧ i < ((t53_l : Nat) : Int)) ∧
              onSome t53_p fun a_1 =>
              StoreP h_5 ((a_1.add (Int.toNat i * 11)).add 9) (.int .u64 deadline) fun h_6 =>
              R (.tuple #[.int .i64 i, .int .i64 0]) h_6
            else
              (I (IntKind.wrap .i64 (i + 1)) h_4 ∧ mu (IntKind.wrap .i64 (i + 1)) h_4 < mu i h_3))
          (fun J_1 =>
            ref04_Eid.LD h_3 ⟨b, 0, none⟩ fun t32_0 t32_1 t32_2 t32_3 t32_4 =>
            CallsH Tryz.prog F.ref21_Table_is #[.pointer (some ⟨t, 0, none⟩), .int .i64 i, .agg #[.bool t32_0, .int .u64 t32_1, .int .u64 t32_2, .string t32_3, .string t32_4]] h_3 fun v h_7 =>
            ∃ (t33 : Bool), v = .bool t33 ∧
            if t33 = true then
              ∃ (t38_p : Option Addr) (t38_l t38_c : Nat), hcell h_7 ⟨t, 0, none⟩ = some (.slice t38_p t38_l t38_c) ∧
              ((0 : Int) ≤ i ∧ i < ((t38_l : Nat) : Int)) ∧
              onSome t38_p fun a_2 =>
              ∃ (t42 : Int), hcell h_7 ((a_2.add (Int.toNat i * 11)).add 8) = some (.int .i64 t42) ∧
              J_1 (t42 == 0) h_7
            else
              J_1 false h_7)
        else
          R (.tuple #[.int .i64 (-1), .int .i64 4]) h_3)
  (fun J =>
    if (decide (session < 1)) = true then
      J true h_1
    else
      if (decide (session > 1099511627776)) = true then
        J true h_1
      else
        J (decide (deadline > 1099511627776)) h_1)
theorem ref21_Table_Lease.den_eq (t : Nat) (x_0 : Bool) (x_1 : Int) (x_2 : Int) (x_3 : ByteArray) (x_4 : ByteArray) (session : Int) (deadline : Int) (h : Heap) (R : Value → Heap → Prop) : ref21_Table_Lease.vc t x_0 x_1 x_2 x_3 x_4 session deadline h R = den Tryz.prog Tryz.f59.ntmps (.seq .leaf (.seq (.seq (.join [(20, .one (.bool))] .leaf) (.cond (.seq .leaf .leaf) .leaf)) (.seq (.seq .leaf (.block (.loop [(10, .one (.int .i64))] (.seq (.seq .leaf (.cond .leaf .leaf)) (.seq (.block (.seq (.join [(44, .one (.bool))] .leaf) (.cond (.seq (.plan (.op 0 (.op 1 (.op 2 (.op 3 (.op 4 (.op 5 (.op 6 (.op 7 (.op 8 (.op 9 (.op 10 (.op 11 (.op 12 (.op 13 (.op 14 (.op 15 (.op 16 (.op 17 .done))))))))))))))))))) (.seq .leaf .leaf)) .leaf))) .leaf))))) (.seq .leaf .leaf)))) none (bodyOf Tryz.f59) (retK Tryz.prog Tryz.f59.results R) (argEnv [.pointer (some ⟨t, 0, none⟩), .agg #[.bool x_0, .int .u64 x_1, .int .u64 x_2, .string x_3, .string x_4], .int .i64 session, .int .u64 deadline]) h := by kernel_rfl
theorem ref21_Table_Lease.walk {t : Nat} {x_0 : Bool} {x_1 : Int} {x_2 : Int} {x_3 : ByteArray} {x_4 : ByteArray} {session : Int} {deadline : Int} {h : Heap} {R : Value → Heap → Prop} (hv : ref21_Table_Lease.vc t x_0 x_1 x_2 x_3 x_4 session deadline h R) : CallsH Tryz.prog F.ref21_Table_Lease #[.pointer (some ⟨t, 0, none⟩), .agg #[.bool x_0, .int .u64 x_1, .int .u64 x_2, .string x_3, .string x_4], .int .i64 session, .int .u64 deadline] h R :=
  callsH_of_body _ Tryz.func59 rfl rfl (Eq.mp (ref21_Table_Lease.den_eq t x_0 x_1 x_2 x_3 x_4 session deadline h R) hv)

def ref21_Table_End.vc (t : Nat) (num : Int) (session : Int) (back : Bool) (h : Heap) (R : Value → Heap → Prop) : Prop :=
  JoinP (fun (t31 : Bool) (h_1 : Heap) =>
    if t31 = true then
      R (.int .i64 4) h_1
    else
      JoinP (fun (t54 : Bool) (h_2 : Heap) =>
        if t54 = true then
          R (.int .i64 14) h_2
        else
          ∃ (t58_p : Option Addr) (t58_l t58_c : Nat), hcell h_2 ⟨t, 0, none⟩ = some (.slice t58_p t58_l t58_c) ∧
          ∃ (t64_p : Option Addr) (t64_l t64_c : Nat), hcell h_2 ⟨t, 0, none⟩ = some (.slice t64_p t64_l t64_c) ∧
          ((0 : Int) ≤ IntKind.wrap .i64 (num - 1) ∧ IntKind.wrap .i64 (num - 1) < ((t58_l : Nat) : Int)) ∧
          onSome t58_p fun a =>
          StoreP h_2 ((a.add (Int.toNat (IntKind.wrap .i64 (num - 1)) * 11)).add 8) (.int .i64 0) fun h_3 =>
          ((0 : Int) ≤ IntKind.wrap .i64 (num - 1) ∧ IntKind.wrap .i64 (num - 1) < ((t64_l : Nat) : Int)) ∧
          onSome t64_p fun a_1 =>
          StoreP h_3 ((a_1.add (Int.toNat (IntKind.wrap .i64 (num - 1)) * 11)).add 9) (.int .u64 0) fun h_4 =>
          JoinP (fun (h_5 : Heap) =>
            R (.int .i64 0) h_5)
          (fun J_2 =>
            if (!back) = true then
              ∃ (t76_p : Option Addr) (t76_l t76_c : Nat), hcell h_4 ⟨t, 0, none⟩ = some (.slice t76_p t76_l t76_c) ∧
              ((0 : Int) ≤ IntKind.wrap .i64 (num - 1) ∧ IntKind.wrap .i64 (num - 1) < ((t76_l : Nat) : Int)) ∧
              onSome t76_p fun a_2 =>
              StoreP h_4 ((a_2.add (Int.toNat (IntKind.wrap .i64 (num - 1)) * 11)).add 10) (.int .i64 1) fun h_6 =>
              J_2 h_6
            else
              J_2 h_4))
      (fun J_1 =>
        ∃ (t35_p : Option Addr) (t35_l t35_c : Nat), hcell h_1 ⟨t, 0, none⟩ = some (.slice t35_p t35_l t35_c) ∧
        ((0 : Int) ≤ IntKind.wrap .i64 (num - 1) ∧ IntKind.wrap .i64 (num - 1) < ((t35_l : Nat) : Int)) ∧
        onSome t35_p fun a_3 =>
        ∃ (t40 : Int), hcell h_1 ((a_3.add (Int.toNat (IntKind.wrap .i64 (num - 1)) * 11)).add 8) = some (.int .i64 t40) ∧
        if (t40 == 0) = true then
          J_1 true h_1
        else
          ∃ (t46_p : Option Addr) (t46_l t46_c : Nat), hcell h_1 ⟨t, 0, none⟩ = some (.slice t46_p t46_l t46_c) ∧
          ((0 : Int) ≤ IntKind.wrap .i64 (num - 1) ∧ IntKind.wrap .i64 (num - 1) < ((t46_l : Nat) : Int)) ∧
          onSome t46_p fun a_4 =>
          ∃ (t51 : Int), hcell h_1 ((a_4.add (Int.toNat (IntKind.wrap .i64 (num - 1)) * 11)).add 8) = some (.int .i64 t51) ∧
          J_1 (t51 != session) h_1))
  (fun J =>
    if (decide (num < 1)) = true then
      J true h
    else
      ∃ (t16_p : Option Addr) (t16_l t16_c : Nat), hcell h ⟨t, 0, none⟩ = some (.slice t16_p t16_l t16_c) ∧
      if (decide (num > ((t16_l : Nat) : Int))) = true then
        J true h
      else
        ∃ (t24_p : Option Addr) (t24_l t24_c : Nat), hcell h ⟨t, 0, none⟩ = some (.slice t24_p t24_l t24_c) ∧
        ((0 : Int) ≤ IntKind.wrap .i64 (num - 1) ∧ IntKind.wrap .i64 (num - 1) < ((t24_l : Nat) : Int)) ∧
        onSome t24_p fun a_5 =>
        ∃ (t29 : Int), hcell h ((a_5.add (Int.toNat (IntKind.wrap .i64 (num - 1)) * 11)).add 10) = some (.int .i64 t29) ∧
        J (t29 != 0) h)
theorem ref21_Table_End.den_eq (t : Nat) (num : Int) (session : Int) (back : Bool) (h : Heap) (R : Value → Heap → Prop) : ref21_Table_End.vc t num session back h R = den Tryz.prog Tryz.f61.ntmps (.seq .leaf (.seq (.seq (.join [(31, .one (.bool))] .leaf) (.cond (.seq .leaf .leaf) .leaf)) (.seq (.seq (.join [(54, .one (.bool))] .leaf) (.cond (.seq .leaf .leaf) .leaf)) (.seq (.plan (.op 0 (.op 1 (.op 2 (.op 3 (.op 4 (.op 5 (.op 6 (.op 7 (.op 8 (.op 9 (.op 10 (.op 11 (.op 12 (.op 13 (.op 14 (.op 15 (.op 16 (.op 17 .done))))))))))))))))))) (.seq (.seq .leaf (.join [] (.cond .leaf .leaf))) (.seq .leaf .leaf)))))) none (bodyOf Tryz.f61) (retK Tryz.prog Tryz.f61.results R) (argEnv [.pointer (some ⟨t, 0, none⟩), .int .i64 num, .int .i64 session, .bool back]) h := by kernel_rfl
theorem ref21_Table_End.walk {t : Nat} {num : Int} {session : Int} {back : Bool} {h : Heap} {R : Value → Heap → Prop} (hv : ref21_Table_End.vc t num session back h R) : CallsH Tryz.prog F.ref21_Table_End #[.pointer (some ⟨t, 0, none⟩), .int .i64 num, .int .i64 session, .bool back] h R :=
  callsH_of_body _ Tryz.func61 rfl rfl (Eq.mp (ref21_Table_End.den_eq t num session back h R) hv)

def ref21_Table_Pass.vc (t : Nat) (now : Int) (h : Heap) (R : Value → Heap → Prop) : Prop :=
  ∃ (I : Option Addr → Nat → Nat → Heap → Prop) (mu : Option Addr → Nat → Nat → Heap → Nat), I none 0 0 h ∧ ∀ (out_p : Option Addr) (out_l out_c : Nat) (h_1 : Heap), I out_p out_l out_c h_1 →
    ∃ (I_1 : Int → Int → Heap → Prop) (mu_1 : Int → Int → Heap → Nat), I_1 (-1) 0 h_1 ∧ ∀ (best : Int) (i : Int) (h_2 : Heap), I_1 best i h_2 →
      ∃ (t13_p : Option Addr) (t13_l t13_c : Nat), hcell h_2 ⟨t, 0, none⟩ = some (.slice t13_p t13_l t13_c) ∧
      if (decide (i < ((t13_l : Nat) : Int))) = true then
        JoinP (fun (best_1 : Int) (h_3 : Heap) =>
          (I_1 best_1 (IntKind.wrap .i64 (i + 1)) h_3 ∧ mu_1 best_1 (IntKind.wrap .i64 (i + 1)) h_3 < mu_1 best i h_2))
        (fun J =>
          JoinP (fun (t61 : Bool) (h_4 : Heap) =>
            JoinP (fun (best_2 : Int) (h_5 : Heap) =>
              J best_2 h_5)
            (fun J_2 =>
              if t61 = true then
                J_2 i h_4
              else
                J_2 best h_4))
          (fun J_1 =>
            ∃ (t21_p : Option Addr) (t21_l t21_c : Nat), hcell h_2 ⟨t, 0, none⟩ = some (.slice t21_p t21_l t21_c) ∧
            ((0 : Int) ≤ i ∧ i < ((t21_l : Nat) : Int)) ∧
            onSome t21_p fun a =>
            ∃ (t25 : Int), hcell h_2 ((a.add (Int.toNat i * 11)).add 10) = some (.int .i64 t25) ∧
            if (t25 == 0) = true then
              ∃ (t31_p : Option Addr) (t31_l t31_c : Nat), hcell h_2 ⟨t, 0, none⟩ = some (.slice t31_p t31_l t31_c) ∧
              ((0 : Int) ≤ i ∧ i < ((t31_l : Nat) : Int)) ∧
              onSome t31_p fun a_1 =>
              ∃ (t35 : Int), hcell h_2 ((a_1.add (Int.toNat i * 11)).add 7) = some (.int .u64 t35) ∧
              if (decide (t35 ≤ now)) = true then
                if (decide (best < 0)) = true then
                  J_1 true h_2
                else
                  ∃ (t46_p : Option Addr) (t46_l t46_c : Nat), hcell h_2 ⟨t, 0, none⟩ = some (.slice t46_p t46_l t46_c) ∧
                  ((0 : Int) ≤ i ∧ i < ((t46_l : Nat) : Int)) ∧
                  onSome t46_p fun a_2 =>
                  ∃ (t50 : Int), hcell h_2 ((a_2.add (Int.toNat i * 11)).add 7) = some (.int .u64 t50) ∧
                  ∃ (t54_p : Option Addr) (t54_l t54_c : Nat), hcell h_2 ⟨t, 0, none⟩ = some (.slice t54_p t54_l t54_c) ∧
                  ((0 : Int) ≤ best ∧ best < ((t54_l : Nat) : Int)) ∧
                  onSome t54_p fun a_3 =>
                  ∃ (t58 : Int), hcell h_2 ((a_3.add (Int.toNat best * 11)).add 7) = some (.int .u64 t58) ∧
                  J_1 (decide (t50 < t58)) h_2
              else
                J_1 false h_2
            else
              J_1 false h_2))
      else
        if (decide (best < 0)) = true then
          ∃ (I_2 : Int → Heap → Prop) (mu_2 : Int → Heap → Nat), I_2 0 h_2 ∧ ∀ (i_1 : Int) (h_6 : Heap), I_2 i_1 h_6 →
            ∃ (t95_p : Option Addr) (t95_l t95_c : Nat), hcell h_6 ⟨t, 0, none⟩ = some (.slice t95_p t95_l t95_c) ∧
            if (decide (i_1 < ((t95_l : Nat) : Int))) = true then
              JoinP (fun (h_7 : Heap) =>
                (I_2 (IntKind.wrap .i64 (i_1 + 1)) h_7 ∧ mu_2 (IntKind.wrap .i64 (i_1 + 1)) h_7 < mu_2 i_1 h_6))
              (fun J_3 =>
                JoinP (fun (t131 : Bool) (h_8 : Heap) =>
                  JoinP (fun (h_9 : Heap) =>
                    J_3 h_9)
                  (fun J_5 =>
                    if t131 = true then
                      ∃ (t135_p : Option Addr) (t135_l t135_c : Nat), hcell h_8 ⟨t, 0, none⟩ = some (.slice t135_p t135_l t135_c) ∧
                      ∃ (t140_p : Option Addr) (t140_l t140_c : Nat), hcell h_8 ⟨t, 0, none⟩ = some (.slice t140_p t140_l t140_c) ∧
                      ((0 : Int) ≤ i_1 ∧ i_1 < ((t135_l : Nat) : Int)) ∧
                      onSome t135_p fun a_4 =>
                      StoreP h_8 ((a_4.add (Int.toNat i_1 * 11)).add 8) (.int .i64 0) fun h_10 =>
                      ((0 : Int) ≤ i_1 ∧ i_1 < ((t140_l : Nat) : Int)) ∧
                      onSome t140_p fun a_5 =>
                      StoreP h_10 ((a_5.add (Int.toNat i_1 * 11)).add 9) (.int .u64 0) fun h_11 =>
                      J_5 h_11
                    else
                      J_5 h_8))
                (fun J_4 =>
                  ∃ (t103_p : Option Addr) (t103_l t103_c : Nat), hcell h_6 ⟨t, 0, none⟩ = some (.slice t103_p t103_l t103_c) ∧
                  ((0 : Int) ≤ i_1 ∧ i_1 < ((t103_l : Nat) : Int)) ∧
                  onSome t103_p fun a_6 =>
                  ∃ (t107 : Int), hcell h_6 ((a_6.add (Int.toNat i_1 * 11)).add 10) = some (.int .i64 t107) ∧
                  if (t107 == 0) = true then
                    ∃ (t113_p : Option Addr) (t113_l t113_c : Nat), hcell h_6 ⟨t, 0, none⟩ = some (.slice t113_p t113_l t113_c) ∧
                    ((0 : Int) ≤ i_1 ∧ i_1 < ((t113_l : Nat) : Int)) ∧
                    onSome t113_p fun a_7 =>
                    ∃ (t117 : Int), hcell h_6 ((a_7.add (Int.toNat i_1 * 11)).add 8) = some (.int .i64 t117) ∧
                    if (decide (t117 > 0)) = true then
                      ∃ (t124_p : Option Addr) (t124_l t124_c : Nat), hcell h_6 ⟨t, 0, none⟩ = some (.slice t124_p t124_l t124_c) ∧
                      ((0 : Int) ≤ i_1 ∧ i_1 < ((t124_l : Nat) : Int)) ∧
                      onSome t124_p fun a_8 =>
                      ∃ (t128 : Int), hcell h_6 ((a_8.add (Int.toNat i_1 * 11)).add 9) = some (.int .u64 t128) ∧
                      J_4 (decide (t128 ≤ now)) h_6
                    else
                      J_4 false h_6
                  else
                    J_4 false h_6))
            else
              R (.slice out_p out_l out_c) h_6
        else
          NewP h_2 (.cells #[.int .i64 (IntKind.wrap .i64 (best + 1))] T.int) fun b h_12 =>
          denSem Tryz.prog (Builtin.append_ #[T.s_int, T.s_int] T.s_int #[.slice out_p out_l out_c, .slice (some ⟨b, 0, none⟩) 1 1]) h_12 fun v h_13 =>
          ∃ (t69_p : Option Addr) (t69_l t69_c : Nat), v = .slice t69_p t69_l t69_c ∧
          ∃ (t73_p : Option Addr) (t73_l t73_c : Nat), hcell h_13 ⟨t, 0, none⟩ = some (.slice t73_p t73_l t73_c) ∧
          ∃ (t78_p : Option Addr) (t78_l t78_c : Nat), hcell h_13 ⟨t, 0, none⟩ = some (.slice t78_p t78_l t78_c) ∧
          ∃ (t83_p : Option Addr) (t83_l t83_c : Nat), hcell h_13 ⟨t, 0, none⟩ = some (.slice t83_p t83_l t83_c) ∧
          ((0 : Int) ≤ best ∧ best < ((t73_l : Nat) : Int)) ∧
          onSome t73_p fun a_9 =>
          StoreP h_13 ((a_9.add (Int.toNat best * 11)).add 10) (.int .i64 2) fun h_14 =>
          ((0 : Int) ≤ best ∧ best < ((t78_l : Nat) : Int)) ∧
          onSome t78_p fun a_10 =>
          StoreP h_14 ((a_10.add (Int.toNat best * 11)).add 8) (.int .i64 0) fun h_15 =>
          ((0 : Int) ≤ best ∧ best < ((t83_l : Nat) : Int)) ∧
          onSome t83_p fun a_11 =>
          StoreP h_15 ((a_11.add (Int.toNat best * 11)).add 9) (.int .u64 0) fun h_16 =>
          (I t69_p t69_l t69_c h_16 ∧ mu t69_p t69_l t69_c h_16 < mu out_p out_l out_c h_1)
theorem ref21_Table_Pass.den_eq (t : Nat) (now : Int) (h : Heap) (R : Value → Heap → Prop) : ref21_Table_Pass.vc t now h R = den Tryz.prog Tryz.f63.ntmps (.seq .leaf (.seq .leaf (.seq (.block (.loop [(5, .one (.slice))] (.block (.seq .leaf (.seq (.seq .leaf (.block (.loop [(6, .one (.int .i64)), (7, .one (.int .i64))] (.seq (.seq .leaf (.cond .leaf .leaf)) (.seq (.join [(6, .one (.int .i64))] (.block (.seq (.join [(61, .one (.bool))] (.plan (.op 0 (.op 1 (.op 2 (.op 3 (.op 4 (.op 5 (.op 6 (.op 7 (.op 8 (.op 9 (.op 10 (.op 11 (.op 12 (.op 13 (.op 14 (.op 15 (.op 16 (.op 17 (.op 18 (.op 19 (.op 20 (.op 21 (.op 22 (.op 23 (.op 24 (.op 25 (.op 26 (.op 27 (.op 28 (.op 29 (.op 30 (.op 31 (.op 32 (.op 33 (.op 34 (.op 35 (.op 36 (.op 37 (.op 38 (.op 39 (.op 40 (.op 41 (.op 42 (.op 43 .done)))))))))))))))))))))))))))))))))))))))))))))) (.join [(6, .one (.int .i64))] (.cond .leaf .leaf))))) .leaf))))) (.seq (.seq .leaf (.cond .leaf .leaf)) (.seq .leaf (.plan (.op 0 (.op 1 (.op 2 (.op 3 (.op 4 (.op 5 (.op 6 (.op 7 (.op 8 (.op 9 (.op 10 (.op 11 (.op 12 (.op 13 (.op 14 (.op 15 (.op 16 (.op 17 (.op 18 (.op 19 (.op 20 (.op 21 (.op 22 (.op 23 .done)))))))))))))))))))))))))))))))) (.seq (.seq .leaf (.block (.loop [(8, .one (.int .i64))] (.seq (.seq .leaf (.cond .leaf .leaf)) (.seq (.join [] (.block (.seq (.join [(131, .one (.bool))] .leaf) (.join [] (.cond (.plan (.op 0 (.op 1 (.op 2 (.op 3 (.op 4 (.op 5 (.op 6 (.op 7 (.op 8 (.op 9 (.op 10 (.op 11 (.op 12 (.op 13 (.op 14 (.op 15 .done))))))))))))))))) .leaf))))) .leaf))))) (.seq .leaf .leaf))))) none (bodyOf Tryz.f63) (retK Tryz.prog Tryz.f63.results R) (argEnv [.pointer (some ⟨t, 0, none⟩), .int .u64 now]) h := by kernel_rfl
theorem ref21_Table_Pass.walk {t : Nat} {now : Int} {h : Heap} {R : Value → Heap → Prop} (hv : ref21_Table_Pass.vc t now h R) : CallsH Tryz.prog F.ref21_Table_Pass #[.pointer (some ⟨t, 0, none⟩), .int .u64 now] h R :=
  callsH_of_body _ Tryz.func63 rfl rfl (Eq.mp (ref21_Table_Pass.den_eq t now h R) hv)

def ref21_Table_Drop.vc (t : Nat) (x_0 : Bool) (x_1 : Int) (x_2 : Int) (x_3 : ByteArray) (x_4 : ByteArray) (h : Heap) (R : Value → Heap → Prop) : Prop :=
  NewP h (.cells #[.bool x_0, .int .u64 x_1, .int .u64 x_2, .string x_3, .string x_4] T.ref04_Eid) fun b h_1 =>
  ∃ (I : Option Addr → Nat → Nat → Int → Heap → Prop) (mu : Option Addr → Nat → Nat → Int → Heap → Nat), I none 0 0 0 h_1 ∧ ∀ (out_p : Option Addr) (out_l out_c : Nat) (i : Int) (h_2 : Heap), I out_p out_l out_c i h_2 →
    ∃ (t11_p : Option Addr) (t11_l t11_c : Nat), hcell h_2 ⟨t, 0, none⟩ = some (.slice t11_p t11_l t11_c) ∧
    if (decide (i < ((t11_l : Nat) : Int))) = true then
      JoinP (fun (out_p_1 : Option Addr) (out_l_1 out_c_1 : Nat) (h_3 : Heap) =>
        (I out_p_1 out_l_1 out_c_1 (IntKind.wrap .i64 (i + 1)) h_3 ∧ mu out_p_1 out_l_1 out_c_1 (IntKind.wrap .i64 (i + 1)) h_3 < mu out_p out_l out_c i h_2))
      (fun J =>
        ref04_Eid.LD h_2 ⟨b, 0, none⟩ fun t18_0 t18_1 t18_2 t18_3 t18_4 =>
        CallsH Tryz.prog F.ref21_Table_is #[.pointer (some ⟨t, 0, none⟩), .int .i64 i, .agg #[.bool t18_0, .int .u64 t18_1, .int .u64 t18_2, .string t18_3, .string t18_4]] h_2 fun v h_4 =>
        ∃ (t19 : Bool), v = .bool t19 ∧
        JoinP (fun (out_p_2 : Option Addr) (out_l_2 out_c_2 : Nat) (h_5 : Heap) =>
          J out_p_2 out_l_2 out_c_2 h_5)
        (fun J_1 =>
          if t19 = true then
            NewP h_4 (.cells #[.int .i64 (IntKind.wrap .i64 (i + 1))] T.int) fun b_1 h_6 =>
            denSem Tryz.prog (Builtin.append_ #[T.s_int, T.s_int] T.s_int #[.slice out_p out_l out_c, .slice (some ⟨b_1, 0, none⟩) 1 1]) h_6 fun v_1 h_7 =>
            ∃ (t24_p : Option Addr) (t24_l t24_c : Nat), v_1 = .slice t24_p t24_l t24_c ∧
            ∃ (t28_p : Option Addr) (t28_l t28_c : Nat), hcell h_7 ⟨t, 0, none⟩ = some (.slice t28_p t28_l t28_c) ∧
            ∃ (t33_p : Option Addr) (t33_l t33_c : Nat), hcell h_7 ⟨t, 0, none⟩ = some (.slice t33_p t33_l t33_c) ∧
            ∃ (t38_p : Option Addr) (t38_l t38_c : Nat), hcell h_7 ⟨t, 0, none⟩ = some (.slice t38_p t38_l t38_c) ∧
            ((0 : Int) ≤ i ∧ i < ((t28_l : Nat) : Int)) ∧
            onSome t28_p fun a =>
            StoreP h_7 ((a.add (Int.toNat i * 11)).add 10) (.int .i64 3) fun h_8 =>
            ((0 : Int) ≤ i ∧ i < ((t33_l : Nat) : Int)) ∧
            onSome t33_p fun a_1 =>
            StoreP h_8 ((a_1.add (Int.toNat i * 11)).add 8) (.int .i64 0) fun h_9 =>
            ((0 : Int) ≤ i ∧ i < ((t38_l : Nat) : Int)) ∧
            onSome t38_p fun a_2 =>
            StoreP h_9 ((a_2.add (Int.toNat i * 11)).add 9) (.int .u64 0) fun h_10 =>
            J_1 t24_p t24_l t24_c h_10
          else
            J_1 out_p out_l out_c h_4))
    else
      R (.slice out_p out_l out_c) h_2
theorem ref21_Table_Drop.den_eq (t : Nat) (x_0 : Bool) (x_1 : Int) (x_2 : Int) (x_3 : ByteArray) (x_4 : ByteArray) (h : Heap) (R : Value → Heap → Prop) : ref21_Table_Drop.vc t x_0 x_1 x_2 x_3 x_4 h R = den Tryz.prog Tryz.f64.ntmps (.seq .leaf (.seq .leaf (.seq (.seq .leaf (.block (.loop [(5, .one (.slice)), (6, .one (.int .i64))] (.seq (.seq .leaf (.cond .leaf .leaf)) (.seq (.join [(5, .one (.slice))] (.block (.seq .leaf (.join [(5, .one (.slice))] (.cond (.seq .leaf (.plan (.op 0 (.op 1 (.op 2 (.op 3 (.op 4 (.op 5 (.op 6 (.op 7 (.op 8 (.op 9 (.op 10 (.op 11 (.op 12 (.op 13 (.op 14 (.op 15 (.op 16 (.op 17 (.op 18 (.op 19 (.op 20 (.op 21 (.op 22 (.op 23 .done)))))))))))))))))))))))))) .leaf))))) .leaf))))) (.seq .leaf .leaf)))) none (bodyOf Tryz.f64) (retK Tryz.prog Tryz.f64.results R) (argEnv [.pointer (some ⟨t, 0, none⟩), .agg #[.bool x_0, .int .u64 x_1, .int .u64 x_2, .string x_3, .string x_4]]) h := by kernel_rfl
theorem ref21_Table_Drop.walk {t : Nat} {x_0 : Bool} {x_1 : Int} {x_2 : Int} {x_3 : ByteArray} {x_4 : ByteArray} {h : Heap} {R : Value → Heap → Prop} (hv : ref21_Table_Drop.vc t x_0 x_1 x_2 x_3 x_4 h R) : CallsH Tryz.prog F.ref21_Table_Drop #[.pointer (some ⟨t, 0, none⟩), .agg #[.bool x_0, .int .u64 x_1, .int .u64 x_2, .string x_3, .string x_4]] h R :=
  callsH_of_body _ Tryz.func64 rfl rfl (Eq.mp (ref21_Table_Drop.den_eq t x_0 x_1 x_2 x_3 x_4 h R) hv)

def ref21_numbers.vc (l_p : Option Addr) (l_l l_c : Nat) (h : Heap) (R : Value → Heap → Prop) : Prop :=
  ∃ (I : Option Addr → Nat → Nat → Int → Heap → Prop) (mu : Option Addr → Nat → Nat → Int → Heap → Nat), I none 0 0 0 h ∧ ∀ (out_p : Option Addr) (out_l out_c : Nat) (i : Int) (h_1 : Heap), I out_p out_l out_c i h_1 →
    if (decide (i < ((l_l : Nat) : Int))) = true then
      ((0 : Int) ≤ i ∧ i < ((l_l : Nat) : Int)) ∧
      onSome l_p fun a =>
      ∃ (t15 : Int), hcell h_1 (a.add (Int.toNat i * 1)) = some (.int .i64 t15) ∧
      CallsH Tryz.prog F.ref15_Num #[.int .u64 (IntKind.wrap .u64 t15)] h_1 fun v h_2 =>
      ∃ (t17_p : Option Addr) (t17_l t17_c : Nat), v = .slice t17_p t17_l t17_c ∧
      denSem Tryz.prog (Builtin.append_ #[T.s_uint8, T.s_uint8] T.s_uint8 #[.slice out_p out_l out_c, .slice t17_p t17_l t17_c]) h_2 fun v_1 h_3 =>
      ∃ (t18_p : Option Addr) (t18_l t18_c : Nat), v_1 = .slice t18_p t18_l t18_c ∧
      (I t18_p t18_l t18_c (IntKind.wrap .i64 (i + 1)) h_3 ∧ mu t18_p t18_l t18_c (IntKind.wrap .i64 (i + 1)) h_3 < mu out_p out_l out_c i h_1)
    else
      R (.slice out_p out_l out_c) h_1
theorem ref21_numbers.den_eq (l_p : Option Addr) (l_l l_c : Nat) (h : Heap) (R : Value → Heap → Prop) : ref21_numbers.vc l_p l_l l_c h R = den Tryz.prog Tryz.f79.ntmps (.seq .leaf (.seq .leaf (.seq (.seq .leaf (.block (.loop [(3, .one (.slice)), (4, .one (.int .i64))] (.seq (.seq .leaf (.cond .leaf .leaf)) (.seq (.block .leaf) .leaf))))) (.seq .leaf .leaf)))) none (bodyOf Tryz.f79) (retK Tryz.prog Tryz.f79.results R) (argEnv [.slice l_p l_l l_c]) h := by kernel_rfl
theorem ref21_numbers.walk {l_p : Option Addr} {l_l l_c : Nat} {h : Heap} {R : Value → Heap → Prop} (hv : ref21_numbers.vc l_p l_l l_c h R) : CallsH Tryz.prog F.ref21_numbers #[.slice l_p l_l l_c] h R :=
  callsH_of_body _ Tryz.func79 rfl rfl (Eq.mp (ref21_numbers.den_eq l_p l_l l_c h R) hv)

def ref21_Table_Save.vc (t : Nat) (h : Heap) (R : Value → Heap → Prop) : Prop :=
  CallsH Tryz.prog F.ref21_Table_Counts #[.pointer (some ⟨t, 0, none⟩)] h fun v h_1 =>
  ∃ (t9_0 : Int), ∃ (t9_1 : Int), ∃ (t9_2 : Int), ∃ (t9_3 : Int), ∃ (t9_4 : Int), ∃ (t9_5 : Int), v = .agg #[.int .i64 t9_0, .int .i64 t9_1, .int .i64 t9_2, .int .i64 t9_3, .int .i64 t9_4, .int .i64 t9_5] ∧
  NewP h_1 (.cells #[.int .i64 0, .int .i64 0, .int .i64 0, .int .i64 0, .int .i64 0, .int .i64 0] T.a6_int) fun b h_2 =>
  a6_int.ST h_2 ⟨b, 0, none⟩ t9_0 t9_1 t9_2 t9_3 t9_4 t9_5 fun h_3 =>
  CallsH Tryz.prog F.ref21_Table_There #[.pointer (some ⟨t, 0, none⟩)] h_3 fun v_1 h_4 =>
  ∃ (t11_p : Option Addr) (t11_l t11_c : Nat), v_1 = .slice t11_p t11_l t11_c ∧
  ∃ (t15_p : Option Addr) (t15_l t15_c : Nat), hcell h_4 ⟨t, 0, none⟩ = some (.slice t15_p t15_l t15_c) ∧
  ((0 : Int) ≤ 3 ∧ 3 < ((6 : Nat) : Int)) ∧
  ∃ (t19 : Int), hcell h_4 ((⟨b, 0, none⟩ : Addr).add (Int.toNat 3 * 1)) = some (.int .i64 t19) ∧
  ((0 : Int) ≤ 4 ∧ 4 < ((6 : Nat) : Int)) ∧
  ∃ (t21 : Int), hcell h_4 ((⟨b, 0, none⟩ : Addr).add (Int.toNat 4 * 1)) = some (.int .i64 t21) ∧
  ((0 : Int) ≤ 5 ∧ 5 < ((6 : Nat) : Int)) ∧
  ∃ (t23 : Int), hcell h_4 ((⟨b, 0, none⟩ : Addr).add (Int.toNat 5 * 1)) = some (.int .i64 t23) ∧
  NewP h_4 (.cells #[.int .i64 (IntKind.wrap .i64 (((t15_l : Nat) : Int) + 1)), .int .i64 t19, .int .i64 t21, .int .i64 t23, .int .i64 ((t11_l : Nat) : Int)] T.int) fun b_1 h_5 =>
  hcell h_5 ⟨t, 0, none⟩ = some (.slice t15_p t15_l t15_c) ∧
  CallsH Tryz.prog F.ref21_numbers #[.slice (some ⟨b_1, 0, none⟩) 5 5] h_5 fun v_2 h_6 =>
  ∃ (t27_p : Option Addr) (t27_l t27_c : Nat), v_2 = .slice t27_p t27_l t27_c ∧
  hcell h_6 ⟨t, 0, none⟩ = some (.slice t15_p t15_l t15_c) ∧
  NewP h_6 (.cells #[.slice t27_p t27_l t27_c] T.s_uint8) fun b_2 h_7 =>
  hcell h_7 ⟨t, 0, none⟩ = some (.slice t15_p t15_l t15_c) ∧
  ∃ (I : Option Addr → Nat → Nat → Int → Heap → Prop) (mu : Option Addr → Nat → Nat → Int → Heap → Nat), I (some ⟨b_2, 0, none⟩) 1 1 0 h_7 ∧ ∀ (out_p : Option Addr) (out_l out_c : Nat) (i : Int) (h_8 : Heap), I out_p out_l out_c i h_8 →
    if (decide (i < ((t11_l : Nat) : Int))) = true then
      ((0 : Int) ≤ i ∧ i < ((t11_l : Nat) : Int)) ∧
      onSome t11_p fun a =>
      ∃ (t39 : Int), hcell h_8 (a.add (Int.toNat i * 11)) = some (.int .i64 t39) ∧
      NewP h_8 (.cells #[.int .i64 t39] T.int) fun b_3 h_9 =>
      CallsH Tryz.prog F.ref21_numbers #[.slice (some ⟨b_3, 0, none⟩) 1 1] h_9 fun v_3 h_10 =>
      ∃ (t41_p : Option Addr) (t41_l t41_c : Nat), v_3 = .slice t41_p t41_l t41_c ∧
      ((0 : Int) ≤ i ∧ i < ((t11_l : Nat) : Int)) ∧
      onSome t11_p fun a_1 =>
      ref04_Eid.LD h_10 ((a_1.add (Int.toNat i * 11)).add 1) fun t47_0 t47_1 t47_2 t47_3 t47_4 =>
      CallsH Tryz.prog F.ref04_Text #[.agg #[.bool t47_0, .int .u64 t47_1, .int .u64 t47_2, .string t47_3, .string t47_4]] h_10 fun v_4 h_11 =>
      ∃ (t48 : ByteArray), v_4 = .string t48 ∧
      denSem Tryz.prog (convert T.string T.s_uint8 (.string t48)) h_11 fun v_5 h_12 =>
      ∃ (t49_p : Option Addr) (t49_l t49_c : Nat), v_5 = .slice t49_p t49_l t49_c ∧
      CallsH Tryz.prog F.ref15_Text #[.slice t49_p t49_l t49_c] h_12 fun v_6 h_13 =>
      ∃ (t50_p : Option Addr) (t50_l t50_c : Nat), v_6 = .slice t50_p t50_l t50_c ∧
      denSem Tryz.prog (Builtin.append_ #[T.s_uint8, T.s_uint8] T.s_uint8 #[.slice t41_p t41_l t41_c, .slice t50_p t50_l t50_c]) h_13 fun v_7 h_14 =>
      ∃ (t51_p : Option Addr) (t51_l t51_c : Nat), v_7 = .slice t51_p t51_l t51_c ∧
      ((0 : Int) ≤ i ∧ i < ((t11_l : Nat) : Int)) ∧
      onSome t11_p fun a_2 =>
      ∃ (t57_p : Option Addr) (t57_l t57_c : Nat), hcell h_14 ((a_2.add (Int.toNat i * 11)).add 6) = some (.slice t57_p t57_l t57_c) ∧
      CallsH Tryz.prog F.ref15_Text #[.slice t57_p t57_l t57_c] h_14 fun v_8 h_15 =>
      ∃ (t58_p : Option Addr) (t58_l t58_c : Nat), v_8 = .slice t58_p t58_l t58_c ∧
      denSem Tryz.prog (Builtin.append_ #[T.s_uint8, T.s_uint8] T.s_uint8 #[.slice t51_p t51_l t51_c, .slice t58_p t58_l t58_c]) h_15 fun v_9 h_16 =>
      ∃ (t59_p : Option Addr) (t59_l t59_c : Nat), v_9 = .slice t59_p t59_l t59_c ∧
      ((0 : Int) ≤ i ∧ i < ((t11_l : Nat) : Int)) ∧
      onSome t11_p fun a_3 =>
      ∃ (t65 : Int), hcell h_16 ((a_3.add (Int.toNat i * 11)).add 7) = some (.int .u64 t65) ∧
      CallsH Tryz.prog F.ref15_Num #[.int .u64 t65] h_16 fun v_10 h_17 =>
      ∃ (t66_p : Option Addr) (t66_l t66_c : Nat), v_10 = .slice t66_p t66_l t66_c ∧
      denSem Tryz.prog (Builtin.append_ #[T.s_uint8, T.s_uint8] T.s_uint8 #[.slice t59_p t59_l t59_c, .slice t66_p t66_l t66_c]) h_17 fun v_11 h_18 =>
      ∃ (t67_p : Option Addr) (t67_l t67_c : Nat), v_11 = .slice t67_p t67_l t67_c ∧
      ((0 : Int) ≤ i ∧ i < ((t11_l : Nat) : Int)) ∧
      onSome t11_p fun a_4 =>
      ∃ (t73 : Int), hcell h_18 ((a_4.add (Int.toNat i * 11)).add 8) = some (.int .i64 t73) ∧
      NewP h_18 (.cells #[.int .i64 t73] T.int) fun b_4 h_19 =>
      CallsH Tryz.prog F.ref21_numbers #[.slice (some ⟨b_4, 0, none⟩) 1 1] h_19 fun v_12 h_20 =>
      ∃ (t75_p : Option Addr) (t75_l t75_c : Nat), v_12 = .slice t75_p t75_l t75_c ∧
      denSem Tryz.prog (Builtin.append_ #[T.s_uint8, T.s_uint8] T.s_uint8 #[.slice t67_p t67_l t67_c, .slice t75_p t75_l t75_c]) h_20 fun v_13 h_21 =>
      ∃ (t76_p : Option Addr) (t76_l t76_c : Nat), v_13 = .slice t76_p t76_l t76_c ∧
      ((0 : Int) ≤ i ∧ i < ((t11_l : Nat) : Int)) ∧
      onSome t11_p fun a_5 =>
      ∃ (t83 : Int), hcell h_21 ((a_5.add (Int.toNat i * 11)).add 9) = some (.int .u64 t83) ∧
      CallsH Tryz.prog F.ref15_Num #[.int .u64 t83] h_21 fun v_14 h_22 =>
      ∃ (t84_p : Option Addr) (t84_l t84_c : Nat), v_14 = .slice t84_p t84_l t84_c ∧
      denSem Tryz.prog (Builtin.append_ #[T.s_uint8, T.s_uint8] T.s_uint8 #[.slice t76_p t76_l t76_c, .slice t84_p t84_l t84_c]) h_22 fun v_15 h_23 =>
      ∃ (t85_p : Option Addr) (t85_l t85_c : Nat), v_15 = .slice t85_p t85_l t85_c ∧
      NewP h_23 (.cells #[.slice t85_p t85_l t85_c] T.s_uint8) fun b_5 h_24 =>
      denSem Tryz.prog (Builtin.append_ #[T.s_s_uint8, T.s_s_uint8] T.s_s_uint8 #[.slice out_p out_l out_c, .slice (some ⟨b_5, 0, none⟩) 1 1]) h_24 fun v_16 h_25 =>
      ∃ (t87_p : Option Addr) (t87_l t87_c : Nat), v_16 = .slice t87_p t87_l t87_c ∧
      (I t87_p t87_l t87_c (IntKind.wrap .i64 (i + 1)) h_25 ∧ mu t87_p t87_l t87_c (IntKind.wrap .i64 (i + 1)) h_25 < mu out_p out_l out_c i h_8)
    else
      R (.slice out_p out_l out_c) h_8
theorem ref21_Table_Save.den_eq (t : Nat) (h : Heap) (R : Value → Heap → Prop) : ref21_Table_Save.vc t h R = den Tryz.prog Tryz.f22.ntmps (.seq .leaf (.seq .leaf (.seq .leaf (.seq (.plan (.op 0 (.op 1 (.op 2 (.op 3 (.op 4 (.op 5 (.op 6 (.op 7 (.op 8 (.op 9 (.op 10 (.op 11 (.op 12 (.op 13 (.op 14 (.op 15 (.op 16 (.op 17 .done))))))))))))))))))) (.seq (.seq .leaf (.block (.loop [(5, .one (.slice)), (6, .one (.int .i64))] (.seq (.seq .leaf (.cond .leaf .leaf)) (.seq (.block (.seq .leaf (.seq .leaf (.seq .leaf (.seq .leaf (.seq .leaf .leaf)))))) .leaf))))) (.seq .leaf .leaf)))))) none (bodyOf Tryz.f22) (retK Tryz.prog Tryz.f22.results R) (argEnv [.pointer (some ⟨t, 0, none⟩)]) h := by kernel_rfl
theorem ref21_Table_Save.walk {t : Nat} {h : Heap} {R : Value → Heap → Prop} (hv : ref21_Table_Save.vc t h R) : CallsH Tryz.prog F.ref21_Table_Save #[.pointer (some ⟨t, 0, none⟩)] h R :=
  callsH_of_body _ Tryz.func22 rfl rfl (Eq.mp (ref21_Table_Save.den_eq t h R) hv)

end Go.Proofs.YtgccegnmggjkjaaGreatDoor

/-
  What is proved here: the document's table of copies (package ref21) in memory: There, is, count, Ready, Counts. No condition.
-/
set_option maxRecDepth 100000
namespace Go.Proofs.YtgccegnmggjkjaaGreatDoor
open Go.Den Go.Fields
namespace Rcp
open Eid Cps Fld
variable {h h' h0 : Heap} {x : Nat} {X : Ft} {R : Value → Heap → Prop} {p q : Option Addr} {c d i : Nat}
/-- a copy, and what became of it -/
structure RC where
  c : Cp
  fate : Nat
structure RW where
  num : Nat
  e : Ev
  v : BV
  till : Nat
  ses : Int
  dl : Nat
  fate : Nat
def RW.abs (y : RW) : RC := ⟨⟨y.num, y.e, y.v.b, y.till, y.ses, y.dl⟩, y.fate⟩
abbrev cenc (y : RW) : List Value := [.int .i64 (y.num : Int), .bool y.e.ipn, .int .u64 y.e.node, .int .u64 y.e.svc, .string y.e.host, .string y.e.dem, y.v.val, .int .u64 (y.till : Int), .int .i64 y.ses, .int .u64 (y.dl : Int), .int .i64 (y.fate : Int)]
theorem cenc_len (y : RW) : (cenc y).length = 11 := rfl
theorem cenc_1 (y : RW) : ∀ v ∈ cenc y, oneCell v = true := by
  intro v hv
  simp only [cenc, List.mem_cons, List.not_mem_nil, or_false] at hv
  rcases hv with rfl | rfl | rfl | rfl | rfl | rfl | rfl | rfl | rfl | rfl | rfl <;> rfl
theorem tC : SlTy Tryz.prog T.s_ref21_Copy T.ref21_Copy 11 120 (.agg #[.int .i64 0, .bool false, .int .u64 0, .int .u64 0, .string ⟨#[]⟩, .string ⟨#[]⟩, .slice none 0 0, .int .u64 0, .int .i64 0, .int .u64 0, .int .i64 0]) := ⟨by kernel_rfl, by kernel_rfl, rfl⟩
theorem uC : Tryz.prog.underlying T.s_ref21_Copy = some (.slice T.ref21_Copy) := by kernel_rfl
structure Rm (h : Heap) (x : Nat) (X : Ft) (Ls : List RC) (lp : Option Addr) (lc : Nat) (xs : List RW) : Prop where
  blk : h[x]? = some (.cells #[.slice lp xs.length lc] T.ref21_Table (0, 0))
  own : Own h lp xs.length lc 11 (xs.flatMap cenc)
  abs : xs.map RW.abs = Ls
  dat : ∀ y ∈ xs, y.v.ok h X.D
  m : ∀ c, X.M c ↔ c = x ∨ inBlk lp c
  bl : ¬ inBlk lp x
  dis : ∀ c, X.M c → ¬ X.D c
  dlt : ∀ c, X.D c → c < h.size
def Rb (h : Heap) (x : Nat) (X : Ft) (Ls : List RC) : Prop := ∃ lp lc xs, Rm h x X Ls lp lc xs
variable {Ls : List RC} {lp : Option Addr} {lc : Nat} {xs : List RW}
theorem Rm.lt (H : Rm h x X Ls lp lc xs) (y : Nat) (hy : X.M y ∨ X.D y) : y < h.size := by
  rcases hy with hy | hy
  · rcases (H.m y).1 hy with rfl | h1
    · exact lt_of_get H.blk
    · exact H.own.blk_lt h1
  · exact H.dlt y hy
theorem Rb.lt (H : Rb h x X Ls) (y : Nat) (hy : X.M y ∨ X.D y) : y < h.size := by
  obtain ⟨lp, lc, xs, H⟩ := H
  exact H.lt y hy
theorem Rm.frame {Q : Nat → Prop} (H : Rm h x X Ls lp lc xs) (f : Fr Q h h') (hq : ∀ y, X.M y ∨ X.D y → ¬ Q y) : Rm h' x X Ls lp lc xs :=
  have hm : ∀ y, X.M y → ¬ Q y := fun y hy => hq y (.inl hy)
  ⟨f.get H.blk (hm x ((H.m x).2 (.inl rfl))), H.own.frame f (fun y hy => hm y ((H.m y).2 (.inr hy))), H.abs, fun y hy => (H.dat y hy).frame f (fun z hz => hq z (.inr hz)), H.m, H.bl, H.dis, fun y hy => Nat.lt_of_lt_of_le (H.dlt y hy) f.1⟩
theorem Rb.frame {Q : Nat → Prop} (H : Rb h x X Ls) (f : Fr Q h h') (hq : ∀ y, X.M y ∨ X.D y → ¬ Q y) : Rb h' x X Ls := by
  obtain ⟨lp, lc, xs, H⟩ := H
  exact ⟨lp, lc, xs, H.frame f hq⟩
theorem Rm.on (H : Rm h x X Ls lp lc xs) (f : Fr (fun _ => False) h h') : Rm h' x X Ls lp lc xs := H.frame f (fun _ _ => id)
theorem Rb.on (H : Rb h x X Ls) (f : Fr (fun _ => False) h h') : Rb h' x X Ls := H.frame f (fun _ _ => id)
theorem Rm.len (H : Rm h x X Ls lp lc xs) : xs.length = Ls.length := by rw [← H.abs, List.length_map]
theorem Rm.get (H : Rm h x X Ls lp lc xs) {y : RC} (hy : Ls[i]? = some y) : ∃ v, xs[i]? = some v ∧ v.abs = y := by
  rw [← H.abs, List.getElem?_map] at hy
  cases hv : xs[i]? with
  | none => rw [hv] at hy; cases hy
  | some v => rw [hv] at hy; exact ⟨v, rfl, Option.some.inj hy⟩
theorem Rm.at (H : Rm h x X Ls lp lc xs) {v : RW} (hv : xs[i]? = some v) : Ls[i]? = some v.abs := by rw [← H.abs, List.getElem?_map, hv]; rfl
/-- a cell of one of them -/
theorem cel {a : Addr} {y : RW} (hh : heldL a (cenc y) 0 h) (j : Nat) {w : Value} (hj : (cenc y)[j]? = some w) : hcell h (a.add j) = some w := by
  have := heldL_at.1 hh j w hj
  rwa [Nat.zero_add] at this
theorem lde {g : Heap} {a : Addr} {y : RW} {K : Bool → Int → Int → ByteArray → ByteArray → Prop} (hh : heldL a (cenc y) 0 g) (hk : K y.e.ipn y.e.node y.e.svc y.e.host y.e.dem) : ref04_Eid.LD g (a.add 1) K :=
  ⟨_, cel hh 1 rfl, _, by rw [add_add]; exact cel hh 2 rfl, _, by rw [add_add]; exact cel hh 3 rfl, _, by rw [add_add]; exact cel hh 4 rfl, _, by rw [add_add]; exact cel hh 5 rfl, hk⟩
/-- one cell of one of them changes -/
theorem Rm.upd {K : Heap → Prop} {a : Addr} {y y' : RW} {j : Nat} {w : Value} (H : Rm h x X Ls (some a) lc xs) (hy : xs[i]? = some y) (hj : j < 11) (he : cenc y' = (cenc y).set j w) (hv : y'.v = y.v)
    (hk : ∀ h', Rm h' x X (Ls.set i y'.abs) (some a) lc (xs.set i y') → StepF X h X h' → K h') : StoreP h ((a.add (i * 11)).add j) w K := by
  have hi := (List.getElem?_eq_some_iff.1 hy).1
  rw [add_add]
  have hl : (xs.flatMap cenc).length = xs.length * 11 := flat_len cenc 11 cenc_len xs
  refine H.own.store (by omega) ?_
  intro h' o' hs hoth
  have e : (xs.flatMap cenc).set (i * 11 + j) w = (xs.set i y').flatMap cenc := by
    refine flat_set cenc 11 cenc_len xs i y' hi _ (by rw [List.length_set]) ?_ ?_
    · intro k hk
      rw [List.getElem?_set_ne]
      intro e0
      subst e0
      rcases hk with hk | hk <;> omega
    · intro k u hk hu
      rw [he] at hu
      by_cases ek : k = j
      · subst ek
        rw [List.getElem?_set_self (by rw [cenc_len]; exact hk)] at hu
        rw [List.getElem?_set_self (by omega)]; exact hu
      · rw [List.getElem?_set_ne (by omega)] at hu
        rw [List.getElem?_set_ne (by omega)]
        exact flat_at cenc 11 cenc_len xs i y hy k u hu
  rw [e] at o'
  have fr : Fr (inBlk (some a)) h h' := ⟨by omega, fun y _ hn => hoth y hn⟩
  have hD : ∀ y, X.D y → ¬ inBlk (some a) y := fun y hd hb => H.dis y ((H.m y).2 (.inr hb)) hd
  refine hk h' ⟨by rw [List.length_set]; exact fr.get H.blk H.bl, by rw [List.length_set]; exact o', ?_, ?_, H.m, H.bl, H.dis, fun y hy => Nat.lt_of_lt_of_le (H.dlt y hy) fr.1⟩ (StepF.of_fr (fr.mono (fun y _ hb => (H.m y).2 (.inr hb))))
  · rw [List.map_set, H.abs]
  · intro z hz
    rcases List.mem_or_eq_of_mem_set hz with hz | rfl
    · exact (H.dat z hz).frame fr hD
    · rw [hv]; exact (H.dat y (List.mem_of_getElem? hy)).frame fr hD
/-! ### reading -/
theorem there_ok (H : Rb h x X Ls) (hl : Ls.length ≤ 1000000)
    (hk : ∀ h' p' c' (ys : List RW), Own h' p' ys.length c' 11 (ys.flatMap cenc) → (∀ y, inBlk p' y → h.size ≤ y) → ys.map RW.abs = Ls.filter (fun y => decide (y.fate = 0)) → (∀ y ∈ ys, y.v.ok h' X.D) → Fr (fun _ => False) h h' → R (.slice p' ys.length c') h') :
    CallsH Tryz.prog F.ref21_Table_There #[.pointer (some ⟨x, 0, none⟩)] h R := by
  obtain ⟨lp, lc, xs, H⟩ := H
  have hlen := H.len
  refine ref21_Table_There.walk ?_
  refine ⟨fun op ol oc t g => ∃ (k : Nat) (ys : List RW), t = (k : Int) ∧ k ≤ xs.length ∧ ol = ys.length ∧ ys.length ≤ k ∧ Own g op ol oc 11 (ys.flatMap cenc) ∧ (∀ y, inBlk op y → h.size ≤ y) ∧ ys.map RW.abs = (Ls.take k).filter (fun y => decide (y.fate = 0)) ∧ (∀ y ∈ ys, y ∈ xs) ∧ Fr (fun _ => False) h g, fun _ _ _ t _ => xs.length - t.toNat,
    ⟨0, [], rfl, by omega, rfl, by simp, .nil rfl rfl rfl rfl, (fun y ⟨a, e, _⟩ => by cases e), by simp, (fun y hy => by cases hy), Fr.refl _ _⟩, ?_⟩
  rintro op ol oc _ g ⟨k, ys, rfl, hkn, rfl, hyk, o, hop, hab, hsub, fg⟩
  have Mg := H.on fg
  refine ⟨_, _, _, cell_at Mg.blk rfl, ?_⟩
  by_cases hlt : k < xs.length
  · have q1 : (k : Int) < ((xs.length : Nat) : Int) := by omega
    simp only [q1, decide_true, if_true, Int.toNat_natCast]
    have hx : xs[k]? = some xs[k] := List.getElem?_eq_getElem hlt
    generalize xs[k] = v at hx
    have hLk := H.at hx
    obtain ⟨ab, aoff, rfl⟩ := Mg.own.addr (by omega)
    have held := Mg.own.heldAt cenc_len hx
    refine JoinP.of fun J hJ => ⟨_, _, _, cell_at Mg.blk rfl, ⟨by first | trivial | omega, by first | trivial | omega⟩, onSome_some.2 ⟨(v.fate : Int), cel held 10 rfl, JoinP.of fun J1 hJ1 => ?_⟩⟩
    subst hJ1; subst hJ
    have wr : IntKind.wrap .i64 ((k : Int) + 1) = (k : Int) + 1 := wrap_id (by omega) (by omega)
    by_cases hf : v.fate = 0
    · rw [if_pos (by rw [hf]; rfl)]
      refine ⟨_, _, _, cell_at Mg.blk rfl, ⟨by first | trivial | omega, by first | trivial | omega⟩, onSome_some.2 (ref21_Copy.ldA held ?_)⟩
      refine den_append1 tC uC o rfl (fun w hw => cenc_1 v w (by simpa using hw)) (by omega) (by omega) fun p5 c5 h5 o5 f5 g5 => ⟨_, _, _, rfl, ?_⟩
      have zg := fg.1
      have cat : ys.flatMap cenc ++ cenc v = (ys ++ [v]).flatMap cenc := by rw [List.flatMap_append]; simp
      have ln : (ys ++ [v]).length = ys.length + 1 := by rw [List.length_append]; rfl
      dsimp only
      rw [wr]
      refine ⟨⟨k + 1, ys ++ [v], by omega, by omega, ln.symm, by omega, by rw [← cat]; exact o5, fun y hy => (g5 y hy).elim (hop y) (fun h2 => by omega), ?_, fun y hy => ?_, fg.fresh f5 hop⟩, by show xs.length - Int.toNat ((k : Int) + 1) < xs.length - k; omega⟩
      · rw [List.map_append, hab, List.take_add_one, hLk, List.filter_append]
        have : decide (v.abs.fate = 0) = true := decide_eq_true hf
        simp [List.filter_cons, this]
      · rcases List.mem_append.1 hy with hy | hy
        · exact hsub y hy
        · obtain rfl := List.mem_singleton.1 hy
          exact List.mem_of_getElem? hx
    · have hfi : ¬ ((v.fate : Int) == 0) = true := by simp only [beq_iff_eq]; omega
      rw [if_neg hfi]
      rw [wr]
      refine ⟨⟨k + 1, ys, by omega, by omega, rfl, by omega, o, hop, ?_, hsub, fg⟩, by show xs.length - Int.toNat ((k : Int) + 1) < xs.length - k; omega⟩
      rw [hab, List.take_add_one, hLk, List.filter_append]
      have : decide (v.abs.fate = 0) = false := decide_eq_false hf
      simp [List.filter_cons, this]
  · have q1 : ¬ (k : Int) < ((xs.length : Nat) : Int) := by omega
    simp only [q1, decide_false, Bool.false_eq_true, if_false]
    rw [List.take_of_length_le (by omega)] at hab
    exact hk g op oc ys o hop hab (fun y hy => Mg.dat y (hsub y hy)) fg
/-- is it there, and of an endpoint? -/
def isE (e : Ev) (y : RC) : Bool := decide (y.fate = 0) && decide (y.c.e = e)
theorem is_ok (H : Rm h x X Ls lp lc xs) {y : RW} (hy : xs[i]? = some y) (e : Ev) (hk : ∀ h', Fr (fun _ => False) h h' → R (.bool (isE e y.abs)) h') : CallsH Tryz.prog F.ref21_Table_is #[.pointer (some ⟨x, 0, none⟩), .int .i64 (i : Int), ev5 e] h R := by
  refine ref21_Table_is.walk (ref04_Eid.box fun b h1 eb hb f1 => ?_)
  have H1 := H.on f1
  have K := hk h1 f1
  unfold isE at K
  have hi := (List.getElem?_eq_some_iff.1 hy).1
  obtain ⟨ab, aoff, rfl⟩ := H1.own.addr (by omega)
  have held := H1.own.heldAt cenc_len hy
  simp only [Int.toNat_natCast]
  refine ⟨_, _, _, cell_at H1.blk rfl, ⟨by first | trivial | omega, by first | trivial | omega⟩, onSome_some.2 ⟨(y.fate : Int), cel held 10 rfl, ?_⟩⟩
  by_cases hf : y.fate = 0
  · rw [if_pos (by rw [hf]; rfl)]
    refine ⟨_, _, _, cell_at H1.blk rfl, ⟨by first | trivial | omega, by first | trivial | omega⟩, onSome_some.2 (lde held (ref04_Eid.ld hb ⟨_, eqv04' (x := y.e) (y := e) rfl rfl, ?_⟩))⟩
    have e1 : decide (y.abs.fate = 0) = true := decide_eq_true hf
    rw [e1, Bool.true_and] at K
    exact K
  · rw [if_neg (by simp only [beq_iff_eq]; omega)]
    have e1 : decide (y.abs.fate = 0) = false := decide_eq_false hf
    rw [e1, Bool.false_and] at K
    exact K
def cntE (Ls : List RC) (e : Ev) (ready : Bool) : Nat := (Ls.filter (fun y => isE e y && (!ready || decide (y.c.ses = 0)))).length
theorem cnt_take {P : RC → Bool} {y : RC} {k : Nat} (hy : Ls[k]? = some y) : ((Ls.take (k + 1)).filter P).length = ((Ls.take k).filter P).length + if P y = true then 1 else 0 := by
  rw [List.take_add_one, hy, List.filter_append, List.length_append]
  cases hp : P y <;> simp [hp]
theorem count_ok (H : Rb h x X Ls) (hl : Ls.length ≤ 1000000) (e : Ev) (ready : Bool) (hk : ∀ h', Fr (fun _ => False) h h' → R (.int .i64 (cntE Ls e ready : Int)) h') : CallsH Tryz.prog F.ref21_Table_count #[.pointer (some ⟨x, 0, none⟩), ev5 e, .bool ready] h R := by
  obtain ⟨lp, lc, xs, H⟩ := H
  have hlen := H.len
  refine ref21_Table_count.walk (ref04_Eid.box fun b h1 eb hb f1 => ?_)
  refine ⟨fun n t g => ∃ k : Nat, t = (k : Int) ∧ k ≤ xs.length ∧ n = (cntE (Ls.take k) e ready : Int) ∧ Fr (fun _ => False) h1 g, fun _ t _ => xs.length - t.toNat, ⟨0, rfl, by omega, by simp [cntE], Fr.refl _ _⟩, ?_⟩
  rintro _ _ g ⟨k, rfl, hkn, rfl, fg⟩
  have Mg := H.on (f1.tt fg)
  have hle : cntE (Ls.take k) e ready ≤ k := by unfold cntE; exact Nat.le_trans (List.length_filter_le _ _) (by rw [List.length_take]; omega)
  refine ⟨_, _, _, cell_at Mg.blk rfl, ?_⟩
  by_cases hlt : k < xs.length
  · have q1 : (k : Int) < ((xs.length : Nat) : Int) := by omega
    simp only [q1, decide_true, if_true, Int.toNat_natCast]
    have hx : xs[k]? = some xs[k] := List.getElem?_eq_getElem hlt
    generalize xs[k] = v at hx
    have hLk := H.at hx
    refine JoinP.of fun J hJ => JoinP.of fun J1 hJ1 => ?_
    have done : ∀ (q : Bool) g', Fr (fun _ => False) g g' → q = (isE e v.abs && (!ready || decide (v.abs.c.ses = 0))) → J1 q g' := fun q g' fg' hq => by
      subst hJ1
      refine JoinP.of fun J2 hJ2 => ?_
      have ek : cntE (Ls.take (k + 1)) e ready = cntE (Ls.take k) e ready + if q = true then 1 else 0 := by unfold cntE; rw [cnt_take hLk, hq]
      subst hJ2; subst hJ
      dsimp only
      rw [wrap_id (n := (k : Int) + 1) (by omega) (by omega)]
      cases q with
      | true =>
        rw [if_pos rfl, wrap_id (by omega) (by omega)]
        rw [if_pos rfl] at ek
        exact ⟨⟨k + 1, by omega, by omega, by omega, fg.tt fg'⟩, by show xs.length - Int.toNat ((k : Int) + 1) < xs.length - k; omega⟩
      | false =>
        rw [if_neg (by decide)]
        rw [if_neg (by decide)] at ek
        exact ⟨⟨k + 1, by omega, by omega, by omega, fg.tt fg'⟩, by show xs.length - Int.toNat ((k : Int) + 1) < xs.length - k; omega⟩
    refine ref04_Eid.ld (fg.get hb id) (is_ok Mg hx e fun g2 f2 => ⟨_, rfl, ?_⟩)
    by_cases hi : isE e v.abs = true
    · rw [if_pos hi]
      cases ready with
      | false => rw [if_pos (by decide)]; exact done _ g2 f2 (by rw [hi]; rfl)
      | true =>
        rw [if_neg (by decide)]
        have M2 := Mg.on f2
        obtain ⟨ab, aoff, rfl⟩ := M2.own.addr (by omega)
        refine ⟨_, _, _, cell_at M2.blk rfl, ⟨by first | trivial | omega, by first | trivial | omega⟩, onSome_some.2 ⟨v.ses, cel (M2.own.heldAt cenc_len hx) 8 rfl, done _ g2 f2 ?_⟩⟩
        rw [hi]
        show (v.ses == 0) = (true && (false || decide (v.ses = 0)))
        rw [Bool.eq_iff_iff]; simp
    · rw [if_neg hi]
      refine done _ g2 f2 ?_
      have : isE e v.abs = false := by simpa using hi
      rw [this]; rfl
  · have q1 : ¬ (k : Int) < ((xs.length : Nat) : Int) := by omega
    simp only [q1, decide_false, Bool.false_eq_true, if_false]
    rw [List.take_of_length_le (by omega)]
    exact hk g (f1.tt fg)
theorem ready_ok (H : Rb h x X Ls) (hl : Ls.length ≤ 1000000) (e : Ev) (hk : ∀ h', Fr (fun _ => False) h h' → R (.int .i64 (cntE Ls e true : Int)) h') : CallsH Tryz.prog F.ref21_Table_Ready #[.pointer (some ⟨x, 0, none⟩), ev5 e] h R :=
  ref21_Table_Ready.walk (ref04_Eid.box fun b h1 eb hb f1 => ref04_Eid.ld hb (count_ok (H.on f1) hl e true fun h2 f2 => ⟨_, rfl, hk h2 (f1.tt f2)⟩))
/-! ### what became of all -/
def kx (y : RC) : Nat := if y.fate = 0 ∧ y.c.ses = 0 then 1 else y.fate + 2
def cntK (Ls : List RC) (j : Nat) : Nat := (Ls.filter (fun y => decide (kx y = j))).length
theorem cntK_le (Ls : List RC) (j k : Nat) : cntK (Ls.take k) j ≤ k := by unfold cntK; exact Nat.le_trans (List.length_filter_le _ _) (by rw [List.length_take]; omega)
theorem counts_ok (H : Rb h x X Ls) (hl : Ls.length ≤ 1000000) (hf : ∀ y ∈ Ls, y.fate ≤ 3)
    (hk : ∀ h', Fr (fun _ => False) h h' → R (.agg #[.int .i64 ((Ls.length : Nat) : Int), .int .i64 (cntK Ls 1 : Int), .int .i64 (cntK Ls 2 : Int), .int .i64 (cntK Ls 3 : Int), .int .i64 (cntK Ls 4 : Int), .int .i64 (cntK Ls 5 : Int)]) h') :
    CallsH Tryz.prog F.ref21_Table_Counts #[.pointer (some ⟨x, 0, none⟩)] h R := by
  obtain ⟨lp, lc, xs, H⟩ := H
  have hlen := H.len
  refine ref21_Table_Counts.walk (newP_of ?_)
  have f1 : Fr (fun _ => False) h (h.push (.cells #[.int .i64 0, .int .i64 0, .int .i64 0, .int .i64 0, .int .i64 0, .int .i64 0] T.a6_int)) := Fr.push _ _
  have hb1 : a6_int.at (h.push (.cells #[.int .i64 0, .int .i64 0, .int .i64 0, .int .i64 0, .int .i64 0, .int .i64 0] T.a6_int)) h.size 0 0 0 0 0 0 := push_new
  generalize h.push (.cells #[.int .i64 0, .int .i64 0, .int .i64 0, .int .i64 0, .int .i64 0, .int .i64 0] T.a6_int) = h1 at f1 hb1 ⊢
  refine ⟨_, _, _, cell_at (H.on f1).blk rfl, a6_int.new fun b2 h2 e2 hb2 f2 => ?_⟩
  have F2 := f1.tt f2
  have z1 := lt_of_get hb1
  rw [hlen] at hb2
  refine ⟨fun t g => ∃ k : Nat, t = (k : Int) ∧ k ≤ Ls.length ∧ a6_int.at g b2 ((Ls.length : Nat) : Int) (cntK (Ls.take k) 1 : Int) (cntK (Ls.take k) 2 : Int) (cntK (Ls.take k) 3 : Int) (cntK (Ls.take k) 4 : Int) (cntK (Ls.take k) 5 : Int) ∧ Fr (fun y => y = b2) h2 g, fun t _ => Ls.length - t.toNat, ⟨0, rfl, by omega, by simpa [cntK] using hb2, Fr.refl _ _⟩, ?_⟩
  rintro _ g ⟨k, rfl, hkn, hbg, fg⟩
  have nb : ∀ y, X.M y ∨ X.D y → ¬ y = b2 := fun y hy e => by have := H.lt y hy; have := f1.1; omega
  have Mg : Rm g x X Ls lp lc xs := (H.on F2).frame fg nb
  refine ⟨_, _, _, cell_at Mg.blk rfl, ?_⟩
  by_cases hlt : k < Ls.length
  · have q1 : (k : Int) < ((xs.length : Nat) : Int) := by omega
    simp only [q1, decide_true, if_true, Int.toNat_natCast]
    have hx : xs[k]? = some (xs[k]'(by omega)) := List.getElem?_eq_getElem _
    generalize xs[k]'(by omega) = v at hx
    have hLk := H.at hx
    have hvf : v.fate ≤ 3 := hf v.abs (List.mem_of_getElem? hLk)
    obtain ⟨ab, aoff, rfl⟩ := Mg.own.addr (by omega)
    have held := Mg.own.heldAt cenc_len hx
    have c1 := cntK_le Ls 1 k
    have c2 := cntK_le Ls 2 k
    have c3 := cntK_le Ls 3 k
    have c4 := cntK_le Ls 4 k
    have c5 := cntK_le Ls 5 k
    have ek : ∀ j, cntK (Ls.take (k + 1)) j = cntK (Ls.take k) j + if kx v.abs = j then 1 else 0 := fun j => by
      unfold cntK
      rw [cnt_take hLk]; simp only [decide_eq_true_eq]
    refine ⟨_, _, _, cell_at Mg.blk rfl, ⟨by first | trivial | omega, by first | trivial | omega⟩, onSome_some.2 ⟨(v.fate : Int), cel held 10 rfl, JoinP.of fun J hJ => ?_⟩⟩
    have w2 : IntKind.wrap .i64 ((v.fate : Int) + 2) = ((v.fate + 2 : Nat) : Int) := by rw [wrap_id (by omega) (by omega)]; omega
    rw [w2]
    rw [w2] at hJ
    have go : ∀ t : Bool, (t = true ↔ v.fate = 0 ∧ v.ses = 0) → J t g := fun t ht => by
      subst hJ
      dsimp only
      refine JoinP.of fun J1 hJ1 => ?_
      have fin : ∀ n : Nat, n = kx v.abs → J1 (n : Int) g := fun n hn => by
        subst hJ1
        dsimp only
        rw [wrap_id (n := (k : Int) + 1) (by omega) (by omega)]
        have hn15 : 1 ≤ n ∧ n ≤ 5 := by rw [hn]; unfold kx; split; omega; show 1 ≤ v.fate + 2 ∧ v.fate + 2 ≤ 5; omega
        have emeas : ∀ g' : Heap, (fun (t : Int) (_ : Heap) => Ls.length - t.toNat) ((k : Int) + 1) g' < (fun (t : Int) (_ : Heap) => Ls.length - t.toNat) (k : Int) g := fun g' => by show Ls.length - Int.toNat ((k : Int) + 1) < Ls.length - k; omega
        rw [← hn] at ek
        simp only [Int.toNat_natCast, Nat.mul_one]
        have hlt6 : ((0 : Int) ≤ (n : Int) ∧ (n : Int) < ((6 : Nat) : Int)) := ⟨by omega, by omega⟩
        refine ⟨hlt6, ?_⟩
        have st : ∀ g' : Heap, g'.size = g.size → (∀ y, y ≠ b2 → g'[y]? = g[y]?) → Fr (fun y => y = b2) h2 g' := fun g' hs ho => fg.tt ⟨by omega, fun y _ hn => ho y hn⟩
        rcases (show n = 1 ∨ n = 2 ∨ n = 3 ∨ n = 4 ∨ n = 5 by omega) with e | e | e | e | e <;> subst e
        all_goals
          refine ⟨_, cell_at hbg rfl, hlt6, storeP_blk hbg (by simp) fun g' a' s' o' => ⟨⟨k + 1, by omega, by omega, ?_, st g' s' o'⟩, emeas g'⟩⟩
          rw [wrap_id (by omega) (by omega)] at a'
          rw [ek 1, ek 2, ek 3, ek 4, ek 5]
          simpa [a6_int.at] using a'
      cases t with
      | true =>
        rw [if_pos rfl]
        exact fin 1 (by unfold kx; exact (if_pos (ht.1 rfl)).symm)
      | false =>
        rw [if_neg (by decide)]
        refine fin (v.fate + 2) ?_
        unfold kx
        exact (if_neg (c := v.fate = 0 ∧ v.ses = 0) (fun hh => by have := ht.2 hh; cases this)).symm
    by_cases hz : v.fate = 0
    · rw [if_pos (by rw [hz]; rfl)]
      refine ⟨_, _, _, cell_at Mg.blk rfl, ⟨by first | trivial | omega, by first | trivial | omega⟩, onSome_some.2 ⟨v.ses, cel held 8 rfl, go _ ?_⟩⟩
      simp [hz]
    · rw [if_neg (by simp only [beq_iff_eq]; omega)]
      exact go _ (by simp [hz])
  · have q1 : ¬ (k : Int) < ((xs.length : Nat) : Int) := by omega
    simp only [q1, decide_false, Bool.false_eq_true, if_false]
    rw [List.take_of_length_le (by omega)] at hbg
    have hb1g := fg.get (f2.get hb1 id) (by omega)
    refine a6_int.ld hbg (a6_int.set hb1g fun g2 a2 s2 o2 => a6_int.ld a2 ?_)
    refine hk g2 ((F2.fresh fg (fun y e => by have := f1.1; omega)).fresh (S := fun y => y = h.size) ⟨by omega, fun y _ hn => o2 y hn⟩ (fun y e => Nat.le_of_eq e.symm))
end Rcp
end Go.Proofs.YtgccegnmggjkjaaGreatDoor

/-
  What is proved here: the document's table of copies (package ref21) in memory: Add, Lease, End, Drop, Pass. No condition.
-/
set_option maxRecDepth 100000
namespace Go.Proofs.YtgccegnmggjkjaaGreatDoor
open Go.Den Go.Fields
namespace Rcp
open Eid Cps Fld
variable {h h' h0 : Heap} {x : Nat} {X : Ft} {R : Value → Heap → Prop} {p q : Option Addr} {c d i : Nat} {Ls : List RC} {lp : Option Addr} {lc : Nat} {xs : List RW}
def mayC (e : Ev) (n till : Nat) : Bool := decide (¬ kindE e < 1) && (decide (0 < n) && (decide (n ≤ 600) && decide (till ≤ 1099511627776)))
theorem may_ok {k : Int} (e : Ev) {n cap : Nat} (till : Nat) (hk0 : k = (till : Int)) (hk : ∀ h', Fr (fun _ => False) h h' → R (.bool (mayC e n till)) h') : CallsH Tryz.prog F.ref21_May #[ev5 e, .slice p n cap, .int .u64 k] h R := by
  subst hk0
  refine ref21_May.walk (ref04_Eid.box fun b h1 eb hb f1 => ref04_Eid.ld hb (rkind_ok e fun h2 f2 => ⟨_, rfl, ?_⟩))
  have K := hk h2 (f1.tt f2)
  unfold mayC at K
  by_cases q1 : kindE e > 0
  · rw [if_pos (decide_eq_true q1)]
    rw [decide_eq_true (p := ¬ kindE e < 1) (by omega), Bool.true_and] at K
    by_cases q2 : 0 < n
    · rw [if_pos (decide_eq_true (by omega))]
      rw [decide_eq_true q2, Bool.true_and] at K
      by_cases q3 : n ≤ 600
      · rw [if_pos (decide_eq_true (by omega))]
        rw [decide_eq_true q3, Bool.true_and] at K
        have : decide ((till : Int) ≤ 1099511627776) = decide (till ≤ 1099511627776) := decide_eq_decide.2 ⟨by omega, by omega⟩
        rw [this]; exact K
      · rw [if_neg (by simp; omega)]
        rw [decide_eq_false q3] at K; exact K
    · rw [if_neg (by simp; omega)]
      rw [decide_eq_false q2] at K; exact K
  · rw [if_neg (by simpa using q1)]
    rw [decide_eq_false (p := ¬ kindE e < 1) (by omega)] at K; exact K
def addE (Ls : List RC) (e : Ev) (n till : Nat) : Int := if mayC e n till = false then 1 else if cntE Ls e false ≥ 16 then 15 else 0
theorem radd_ok {k : Int} {n cap : Nat} {t : List UInt8} (H : Rb h x X Ls) (hl : Ls.length ≤ 1000000) (e : Ev) (till : Nat) (hk0 : k = (till : Int)) (hr : Row h p (bc t)) (hn : n = t.length)
    (k1 : addE Ls e t.length till ≠ 0 → ∀ h', Fr (fun _ => False) h h' → R (.tuple #[.int .i64 0, .int .i64 (addE Ls e t.length till)]) h')
    (k2 : addE Ls e t.length till = 0 → ∀ h' X', Rb h' x X' (Ls ++ [⟨⟨Ls.length + 1, e, t, till, 0, 0⟩, 0⟩]) → StepF X h X' h' → R (.tuple #[.int .i64 ((Ls.length : Int) + 1), .int .i64 0]) h') :
    CallsH Tryz.prog F.ref21_Table_Add #[.pointer (some ⟨x, 0, none⟩), ev5 e, .slice p n cap, .int .u64 k] h R := by
  subst hn
  refine ref21_Table_Add.walk (ref04_Eid.box fun b h1 eb hb f1 => ref04_Eid.ld hb (may_ok e till hk0 fun h2 f2 => ⟨_, rfl, ?_⟩))
  have F2 := f1.tt f2
  by_cases q1 : mayC e t.length till = true
  · rw [if_neg (by simpa using q1)]
    refine ref04_Eid.ld (f2.get hb id) (count_ok (H.on F2) hl e false fun h3 f3 => ⟨_, rfl, ?_⟩)
    have F3 := F2.tt f3
    by_cases q2 : cntE Ls e false ≥ 16
    · have ea : addE Ls e t.length till = 15 := by unfold addE; rw [q1]; simp [q2]
      rw [if_pos (decide_eq_true (by omega))]
      rw [ea] at k1
      exact k1 (by decide) h3 F3
    · have ea : addE Ls e t.length till = 0 := by unfold addE; rw [q1]; simp [q2]
      rw [if_neg (by simp; omega)]
      have K := k2 ea
      clear k1 k2
      obtain ⟨lp, lc, xs, H⟩ := H
      have hlen := H.len
      have H3 := H.on F3
      have hm6 : t.length ≤ 600 := by
        unfold mayC at q1
        simp only [Bool.and_eq_true, decide_eq_true_eq] at q1
        exact q1.2.2.1
      have hb3 := (f2.tt f3).get hb id
      refine ⟨_, _, _, cell_at H3.blk rfl, ref04_Eid.ld hb3 (newP_of ?_)⟩
      have f4 : Fr (fun _ => False) h3 (h3.push (.cells #[.int .i64 0, .bool false, .int .u64 0, .int .u64 0, .string ⟨#[]⟩, .string ⟨#[]⟩, .slice none 0 0, .int .u64 0, .int .i64 0, .int .u64 0, .int .i64 0] T.ref21_Copy)) := Fr.push _ _
      have hb4 : ref21_Copy.at (h3.push (.cells #[.int .i64 0, .bool false, .int .u64 0, .int .u64 0, .string ⟨#[]⟩, .string ⟨#[]⟩, .slice none 0 0, .int .u64 0, .int .i64 0, .int .u64 0, .int .i64 0] T.ref21_Copy)) h3.size 0 false 0 0 ⟨#[]⟩ ⟨#[]⟩ none 0 0 0 0 0 0 := push_new
      generalize h3.push (.cells #[.int .i64 0, .bool false, .int .u64 0, .int .u64 0, .string ⟨#[]⟩, .string ⟨#[]⟩, .slice none 0 0, .int .u64 0, .int .i64 0, .int .u64 0, .int .i64 0] T.ref21_Copy) = h4 at f4 hb4 ⊢
      have z4 := lt_of_get hb4
      refine ⟨ref04_Eid.held (f4.get hb3 id), cell_at (H3.on f4).blk rfl, ref21_Copy.set hb4 fun h5 a5 s5 o5 => ?_⟩
      have F5 : Fr (fun _ => False) h h5 := (F3.tt f4).fresh (S := fun y => y = h3.size) ⟨by omega, fun y _ hn => o5 y hn⟩ (fun y e => by have := F3.1; omega)
      have F35 : Fr (fun _ => False) h3 h5 := f4.fresh (S := fun y => y = h3.size) ⟨by omega, fun y _ hn => o5 y hn⟩ (fun y e => Nat.le_of_eq e.symm)
      refine ⟨_, _, _, cell_at a5 rfl, den_append (cs := []) tU uU (.nil rfl rfl rfl rfl) (hr.frame F5 (fun _ _ => id)) (by rw [bc_len, Nat.mul_one]) (bc_one t) (by omega) (by omega) fun p6 c6 h6 o6 _ f6 g6 => ⟨_, _, _, rfl, ?_⟩⟩
      have f6 : Fr (fun _ => False) h5 h6 := f6.mono (fun y _ ⟨a, ea, _⟩ => by cases ea)
      have g6 : ∀ y, inBlk p6 y → h5.size ≤ y := fun y hy => (g6 y hy).elim (fun ⟨a, ea, _⟩ => by cases ea) id
      rw [Nat.zero_add, List.nil_append] at o6
      have a6 := f6.get a5 id
      refine storeP_blk a6 (by simp) fun h7 a7 s7 o7 => ?_
      have f7 : Fr (fun y => y = h3.size) h6 h7 := ⟨by omega, fun y _ hn => o7 y hn⟩
      have F7 : Fr (fun _ => False) h h7 := (F5.tt f6).fresh f7 (fun y e => by have := F3.1; omega)
      have H7 := H.on F7
      have o7' : Own h7 p6 t.length c6 1 (bc t) := o6.frame f7 (fun y hy e => by have := g6 y hy; omega)
      have wn : IntKind.wrap .i64 (((xs.length : Nat) : Int) + 1) = ((Ls.length + 1 : Nat) : Int) := by rw [hlen, wrap_id (by omega) (by omega)]; omega
      refine ⟨_, _, _, cell_at H7.blk rfl, ?_⟩
      have a7' : ref21_Copy.at h7 h3.size (IntKind.wrap .i64 (((xs.length : Nat) : Int) + 1)) e.ipn e.node e.svc e.host e.dem p6 (0 + t.length) c6 k 0 0 0 := a7
      refine ref21_Copy.ld a7' ?_
      subst hk0
      rw [wn, Nat.zero_add]
      rw [wn, Nat.zero_add] at a7'
      have nv : ∀ w ∈ (#[.int .i64 ((Ls.length + 1 : Nat) : Int), .bool e.ipn, .int .u64 e.node, .int .u64 e.svc, .string e.host, .string e.dem, .slice p6 t.length c6, .int .u64 (till : Int), .int .i64 0, .int .u64 0, .int .i64 0] : Array Value).toList, oneCell w = true := fun w hw => cenc_1 (⟨Ls.length + 1, e, ⟨p6, c6, t⟩, till, 0, 0, 0⟩ : RW) w (by simpa using hw)
      refine newP_of ⟨cell_at (H7.on (Fr.push _ _)).blk rfl, ?_⟩
      have app := den_append1 (P := Tryz.prog) (t := T.ref21_Copy) (ty := T.s_ref21_Copy) (K := fun v_3 h_9 => ∃ (t41_p : Option Addr) (t41_l t41_c : Nat), v_3 = .slice t41_p t41_l t41_c ∧
        StoreP h_9 ⟨x, 0, none⟩ (.slice t41_p t41_l t41_c) fun h_10 =>
        ∃ (t45 : Int), hcell h_10 ⟨h3.size, 0, none⟩ = some (.int .i64 t45) ∧
        R (.tuple #[.int .i64 t45, .int .i64 0]) h_10) tC uC H7.own (xs := #[.int .i64 ((Ls.length + 1 : Nat) : Int), .bool e.ipn, .int .u64 e.node, .int .u64 e.svc, .string e.host, .string e.dem, .slice p6 t.length c6, .int .u64 (till : Int), .int .i64 0, .int .u64 0, .int .i64 0]) rfl nv (by omega) (by omega) (fun p9 c9 h9 o9 f9 g9 => by
          have xl := lt_of_get H7.blk
          refine ⟨_, _, _, rfl, storeP_blk (f9.get H7.blk H7.bl) (by simp) fun h10 a10 s10 o10 => ?_⟩
          have hx9 : ¬ inBlk p9 x := fun hb => by
            rcases g9 x hb with h1 | h1
            · exact H7.bl h1
            · omega
          have f10 : Fr (fun y => y = x) h9 h10 := ⟨by omega, fun y _ hn => o10 y hn⟩
          have n3 : ∀ y, X.M y ∨ X.D y → y ≠ h3.size := fun y hy e => by have := H.lt y hy; have := F3.1; omega
          have b9 : ¬ inBlk lp h3.size := fun hb => n3 _ (.inl ((H7.m _).2 (.inr hb))) rfl
          have xn : x ≠ h3.size := n3 _ (.inl ((H7.m _).2 (.inl rfl)))
          have a9 := f10.get (f9.get a7' b9) (fun e => xn e.symm)
          refine ⟨_, cell_at a9 rfl, ?_⟩
          have e1 : ((Ls.length + 1 : Nat) : Int) = (Ls.length : Int) + 1 := by omega
          rw [e1]
          have zF := F7.1
          have z9 := f9.1
          have hcat : xs.flatMap cenc ++ cenc (⟨Ls.length + 1, e, ⟨p6, c6, t⟩, till, 0, 0, 0⟩ : RW) = (xs ++ [(⟨Ls.length + 1, e, ⟨p6, c6, t⟩, till, 0, 0, 0⟩ : RW)]).flatMap cenc := by rw [List.flatMap_append]; simp
          have o9' : Own h9 p9 (xs.length + 1) c9 11 ((xs ++ [(⟨Ls.length + 1, e, ⟨p6, c6, t⟩, till, 0, 0, 0⟩ : RW)]).flatMap cenc) := by rw [← hcat]; exact o9
          have z5 := F5.1
          have lpn : ∀ y, X.D y → ¬ inBlk lp y := fun y hd hb => H7.dis y ((H7.m y).2 (.inr hb)) hd
          have g6lp : ∀ y, inBlk p6 y → ¬ inBlk lp y := fun y hy hb => by have := g6 y hy; have := H.lt y (.inl ((H.m y).2 (.inr hb))); omega
          have g6x : ∀ y, inBlk p6 y → y ≠ x := fun y hy e => by have := g6 y hy; have := H.lt x (.inl ((H.m x).2 (.inl rfl))); omega
          have l7 : ∀ y, inBlk p6 y → y < h7.size := fun y hy => o7'.blk_lt hy
          refine K h10 ⟨fun y => y = x ∨ inBlk p9 y, fun y => X.D y ∨ inBlk p6 y⟩ ⟨p9, c9, xs ++ [⟨Ls.length + 1, e, ⟨p6, c6, t⟩, till, 0, 0, 0⟩], ⟨by rw [List.length_append]; exact a10, by rw [List.length_append]; exact o9'.frame f10 (fun y hy e => hx9 (e ▸ hy)), ?_, ?_, fun y => Iff.rfl, hx9, ?_, ?_⟩⟩ ⟨?_, ?_, ?_, fun y hy => .inl hy⟩
          · rw [List.map_append, H.abs]; rfl
          · intro z hz
            rcases List.mem_append.1 hz with hz | hz
            · exact (((H7.dat z hz).frame f9 lpn).frame f10 (fun y hd e => H7.dis y ((H7.m y).2 (.inl e)) hd)).mono (fun y => .inl)
            · obtain rfl := List.mem_singleton.1 hz
              exact BV.of_own ((o7'.frame f9 g6lp).frame f10 g6x) (fun y => .inr)
          · rintro y (rfl | hy) hd
            · rcases hd with hd | hd
              · exact H7.dis _ ((H7.m _).2 (.inl rfl)) hd
              · exact g6x _ hd rfl
            · rcases g9 y hy with h1 | h1
              · rcases hd with hd | hd
                · exact lpn y hd h1
                · exact g6lp y hd h1
              · rcases hd with hd | hd
                · have := H7.dlt y hd; omega
                · have := l7 y hd; omega
          · rintro y (hd | hd)
            · have := H7.dlt y hd; omega
            · have := l7 y hd; omega
          · refine ⟨by omega, fun y hy hn => ?_⟩
            rw [o10 y (fun e => hn ((H.m y).2 (.inl e))), f9.2 y (by omega) (fun hb => hn ((H.m y).2 (.inr hb)))]
            exact F7.2 y hy id
          · rintro y (rfl | hy)
            · exact .inl ((H.m _).2 (.inl rfl))
            · rcases g9 y hy with h1 | h1
              · exact .inl ((H.m y).2 (.inr h1))
              · exact .inr (by omega)
          · rintro y (hd | hd)
            · exact .inl hd
            · have := g6 y hd; exact .inr (by omega))
      exact app _ _ rfl rfl
  · have ea : addE Ls e t.length till = 1 := by unfold addE; rw [if_pos (by simpa using q1)]
    rw [if_pos (by simpa using q1)]
    rw [ea] at k1
    exact k1 (by decide) h2 F2
/-! ### those that are there change -/
theorem rlease_ok {k : Int} (H : Rb h x X Ls) (hl : Ls.length ≤ 1000000) (e : Ev) (ses : Int) (dl : Nat) (hk0 : k = (dl : Int))
    (k1 : ¬ mayS ses dl → ∀ h', Fr (fun _ => False) h h' → R (.tuple #[.int .i64 (-1), .int .i64 1]) h')
    (k2 : mayS ses dl → (∀ z ∈ Ls, isE e z = true → z.c.ses ≠ 0) → ∀ h', Fr (fun _ => False) h h' → R (.tuple #[.int .i64 (-1), .int .i64 4]) h')
    (k3 : mayS ses dl → ∀ (i : Nat) y, Ls[i]? = some y → isE e y = true → y.c.ses = 0 → (∀ j z, j < i → Ls[j]? = some z → isE e z = true → z.c.ses ≠ 0) → ∀ h', Rb h' x X (Ls.set i ⟨{ y.c with ses := ses, dl := dl }, y.fate⟩) → StepF X h X h' → R (.tuple #[.int .i64 (i : Int), .int .i64 0]) h') :
    CallsH Tryz.prog F.ref21_Table_Lease #[.pointer (some ⟨x, 0, none⟩), ev5 e, .int .i64 ses, .int .u64 k] h R := by
  subst hk0
  refine ref21_Table_Lease.walk (ref04_Eid.box fun b h1 eb hb f1 => JoinP.of fun J hJ => ?_)
  have bad : ¬ mayS ses dl → J true h1 := fun hn => by
    subst hJ; exact k1 hn h1 f1
  by_cases q1 : ses < 1
  · rw [if_pos (decide_eq_true q1)]; exact bad (fun hm => by have := hm.1; omega)
  rw [if_neg (by simpa using q1)]
  by_cases q2 : ses > 1099511627776
  · rw [if_pos (decide_eq_true q2)]; exact bad (fun hm => by have := hm.2.1; omega)
  rw [if_neg (by simpa using q2)]
  by_cases q3 : (dl : Int) > 1099511627776
  · rw [decide_eq_true q3]; exact bad (fun hm => by have := hm.2.2; omega)
  rw [decide_eq_false q3]
  have hmay : mayS ses dl := ⟨by omega, by omega, by omega⟩
  clear bad
  subst hJ
  dsimp only
  rw [if_neg (by decide)]
  obtain ⟨lp, lc, xs, H⟩ := H
  have hlen := H.len
  refine ⟨fun t g => ∃ k : Nat, t = (k : Int) ∧ k ≤ xs.length ∧ (∀ j z, j < k → Ls[j]? = some z → isE e z = true → z.c.ses ≠ 0) ∧ Fr (fun _ => False) h1 g, fun t _ => xs.length - t.toNat, ⟨0, rfl, by omega, fun j z hj => by omega, Fr.refl _ _⟩, ?_⟩
  rintro _ g ⟨k, rfl, hkn, hno, fg⟩
  have Fg := f1.tt fg
  have Mg := H.on Fg
  refine ⟨_, _, _, cell_at Mg.blk rfl, ?_⟩
  by_cases hlt : k < xs.length
  · have q1 : (k : Int) < ((xs.length : Nat) : Int) := by omega
    simp only [q1, decide_true, if_true, Int.toNat_natCast]
    have hx : xs[k]? = some xs[k] := List.getElem?_eq_getElem hlt
    generalize xs[k] = v at hx
    have hLk := H.at hx
    refine JoinP.of fun J hJ => ref04_Eid.ld (fg.get hb id) (is_ok Mg hx e fun g2 f2 => ⟨_, rfl, ?_⟩)
    have M2 := Mg.on f2
    have next : ¬ (isE e v.abs = true ∧ v.ses = 0) → J false g2 := fun hn => by
      subst hJ
      dsimp only
      rw [if_neg (by decide), wrap_id (by omega) (by omega)]
      refine ⟨⟨k + 1, by omega, by omega, fun j z hj hz hi hs => ?_, fg.tt f2⟩, by show xs.length - Int.toNat ((k : Int) + 1) < xs.length - k; omega⟩
      by_cases ej : j = k
      · subst ej; rw [hLk] at hz; obtain rfl := Option.some.inj hz; exact hn ⟨hi, hs⟩
      · exact hno j z (by omega) hz hi hs
    by_cases hi : isE e v.abs = true
    · rw [if_pos hi]
      obtain ⟨ab, aoff, rfl⟩ := M2.own.addr (by omega)
      refine ⟨_, _, _, cell_at M2.blk rfl, ⟨by first | trivial | omega, by first | trivial | omega⟩, onSome_some.2 ⟨v.ses, cel (M2.own.heldAt cenc_len hx) 8 rfl, ?_⟩⟩
      by_cases hs : v.ses = 0
      · have : (v.ses == 0) = true := by simpa using hs
        rw [this]
        clear next
        subst hJ
        dsimp only
        rw [if_pos rfl]
        refine ⟨_, _, _, cell_at M2.blk rfl, _, _, _, cell_at M2.blk rfl, ⟨by first | trivial | omega, by first | trivial | omega⟩, onSome_some.2 (M2.upd (y' := { v with ses := ses }) hx (by decide) rfl rfl fun h3 M3 s3 => ⟨⟨by first | trivial | omega, by first | trivial | omega⟩, onSome_some.2 (M3.upd (y' := { v with ses := ses, dl := dl }) (List.getElem?_set_self hlt) (by decide) rfl rfl fun h4 M4 s4 => ?_)⟩)⟩
        rw [List.set_set] at M4
        exact k3 hmay k v.abs hLk hi hs hno h4 ⟨_, _, _, M4⟩ (StepF.no (Fg.tt f2) (s3.trans s4))
      · have : (v.ses == 0) = false := by simpa using hs
        rw [this]
        exact next (fun hh => hs hh.2)
    · rw [if_neg hi]
      exact next (fun hh => hi hh.1)
  · have q1 : ¬ (k : Int) < ((xs.length : Nat) : Int) := by omega
    simp only [q1, decide_false, Bool.false_eq_true, if_false]
    refine k2 hmay (fun z hz => ?_) g Fg
    obtain ⟨j, hj⟩ := List.getElem?_of_mem hz
    exact hno j z (by have := (List.getElem?_eq_some_iff.1 hj).1; omega) hj
theorem rend_ok {num ses : Int} {back : Bool} (H : Rb h x X Ls) (hl : Ls.length ≤ 1000000)
    (k1 : (∀ (i : Nat) y, num = (i : Int) + 1 → Ls[i]? = some y → y.fate ≠ 0) → R (.int .i64 4) h)
    (k2 : ∀ (i : Nat) y, num = (i : Int) + 1 → Ls[i]? = some y → y.fate = 0 → (y.c.ses = 0 ∨ y.c.ses ≠ ses) → R (.int .i64 14) h)
    (k3 : ∀ (i : Nat) y, num = (i : Int) + 1 → Ls[i]? = some y → y.fate = 0 → y.c.ses ≠ 0 → y.c.ses = ses → ∀ h', Rb h' x X (Ls.set i ⟨{ y.c with ses := 0, dl := 0 }, if back = true then 0 else 1⟩) → StepF X h X h' → R (.int .i64 0) h') :
    CallsH Tryz.prog F.ref21_Table_End #[.pointer (some ⟨x, 0, none⟩), .int .i64 num, .int .i64 ses, .bool back] h R := by
  obtain ⟨lp, lc, xs, H⟩ := H
  have hlen := H.len
  refine ref21_Table_End.walk (JoinP.of fun J hJ => ?_)
  have no : (∀ (i : Nat) y, num = (i : Int) + 1 → Ls[i]? = some y → y.fate ≠ 0) → J true h := fun hh => by
    subst hJ
    exact k1 hh
  by_cases h1 : num < 1
  · simp only [h1, decide_true, if_true]
    exact no (fun i y e _ => by omega)
  simp only [h1, decide_false, Bool.false_eq_true, if_false]
  refine ⟨_, _, _, cell_at H.blk rfl, ?_⟩
  by_cases h2 : num > ((xs.length : Nat) : Int)
  · simp only [h2, decide_true, if_true]
    exact no (fun i y e hy => by have := (List.getElem?_eq_some_iff.1 hy).1; omega)
  simp only [h2, decide_false, Bool.false_eq_true, if_false]
  obtain ⟨i, hi⟩ := Int.eq_ofNat_of_zero_le (a := num - 1) (by omega)
  have wi : IntKind.wrap .i64 (num - 1) = (i : Int) := by rw [wrap_id (by omega) (by omega)]; exact hi
  rw [wi]
  rw [wi] at hJ
  simp only [Int.toNat_natCast] at hJ ⊢
  have hix : i < xs.length := by omega
  have hx : xs[i]? = some xs[i] := List.getElem?_eq_getElem hix
  generalize xs[i] = v at hx
  have hLi := H.at hx
  obtain ⟨ab, aoff, rfl⟩ := H.own.addr (by omega)
  have held := H.own.heldAt cenc_len hx
  refine ⟨_, _, _, cell_at H.blk rfl, ⟨by first | trivial | omega, by first | trivial | omega⟩, onSome_some.2 ⟨(v.fate : Int), cel held 10 rfl, ?_⟩⟩
  by_cases hf : v.fate = 0
  · have : ((v.fate : Int) != 0) = false := by rw [hf]; rfl
    rw [this]
    clear no
    subst hJ
    simp only [Bool.false_eq_true, if_false]
    refine JoinP.of fun J hJ => ⟨_, _, _, cell_at H.blk rfl, ⟨by first | trivial | omega, by first | trivial | omega⟩, onSome_some.2 ⟨v.ses, cel held 8 rfl, ?_⟩⟩
    by_cases hs : v.ses = 0
    · rw [if_pos (by simpa using hs)]
      subst hJ
      exact k2 i v.abs (by omega) hLi hf (.inl hs)
    · rw [if_neg (by simpa using hs)]
      refine ⟨_, _, _, cell_at H.blk rfl, ⟨by first | trivial | omega, by first | trivial | omega⟩, onSome_some.2 ⟨v.ses, cel held 8 rfl, ?_⟩⟩
      by_cases he : v.ses = ses
      · have : (v.ses != ses) = false := by simpa using he
        rw [this]
        subst hJ
        simp only [Bool.false_eq_true, if_false]
        refine ⟨_, _, _, cell_at H.blk rfl, _, _, _, cell_at H.blk rfl, ⟨by first | trivial | omega, by first | trivial | omega⟩, onSome_some.2 (H.upd (y' := { v with ses := 0 }) hx (by decide) rfl rfl fun h3 M3 s3 => ⟨⟨by first | trivial | omega, by first | trivial | omega⟩, onSome_some.2 (M3.upd (y' := { v with ses := 0, dl := 0 }) (List.getElem?_set_self hix) (by decide) rfl rfl fun h4 M4 s4 => JoinP.of fun J hJ => ?_)⟩)⟩
        rw [List.set_set, List.set_set] at M4
        cases back with
        | true =>
          rw [if_neg (by decide)]
          subst hJ
          refine k3 i v.abs (by omega) hLi hf hs he h4 ?_ (s3.trans s4)
          have e : (⟨{ v.abs.c with ses := 0, dl := 0 }, if true = true then 0 else 1⟩ : RC) = RW.abs { v with ses := 0, dl := 0 } := by unfold RW.abs; simp [hf]
          rw [e]; exact ⟨_, _, _, M4⟩
        | false =>
          rw [if_pos (by decide)]
          refine ⟨_, _, _, cell_at M4.blk rfl, ⟨by first | trivial | omega, by rw [List.length_set]; omega⟩, onSome_some.2 (M4.upd (y' := { v with ses := 0, dl := 0, fate := 1 }) (List.getElem?_set_self hix) (by decide) rfl rfl fun h5 M5 s5 => ?_)⟩
          rw [List.set_set, List.set_set] at M5
          subst hJ
          exact k3 i v.abs (by omega) hLi hf hs he h5 ⟨_, _, _, M5⟩ ((s3.trans s4).trans s5)
      · have : (v.ses != ses) = true := by simpa using he
        rw [this]
        subst hJ
        exact k2 i v.abs (by omega) hLi hf (.inr he)
  · have : ((v.fate : Int) != 0) = true := by simp only [bne_iff_ne, ne_eq]; omega
    rw [this]
    refine no (fun j y e hy => ?_)
    obtain rfl : j = i := by omega
    rw [hLi] at hy
    obtain rfl := Option.some.inj hy
    exact hf
/-! ### many go -/
def goneR (e : Ev) (y : RC) : RC := if isE e y = true then ⟨{ y.c with ses := 0, dl := 0 }, 3⟩ else y
def placesE (Ls : List RC) (e : Ev) (k : Nat) : List Nat := (List.range k).filter (fun i => match Ls[i]? with | some y => isE e y | none => false)
theorem uSI : Tryz.prog.underlying T.s_int = some (.slice T.int) := by kernel_rfl
theorem rdrop_ok (H : Rb h x X Ls) (hl : Ls.length ≤ 1000000) (e : Ev)
    (hk : ∀ h' p' c', Own h' p' (placesE Ls e Ls.length).length c' 1 ((placesE Ls e Ls.length).map fun (i : Nat) => .int .i64 ((i : Int) + 1)) → (∀ y, inBlk p' y → h.size ≤ y) → Rb h' x X (Ls.map (goneR e)) → StepF X h X h' → R (.slice p' (placesE Ls e Ls.length).length c') h') :
    CallsH Tryz.prog F.ref21_Table_Drop #[.pointer (some ⟨x, 0, none⟩), ev5 e] h R := by
  refine ref21_Table_Drop.walk (ref04_Eid.box fun b h1 eb hb f1 => ?_)
  have hb1 : b < h1.size := lt_of_get hb
  refine ⟨fun op ol oc t g => ∃ k : Nat, t = (k : Int) ∧ k ≤ Ls.length ∧ ol = (placesE Ls e k).length ∧ ol ≤ k ∧ Own g op ol oc 1 ((placesE Ls e k).map fun (i : Nat) => .int .i64 ((i : Int) + 1)) ∧ (∀ y, inBlk op y → h1.size ≤ y) ∧ Rb g x X ((Ls.take k).map (goneR e) ++ Ls.drop k) ∧ StepF X h X g ∧ ref04_Eid.at g b e.ipn e.node e.svc e.host e.dem ∧ h1.size ≤ g.size, fun _ _ _ t _ => Ls.length - t.toNat,
    ⟨0, rfl, by omega, rfl, by simp [placesE], .nil rfl rfl rfl rfl, (fun y ⟨a, e, _⟩ => by cases e), by simpa using H.on f1, StepF.of_no f1, hb, Nat.le_refl _⟩, ?_⟩
  rintro op ol oc _ g ⟨k, rfl, hkn, rfl, hok, o, hop, B, st, hbg, zg⟩
  obtain ⟨lp, lc, xs, M⟩ := B
  have hlen : xs.length = Ls.length := by rw [M.len, List.length_append, List.length_map, List.length_take, List.length_drop]; omega
  have nX : ¬ X.M b := fun hm => by have := H.lt b (.inl hm); omega
  refine ⟨_, _, _, cell_at M.blk rfl, ?_⟩
  by_cases hlt : k < Ls.length
  · have q1 : (k : Int) < ((xs.length : Nat) : Int) := by omega
    simp only [q1, decide_true, if_true, Int.toNat_natCast]
    have hx : xs[k]? = some (xs[k]'(by omega)) := List.getElem?_eq_getElem _
    generalize xs[k]'(by omega) = v at hx
    have hLk : Ls[k]? = some v.abs := by
      have := M.at hx
      rw [List.getElem?_append_right (by rw [List.length_map, List.length_take]; omega), List.getElem?_drop, List.length_map, List.length_take] at this
      rw [← this]; congr 1; omega
    refine JoinP.of fun J hJ => ref04_Eid.ld hbg (is_ok M hx e fun g2 f2 => ⟨_, rfl, JoinP.of fun J1 hJ1 => ?_⟩)
    subst hJ1; subst hJ
    have wr : IntKind.wrap .i64 ((k : Int) + 1) = (k : Int) + 1 := wrap_id (by omega) (by omega)
    have pl : placesE Ls e (k + 1) = placesE Ls e k ++ if isE e v.abs = true then [k] else [] := by
      unfold placesE
      rw [List.range_succ, List.filter_append]
      congr 1
      rw [List.filter_cons, hLk]; rfl
    have ll : (Ls.take (k + 1)).map (goneR e) ++ Ls.drop (k + 1) = ((Ls.take k).map (goneR e) ++ Ls.drop k).set k (goneR e v.abs) := by
      apply List.ext_getElem?
      intro j
      have e1 : ((Ls.take k).map (goneR e)).length = k := by rw [List.length_map, List.length_take]; omega
      have e2 : ((Ls.take (k + 1)).map (goneR e)).length = k + 1 := by rw [List.length_map, List.length_take]; omega
      rw [List.getElem?_set]
      by_cases ej : k = j
      · subst ej
        rw [if_pos rfl, if_pos (by rw [List.length_append, e1, List.length_drop]; omega), List.getElem?_append_left (by omega), List.getElem?_map, List.getElem?_take, if_pos (by omega), hLk]; rfl
      · rw [if_neg ej]
        by_cases hj : j < k
        · rw [List.getElem?_append_left (by omega), List.getElem?_append_left (by omega), List.getElem?_map, List.getElem?_map, List.getElem?_take, List.getElem?_take, if_pos (by omega), if_pos hj]
        · rw [List.getElem?_append_right (by omega), List.getElem?_append_right (by omega), e1, e2, List.getElem?_drop, List.getElem?_drop]; congr 1; omega
    rw [wr]
    have z2 := f2.1
    by_cases hi : isE e v.abs = true
    · rw [if_pos hi]
      rw [if_pos hi] at pl
      refine den_append1 Alarm.tI uSI (o.frame f2 (fun _ _ => id)) rfl (fun w hw => by simp at hw; subst hw; rfl) (by omega) (by omega) fun p7 c7 h7 o7 f7 g7 => ⟨_, _, _, rfl, ?_⟩
      have nop : ∀ y, X.M y ∨ X.D y → ¬ inBlk op y := fun y hy hq => by have := H.lt y hy; have := hop y hq; have := f1.1; omega
      have M7 := (M.on f2).frame f7 nop
      obtain ⟨ab, aoff, rfl⟩ := M7.own.addr (by omega)
      refine ⟨_, _, _, cell_at M7.blk rfl, _, _, _, cell_at M7.blk rfl, _, _, _, cell_at M7.blk rfl, ⟨by first | trivial | omega, by first | trivial | omega⟩, onSome_some.2 (M7.upd (y' := { v with fate := 3 }) hx (by decide) rfl rfl fun h8 M8 s8 => ⟨⟨by first | trivial | omega, by first | trivial | omega⟩, onSome_some.2 (M8.upd (y' := { v with fate := 3, ses := 0 }) (List.getElem?_set_self (by omega)) (by decide) rfl rfl fun h9 M9 s9 => ⟨⟨by first | trivial | omega, by first | trivial | omega⟩, onSome_some.2 (M9.upd (y' := { v with fate := 3, ses := 0, dl := 0 }) (List.getElem?_set_self (by rw [List.length_set]; omega)) (by decide) rfl rfl fun h10 M10 s10 => ?_)⟩)⟩)⟩
      rw [List.set_set, List.set_set, List.set_set, List.set_set] at M10
      have S10 := (s8.trans s9).trans s10
      have hop7 : ∀ y, inBlk p7 y → h1.size ≤ y := fun y hy => (g7 y hy).elim (hop y) (fun h2 => by omega)
      have z10 := S10.fr.1
      have z7 := f7.1
      have nb7 : ¬ inBlk op b := fun hq => by have := hop b hq; omega
      refine ⟨⟨k + 1, by omega, by omega, by rw [pl, List.length_append]; rfl, by omega, ?_, hop7, ?_, ?_, S10.fr.get (f7.get (f2.get hbg id) nb7) nX, by omega⟩, by show Ls.length - Int.toNat ((k : Int) + 1) < Ls.length - k; omega⟩
      · rw [pl, List.map_append]
        have o7' := o7.frame S10.fr (fun y hy hm => by have := H.lt y (.inl hm); have := hop7 y hy; have := f1.1; omega)
        exact o7'
      · rw [ll]
        have e1 : goneR e v.abs = RW.abs { v with fate := 3, ses := 0, dl := 0 } := by unfold goneR; rw [if_pos hi]; rfl
        rw [e1]
        exact ⟨_, _, _, M10⟩
      · refine StepF.trans ?_ S10
        have zz := st.fr.1
        refine ⟨⟨by omega, fun y hy hn => ?_⟩, fun y => .inl, fun y => .inl, fun y => id⟩
        rw [f7.2 y (by omega) (fun hq => by have := hop y hq; have := f1.1; omega), f2.2 y (by omega) id]
        exact st.fr.2 y hy hn
    · rw [if_neg hi]
      rw [if_neg hi, List.append_nil] at pl
      refine ⟨⟨k + 1, by omega, by omega, by rw [pl], by omega, by rw [pl]; exact o.frame f2 (fun _ _ => id), hop, ?_, StepF.on st f2, f2.get hbg id, by omega⟩, by show Ls.length - Int.toNat ((k : Int) + 1) < Ls.length - k; omega⟩
      rw [ll]
      have e1 : goneR e v.abs = v.abs := by unfold goneR; rw [if_neg hi]
      rw [e1]
      have e2 : ((Ls.take k).map (goneR e) ++ Ls.drop k).set k v.abs = (Ls.take k).map (goneR e) ++ Ls.drop k := by
        have hk := M.at hx
        apply List.ext_getElem?
        intro j
        rw [List.getElem?_set]
        split
        · rename_i ej
          subst ej
          rw [if_pos (List.getElem?_eq_some_iff.1 hk).1, hk]
        · rfl
      rw [e2]
      exact ⟨_, _, _, M.on f2⟩
  · have q1 : ¬ (k : Int) < ((xs.length : Nat) : Int) := by omega
    simp only [q1, decide_false, Bool.false_eq_true, if_false]
    obtain rfl : k = Ls.length := by omega
    have e1 : (Ls.take Ls.length).map (goneR e) ++ Ls.drop Ls.length = Ls.map (goneR e) := by simp
    rw [e1] at M
    have z1 := f1.1
    exact hk g op oc o (fun y hy => by have := hop y hy; omega) ⟨_, _, _, M⟩ st
end Rcp
end Go.Proofs.YtgccegnmggjkjaaGreatDoor
