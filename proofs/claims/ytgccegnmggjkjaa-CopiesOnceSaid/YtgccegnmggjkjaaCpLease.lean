/-
  What is proved here: what Lease of package copies does with a table. No condition.
-/
import Derived.Test.YtgccegnmggjkjaaCpOps2
set_option maxRecDepth 100000
namespace Go.Proofs.Ytgccegnmggjkjaa
open Go.Den Go.Heapq
namespace Cps
open Eid Alarm Fld
variable {h h' : Heap} {R : Value → Heap → Prop} {t : Nat} {X : Ft} {s s' : CF} {m a1 a2 : Nat} {xs : List CV} {S1 S2 S1' S2' : Nat → Prop} {lab : Nat → Option Nat} {p : Option Addr} {n c : Nat}
abbrev zeroC : Value := .agg #[.int .i64 0, .bool false, .int .u64 0, .int .u64 0, .string ⟨#[]⟩, .string ⟨#[]⟩, .slice none 0 0, .int .u64 0, .int .i64 0, .int .u64 0]
abbrev Cp.val (z : Cp) (p : Option Addr) (c : Nat) : Value := .agg #[.int .i64 (z.num : Int), .bool z.e.ipn, .int .u64 z.e.node, .int .u64 z.e.svc, .string z.e.host, .string z.e.dem, .slice p z.d.length c, .int .u64 (z.till : Int), .int .i64 z.ses, .int .u64 (z.dl : Int)]
def mayS (ses : Int) (dl : Nat) : Prop := 1 ≤ ses ∧ ses ≤ 1099511627776 ∧ dl ≤ 1099511627776
def leaseC (L : List Cp) (x : Ev) : Option Cp := (ofL L x).find? (fun z => decide (z.ses = 0))
def leaseF (s : CF) (z : Cp) (ses : Int) (dl : Nat) : CF := { s with L := setC s.L z.num ses dl, E2 := setL s.E2 (z.num : Int) (dl : Int) }
theorem session_ok {k : Int} (hk : R (.bool (decide (1 ≤ k ∧ k ≤ 1099511627776))) h) : CallsH Try.prog F.copies_isSession #[.int .i64 k] h R := by
  refine copies_isSession.walk ?_
  unfold copies_isSession.vc
  by_cases q : 1 ≤ k
  · have q' : k ≥ 1 := q
    simp only [q', decide_true, if_true]
    simp only [q, true_and] at hk
    exact hk
  · have q' : ¬ k ≥ 1 := q
    simp only [q', decide_false, Bool.false_eq_true, if_false]
    simp only [q, false_and, decide_false] at hk
    exact hk
theorem lease_ok (H : Ct h t X s) (sm : Small s) (hb : ∀ z ∈ s.L, 1 ≤ z.num ∧ z.num < s.next ∧ z.d.length ≤ 600) (x : Ev) (ses : Int) (dl : Nat) {k : Int} (hk0 : k = (dl : Int))
    (k1 : ¬ mayS ses dl → ∀ h', Fr (fun _ => False) h h' → R (.tuple #[zeroC, .int .i64 1]) h')
    (k2 : mayS ses dl → leaseC s.L x = none → ∀ h', Fr (fun _ => False) h h' → R (.tuple #[zeroC, .int .i64 4]) h')
    (k3 : mayS ses dl → ∀ z, leaseC s.L x = some z → ∀ h' X' p' c', Ct h' t X' (leaseF s z ses dl) → StepF X h X' h' → Row h' p' (bc z.d) → (∀ y, inBlk p' y → h.size ≤ y ∧ ¬ X'.M y) → R (.tuple #[({ z with ses := ses, dl := dl } : Cp).val p' c', .int .i64 0]) h') :
    CallsH Try.prog F.copies_Table_Lease #[.pointer (some ⟨t, 0, none⟩), ev5 x, .int .i64 ses, .int .u64 k] h R := by
  subst hk0
  obtain ⟨m, xs, a1, S1, a2, S2, lab, H⟩ := H
  have sn := sm.n
  have sl := sm.l
  have se := sm.e2
  have xl := H.len
  refine copies_Table_Lease.walk (eid_Eid.box fun b h1 e1 hb1 f1 => copies_Copy.box fun b2 h2 e2 hb2 f2 => ?_)
  have z1 := lt_of_get hb1
  have z2 := lt_of_get hb2
  have f12 := f1.tt f2
  have hb1 := f2.get hb1 id
  refine made_ok (H.on f12) ⟨_, rfl, ?_⟩
  rw [if_neg (by decide)]
  have hs1 := f1.1
  have fin : ∀ g (e : Int), Fr (fun _ => False) h2 g → (∀ h', Fr (fun _ => False) h h' → R (.tuple #[zeroC, .int .i64 e]) h') → copies_Copy.ST g ⟨b2, 0, none⟩ 0 false 0 0 (⟨#[]⟩ : ByteArray) (⟨#[]⟩ : ByteArray) none 0 0 0 0 0 fun g2 => copies_Copy.LD g2 ⟨b2, 0, none⟩ fun r_0 r_1 r_2 r_3 r_4 r_5 r_6_p r_6_l r_6_c r_7 r_8 r_9 =>
      R (.tuple #[.agg #[.int .i64 r_0, .bool r_1, .int .u64 r_2, .int .u64 r_3, .string r_4, .string r_5, .slice r_6_p r_6_l r_6_c, .int .u64 r_7, .int .i64 r_8, .int .u64 r_9], .int .i64 e]) g2 := fun g e fg hk =>
    copies_Copy.set (fg.get hb2 id) fun g2 a2 s2 o2 => copies_Copy.ld a2 (hk g2 ((f12.tt fg).fresh (S := fun y => y = b2) ⟨by omega, fun y _ hn => o2 y hn⟩ (fun y e => by omega)))
  refine JoinP.of fun J hJ => session_ok ⟨_, rfl, ?_⟩
  have bad : ¬ mayS ses dl → J true h2 := fun hn => by
    subst hJ
    simp only [if_true]
    exact fin h2 1 (Fr.refl _ _) (k1 hn)
  by_cases q1 : 1 ≤ ses ∧ ses ≤ 1099511627776
  · rw [decide_eq_true q1, if_neg (by decide)]
    by_cases q2 : (dl : Int) > 1099511627776
    · rw [decide_eq_true q2]
      exact bad (fun hm => by have := hm.2.2; omega)
    · rw [decide_eq_false q2]
      clear bad
      subst hJ
      simp only [Bool.false_eq_true, if_false]
      have hm : mayS ses dl := ⟨q1.1, q1.2, by omega⟩
      refine eid_Eid.ld hb1 (of_ok (H.on f12) x (by omega) fun h7 p7 c7 o7 g7 f7 => ⟨_, _, _, rfl, ?_⟩)
      have F7 := f12.tt f7
      have H7 := H.on F7
      have hb27 := f7.get hb2 id
      have hF : (xs.filter (fun y => decide (y.e = x))).map CV.abs = ofL s.L x := by unfold ofL; rw [← H.abs, List.filter_map]; rfl
      generalize hxf : xs.filter (fun y => decide (y.e = x)) = xf at o7 hF
      have nl : (nums xf).length = xf.length := by unfold nums; rw [List.length_map]
      have fl : xf.length ≤ xs.length := by rw [← hxf]; exact List.length_filter_le _ _
      refine ⟨fun u g => g = h7 ∧ ∃ i : Nat, u = (i : Int) ∧ i ≤ xf.length ∧ ∀ j y, j < i → xf[j]? = some y → y.ses ≠ 0, fun u _ => xf.length - u.toNat, ⟨rfl, 0, rfl, Nat.zero_le _, fun j y hj => by omega⟩, ?_⟩
      rintro _ h7 ⟨rfl, i, rfl, hi, hall⟩
      by_cases hlt : i < xf.length
      · rw [if_pos (decide_eq_true (by omega))]
        have hy : xf[i]? = some xf[i] := List.getElem?_eq_getElem hlt
        generalize xf[i] = y at hy
        have hym : y ∈ xs := by
          have := List.mem_of_getElem? hy
          rw [← hxf] at this
          exact (List.mem_filter.1 this).1
        obtain ⟨ab, ao, rfl⟩ := o7.addr (by omega)
        have cc := o7.cell (j := i) (v := ienc (y.num : Int)) (by rw [List.getElem?_map]; unfold nums; rw [List.getElem?_map, hy]; rfl)
        have L7 := look H7 hym
        have ca := H7.cps y hym
        simp only [Int.toNat_natCast, Nat.mul_one]
        refine ⟨⟨by omega, by omega⟩, onSome_some.2 ⟨_, cc, _, cell_at H7.blk rfl, _, L7, onSome_some.2 ⟨_, cell_at ca rfl, ?_⟩⟩⟩
        by_cases hs0 : y.ses = 0
        · rw [if_pos (by simpa using hs0)]
          -- this one is leased
          have hpick : leaseC s.L x = some y.abs := by
            unfold leaseC
            rw [← hF, List.find?_map]
            have : xf.find? ((fun z : Cp => decide (z.ses = 0)) ∘ CV.abs) = some y := by
              rw [List.find?_eq_some_iff_getElem]
              refine ⟨by simp [CV.abs, hs0], i, hlt, (List.getElem?_eq_some_iff.1 hy).2, fun j hj => ?_⟩
              have hz := hall j (xf[j]'(by omega)) hj (List.getElem?_eq_getElem (by omega))
              have hz' : decide ((xf[j]'(by omega)).abs.ses = 0) = false := decide_eq_false hz
              show (!decide ((xf[j]'(by omega)).abs.ses = 0)) = true
              rw [hz']; rfl
            rw [this]; rfl
          have hbnd := hb y.abs (by rw [← H.abs]; exact List.mem_map_of_mem hym)
          have hn1 : 1 ≤ y.num := hbnd.1
          have hn2 : y.num < s.next := hbnd.2.1
          have hn3 : y.v.b.length ≤ 600 := hbnd.2.2
          refine onSome_some.2 (H7.lease (ses := ses) (dl := dl) hym fun h10 H10 st10 => ⟨_, cell_at H10.blk rfl, ?_⟩)
          have hmay : may (y.num : Int) (dl : Int) = true := may_iff.2 ⟨by omega, by omega, by omega⟩
          refine Alarm.set_ok H10.al2 (by show s.E2.length < _; omega) (y.num : Int) (dl : Int) (by omega) (fun _ h11 S11 A11 g11 f11 => ⟨_, rfl, ?_⟩) (fun hx => absurd hmay (by rw [hx]; simp))
          obtain ⟨X11, lab11, H11, st11, _⟩ := H10.alarm2 (s' := leaseF s y.abs ses dl) A11 g11 f11 rfl rfl rfl ⟨rfl, rfl, rfl, rfl⟩
          have hy' : ({ y with ses := ses, dl := dl } : CV) ∈ xs.map (fun z => if z.num = y.num then ({ y with ses := ses, dl := dl } : CV) else z) := List.mem_map.2 ⟨y, hym, if_pos rfl⟩
          have ca11 := H11.cps _ hy'
          have da11 := H11.dat _ hy'
          refine onSome_some.2 (copies_Copy.ld ca11 (copies_Copy.new fun b3 h13 e13 hb13 f13 => onSome_some.2 ⟨_, _, _, cell_at (f13.get ca11 id) rfl, clone_ok ((da11.row).frame f13 (fun _ _ => id)) rfl (by show y.v.b.length ≤ _; omega) fun p14 c14 h14 o14 f14 g14 => ⟨_, _, _, rfl, ?_⟩⟩))
          have stA := st10.trans st11
          have z11 : h7.size ≤ h11.size := stA.fr.1
          have z13 := f13.1
          refine storeP_blk (f14.get hb13 id) (by simp) fun h15 c15 s15 o15 => ?_
          have hb15 : copies_Copy.at h15 b3 (y.num : Int) y.e.ipn y.e.node y.e.svc y.e.host y.e.dem p14 y.v.b.length c14 (y.till : Int) ses (dl : Int) := c15
          refine copies_Copy.ld hb15 ?_
          have nM : ∀ y, y < h7.size → h.size ≤ y → ¬ X11.M y := fun y y1 y2 hm => by
            rcases stA.newM y hm with h3 | h3
            · have := H.lsz y ((H.mm y).1 h3); omega
            · omega
          have zb2 : b2 < h7.size := lt_of_get hb27
          have b2x : ¬ X.M b2 := fun hm => by have := H.lsz b2 ((H.mm b2).1 hm); omega
          have hb215 : copies_Copy.at h15 b2 0 false 0 0 ⟨#[]⟩ ⟨#[]⟩ none 0 0 0 0 0 := by
            have h3 := stA.fr.get hb27 b2x
            have h4 := (f13.tt f14).get h3 id
            have : b2 ≠ b3 := by omega
            unfold copies_Copy.at
            rw [o15 b2 this]; exact h4
          refine copies_Copy.set hb215 fun h16 c16 s16 o16 => copies_Copy.ld c16 ?_
          have o14p : ∀ y, inBlk p14 y → h13.size ≤ y := g14
          have fA : Fr (fun y => y = b3) h14 h15 := ⟨by omega, fun y _ hn => o15 y hn⟩
          have fB : Fr (fun y => y = b2) h15 h16 := ⟨by omega, fun y _ hn => o16 y hn⟩
          have b3lt : b3 < h13.size := lt_of_get hb13
          have row16 : Row h16 p14 (bc y.v.b) := ((o14.row').frame fA (fun a ea hm => by have := g14 a.block ⟨a, ea, rfl⟩; have hm : a.block = b3 := hm; omega)).frame fB (fun a ea hm => by have := g14 a.block ⟨a, ea, rfl⟩; have hm : a.block = b2 := hm; omega)
          -- the table stays
          have T11 : Ct h11 t X11 (leaseF s y.abs ses dl) := ⟨_, _, _, _, _, _, _, H11⟩
          have lt11 := fun y (hy : X11.M y ∨ X11.D y) => T11.lt y hy
          have T14 := T11.on (f13.tt f14)
          have T15 := T14.frame fA (fun y hy e => by have := lt11 y hy; omega)
          have d2 : ¬ (X11.M b2 ∨ X11.D b2) := fun hm => by
            rcases hm with hm | hm
            · exact nM b2 zb2 (by omega) hm
            · rcases stA.newD b2 hm with h3 | h3
              · have := (H.dd b2 h3).2; omega
              · omega
          have T16 := T15.frame fB (fun y hy e => d2 (e ▸ hy))
          have stC := StepF.no F7 stA
          have stB : StepF X h X11 h16 := by
            refine ⟨⟨by have := f14.1; have := stC.fr.1; omega, fun y hy hn => ?_⟩, stC.newM, stC.newD, stC.oldD⟩
            have := stC.fr.1
            rw [o16 y (by omega), o15 y (by omega), (f13.tt f14).2 y (by omega) id]
            exact stC.fr.2 y hy hn
          exact k3 hm y.abs hpick h16 X11 p14 c14 T16 stB row16 (fun y hy => ⟨by have := g14 y hy; have := F7.1; omega, fun hx => by have := lt11 y (.inl hx); have := g14 y hy; omega⟩)
        · rw [if_neg (by simpa using hs0), wrap_id (by omega) (by omega)]
          refine ⟨⟨by first | trivial | rfl, i + 1, by omega, by omega, fun j z hj hz => ?_⟩, by show xf.length - Int.toNat ((i : Int) + 1) < xf.length - i; omega⟩
          by_cases ej : j = i
          · subst ej; rw [hy] at hz; cases hz; exact hs0
          · exact hall j z (by omega) hz
      · rw [if_neg (by simp; omega)]
        refine fin h7 4 f7 (k2 hm ?_)
        unfold leaseC
        rw [← hF, List.find?_map]
        have : xf.find? ((fun z : Cp => decide (z.ses = 0)) ∘ CV.abs) = none := by
          rw [List.find?_eq_none]
          intro y hy
          obtain ⟨j, hj⟩ := List.getElem?_of_mem hy
          have := hall j y (by have := (List.getElem?_eq_some_iff.1 hj).1; omega) hj
          have h2 : decide (y.abs.ses = 0) = false := decide_eq_false this
          show ¬(decide (y.abs.ses = 0) = true)
          rw [h2]; decide
        rw [this]; rfl
  · rw [decide_eq_false q1, if_pos (by decide)]
    exact bad (fun hm => q1 ⟨hm.1, hm.2.1⟩)
end Cps
end Go.Proofs.Ytgccegnmggjkjaa
