/-
  What is proved here: the parts named below, one behind the other (texts of this work, merged by a program). No condition.
-/
import Derived.Handed
import Derived.Shelf.Vars
import Derived.Lib.LaidU8
import Derived.Lib.LaidTab
import Derived.Test.YtgccegnmggjkjaaGreatDoorMRegc

/-
  Printed by a program of this work (vc.py): the verification conditions of functions, and that each is enough for the call. No condition.
-/
set_option maxRecDepth 100000
set_option maxHeartbeats 4000000
namespace Go.Proofs.YtgccegnmggjkjaaGreatDoor
open Go.Den
def law22_home.vc  (h : Heap) (R : Value → Heap → Prop) : Prop :=
 NewP h (.cells #[.bool false, .int .u64 0, .int .u64 0, .string (⟨#[]⟩ : ByteArray), .string (⟨#[]⟩ : ByteArray)] T.eid_Eid) fun b h_1 =>
 eid_Eid.ST h_1 ⟨b, 0, none⟩ true 7 1 (⟨#[]⟩ : ByteArray) (⟨#[]⟩ : ByteArray) fun h_2 =>
 eid_Eid.LD h_2 ⟨b, 0, none⟩ fun r_0 r_1 r_2 r_3 r_4 =>
 R (.agg #[.bool r_0, .int .u64 r_1, .int .u64 r_2, .string r_3, .string r_4]) h_2
theorem law22_home.walk  {h : Heap} {R : Value → Heap → Prop} (hv : law22_home.vc h R) : CallsH Tryz.prog F.law22_home #[] h R :=
 callsH_of_body (.seq .leaf (.seq .leaf .leaf)) Tryz.func88 rfl rfl (Eq.mp (by kernel_rfl) hv)

def law22_alive.vc  (h : Heap) (R : Value → Heap → Prop) : Prop :=
 CallsH Tryz.prog F.regs_New #[] h fun v h_1 =>
 ∃ (t9 : Option Addr), v = .pointer t9 ∧
 CallsH Tryz.prog F.law22_home #[] h_1 fun v_1 h_2 =>
 ∃ (t11_0 : Bool), ∃ (t11_1 : Int), ∃ (t11_2 : Int), ∃ (t11_3 : ByteArray), ∃ (t11_4 : ByteArray), v_1 = .agg #[.bool t11_0, .int .u64 t11_1, .int .u64 t11_2, .string t11_3, .string t11_4] ∧
 CallsH Tryz.prog F.regs_Table_Add #[.pointer t9, .agg #[.bool t11_0, .int .u64 t11_1, .int .u64 t11_2, .string t11_3, .string t11_4, .int .i64 1, .int .i64 3]] h_2 fun v_2 h_3 =>
 ∃ (t13 : Int), v_2 = .int .i64 t13 ∧
 CallsH Tryz.prog F.law22_home #[] h_3 fun v_3 h_4 =>
 ∃ (t15_0 : Bool), ∃ (t15_1 : Int), ∃ (t15_2 : Int), ∃ (t15_3 : ByteArray), ∃ (t15_4 : ByteArray), v_3 = .agg #[.bool t15_0, .int .u64 t15_1, .int .u64 t15_2, .string t15_3, .string t15_4] ∧
 CallsH Tryz.prog F.regs_Table_Add #[.pointer t9, .agg #[.bool t15_0, .int .u64 t15_1, .int .u64 t15_2, .string t15_3, .string t15_4, .int .i64 0, .int .i64 4]] h_4 fun v_4 h_5 =>
 ∃ (t17 : Int), v_4 = .int .i64 t17 ∧
 CallsH Tryz.prog F.law22_home #[] h_5 fun v_5 h_6 =>
 ∃ (t19_0 : Bool), ∃ (t19_1 : Int), ∃ (t19_2 : Int), ∃ (t19_3 : ByteArray), ∃ (t19_4 : ByteArray), v_5 = .agg #[.bool t19_0, .int .u64 t19_1, .int .u64 t19_2, .string t19_3, .string t19_4] ∧
 CallsH Tryz.prog F.regs_Table_Policy #[.pointer t9, .agg #[.bool t19_0, .int .u64 t19_1, .int .u64 t19_2, .string t19_3, .string t19_4], .int .i64 4, .int .i64 2] h_6 fun v_6 h_7 =>
 ∃ (t20 : Int), v_6 = .int .i64 t20 ∧
 CallsH Tryz.prog F.law22_home #[] h_7 fun v_7 h_8 =>
 ∃ (t22_0 : Bool), ∃ (t22_1 : Int), ∃ (t22_2 : Int), ∃ (t22_3 : ByteArray), ∃ (t22_4 : ByteArray), v_7 = .agg #[.bool t22_0, .int .u64 t22_1, .int .u64 t22_2, .string t22_3, .string t22_4] ∧
 CallsH Tryz.prog F.regs_Table_Policy #[.pointer t9, .agg #[.bool t22_0, .int .u64 t22_1, .int .u64 t22_2, .string t22_3, .string t22_4], .int .i64 3, .int .i64 2] h_8 fun v_8 h_9 =>
 ∃ (t23 : Int), v_8 = .int .i64 t23 ∧
 CallsH Tryz.prog F.law22_home #[] h_9 fun v_9 h_10 =>
 ∃ (t26_0 : Bool), ∃ (t26_1 : Int), ∃ (t26_2 : Int), ∃ (t26_3 : ByteArray), ∃ (t26_4 : ByteArray), v_9 = .agg #[.bool t26_0, .int .u64 t26_1, .int .u64 t26_2, .string t26_3, .string t26_4] ∧
 CallsH Tryz.prog F.regs_Table_Find #[.pointer t9, .agg #[.bool t26_0, .int .u64 t26_1, .int .u64 t26_2, .string t26_3, .string t26_4]] h_10 fun v_10 h_11 =>
 ∃ (t27_0_0 : Bool), ∃ (t27_0_1 : Int), ∃ (t27_0_2 : Int), ∃ (t27_0_3 : ByteArray), ∃ (t27_0_4 : ByteArray), ∃ (t27_0_5 : Int), ∃ (t27_0_6 : Int), ∃ (t27_1 : Bool), v_10 = .tuple #[.agg #[.bool t27_0_0, .int .u64 t27_0_1, .int .u64 t27_0_2, .string t27_0_3, .string t27_0_4, .int .i64 t27_0_5, .int .i64 t27_0_6], .bool t27_1] ∧
 NewP h_11 (.cells #[.bool false, .int .u64 0, .int .u64 0, .string (⟨#[]⟩ : ByteArray), .string (⟨#[]⟩ : ByteArray), .int .i64 0, .int .i64 0] T.regs_Reg) fun b h_12 =>
 regs_Reg.ST h_12 ⟨b, 0, none⟩ t27_0_0 t27_0_1 t27_0_2 t27_0_3 t27_0_4 t27_0_5 t27_0_6 fun h_13 =>
 CallsH Tryz.prog F.law22_home #[] h_13 fun v_11 h_14 =>
 ∃ (t31_0 : Bool), ∃ (t31_1 : Int), ∃ (t31_2 : Int), ∃ (t31_3 : ByteArray), ∃ (t31_4 : ByteArray), v_11 = .agg #[.bool t31_0, .int .u64 t31_1, .int .u64 t31_2, .string t31_3, .string t31_4] ∧
 CallsH Tryz.prog F.regs_Table_Remove #[.pointer t9, .agg #[.bool t31_0, .int .u64 t31_1, .int .u64 t31_2, .string t31_3, .string t31_4], .int .i64 3] h_14 fun v_12 h_15 =>
 ∃ (t32 : Int), v_12 = .int .i64 t32 ∧
 if (t13 == 0) = true then
 if (t17 == 11) = true then
 if (t20 == 13) = true then
 if (t23 == 0) = true then
 ∃ (t49 : Int), hcell h_15 ⟨b, 5, none⟩ = some (.int .i64 t49) ∧
 if (t49 == 2) = true then
 if t27_1 = true then
 if (t32 == 0) = true then
 CallsH Tryz.prog F.law22_home #[] h_15 fun v_13 h_16 =>
 ∃ (t61_0 : Bool), ∃ (t61_1 : Int), ∃ (t61_2 : Int), ∃ (t61_3 : ByteArray), ∃ (t61_4 : ByteArray), v_13 = .agg #[.bool t61_0, .int .u64 t61_1, .int .u64 t61_2, .string t61_3, .string t61_4] ∧
 CallsH Tryz.prog F.regs_Table_Remove #[.pointer t9, .agg #[.bool t61_0, .int .u64 t61_1, .int .u64 t61_2, .string t61_3, .string t61_4], .int .i64 3] h_16 fun v_14 h_17 =>
 ∃ (t62 : Int), v_14 = .int .i64 t62 ∧
 if (t62 == 4) = true then
 CallsH Tryz.prog F.regs_Table_Add #[.pointer t9, .agg #[.bool false, .int .u64 0, .int .u64 0, .string (⟨#[]⟩ : ByteArray), .string (⟨#[]⟩ : ByteArray), .int .i64 0, .int .i64 0]] h_17 fun v_15 h_18 =>
 ∃ (t68 : Int), v_15 = .int .i64 t68 ∧
 R (.bool (t68 == 1)) h_18
 else
 R (.bool false) h_17
 else
 R (.bool false) h_15
 else
 R (.bool false) h_15
 else
 R (.bool false) h_15
 else
 R (.bool false) h_15
 else
 R (.bool false) h_15
 else
 R (.bool false) h_15
 else
 R (.bool false) h_15
theorem law22_alive.walk  {h : Heap} {R : Value → Heap → Prop} (hv : law22_alive.vc h R) : CallsH Tryz.prog F.law22_alive #[] h R :=
 callsH_of_body (.seq .leaf (.seq .leaf (.seq .leaf (.seq .leaf (.seq .leaf (.seq .leaf (.seq .leaf (.seq .leaf (.seq .leaf .leaf))))))))) Tryz.func30 rfl rfl (Eq.mp (by kernel_rfl) hv)

end Go.Proofs.YtgccegnmggjkjaaGreatDoor

/-
  What is proved here: law22's alive, and plain facts on tables of registrations. No condition.
-/
set_option maxRecDepth 100000
namespace Go.Proofs.YtgccegnmggjkjaaGreatDoor
open Go.Den
namespace Regs
open Eid
variable {h h' : Heap} {R : Value → Heap → Prop} {b : Nat} {X : Ft} {L : List Rg}

/-- a name of two numbers -/
abbrev ip (n s : Int) : Ev := ⟨true, n, s, ⟨#[]⟩, ⟨#[]⟩⟩
theorem ip_class (n s : Int) : classE (ip n s) = 1 := by
  unfold classE
  rw [if_neg (fun e => by have := congrArg Ev.ipn e; cases this), if_pos rfl]
theorem ip_less {n n' s s' : Int} (h : n < n') : lessE (ip n s) (ip n' s') = true := less_iff.2 (.inr ⟨by rw [ip_class, ip_class], .inl h⟩)
theorem ip_right {n s : Int} (h1 : 1 ≤ n) (h2 : n ≤ 4294967295) (h3 : s ≤ 4294967295) : rightE (ip n s) = true := by
  unfold rightE
  rw [if_neg (fun e => by have := congrArg Ev.ipn e; cases this), if_pos rfl]
  simp [h1, h2, h3]
theorem ip_rightR {n s p o : Int} (h1 : 1 ≤ n) (h2 : n ≤ 4294967295) (h3 : s ≤ 4294967295) (h4 : 0 ≤ p) (h5 : p ≤ 2) (h6 : 1 ≤ o) (h7 : o ≤ 1099511627776) : rightR ⟨ip n s, p, o⟩ = true := by
  unfold rightR
  have e : (ip n s) ≠ Ev.zero := fun e => by have := congrArg Ev.ipn e; cases this
  have h4' : p ≥ 0 := h4
  have h6' : o ≥ 1 := h6
  simp only [ip_right h1 h2 h3, e, decide_false, Bool.not_false, h4', h5, h6', h7, decide_true, Bool.and_self]
theorem home_ok (hk : ∀ h', Fr (fun _ => False) h h' → R (ev5 (ip 7 1)) h') : CallsH Tryz.prog F.law22_home #[] h R :=
  law22_home.walk (eid_Eid.new fun b1 h1 e1 hb1 f1 => eid_Eid.ld hb1 (hk h1 f1))
theorem alive_ok (hk : ∀ h', Fr (fun _ => False) h h' → R (.bool true) h') : CallsH Tryz.prog F.law22_alive #[] h R := by
  have q1 : addE [] ⟨ip 7 1, 1, 3⟩ = 0 := by kernel_rfl
  have q1' : addL [] ⟨ip 7 1, 1, 3⟩ = [⟨ip 7 1, 1, 3⟩] := by kernel_rfl
  have q2 : addE [⟨ip 7 1, 1, 3⟩] ⟨ip 7 1, 0, 4⟩ = 11 := by kernel_rfl
  have q2' : addL [⟨ip 7 1, 1, 3⟩] ⟨ip 7 1, 0, 4⟩ = [⟨ip 7 1, 1, 3⟩] := by kernel_rfl
  have q3 : polE [⟨ip 7 1, 1, 3⟩] (ip 7 1) 4 2 = 13 := by kernel_rfl
  have q3' : polL [⟨ip 7 1, 1, 3⟩] (ip 7 1) 4 2 = [⟨ip 7 1, 1, 3⟩] := by kernel_rfl
  have q4 : polE [⟨ip 7 1, 1, 3⟩] (ip 7 1) 3 2 = 0 := by kernel_rfl
  have q4' : polL [⟨ip 7 1, 1, 3⟩] (ip 7 1) 3 2 = [⟨ip 7 1, 2, 3⟩] := by kernel_rfl
  have q5 : findR [⟨ip 7 1, 2, 3⟩] (ip 7 1) = some ⟨ip 7 1, 2, 3⟩ := by kernel_rfl
  have q6 : askE [⟨ip 7 1, 2, 3⟩] (ip 7 1) 3 = 0 := by kernel_rfl
  have q6' : remL [⟨ip 7 1, 2, 3⟩] (ip 7 1) 3 = [] := by kernel_rfl
  have q7 : askE [] (ip 7 1) 3 = 4 := by kernel_rfl
  have q7' : remL [] (ip 7 1) 3 = [] := by kernel_rfl
  have q8 : addE [] .zero = 1 := by kernel_rfl
  refine law22_alive.walk (new_ok fun h1 b X H1 u1 => ⟨_, rfl, home_ok fun h2 f2 => ⟨_, _, _, _, _, rfl, add_ok (H1.on f2) ⟨ip 7 1, 1, 3⟩ (by simp) fun h3 H3 s3 => ⟨_, rfl, ?_⟩⟩⟩)
  rw [q1'] at H3
  have u3 := (u1.on f2).step s3
  refine home_ok fun h4 f4 => ⟨_, _, _, _, _, rfl, add_ok (H3.on f4) ⟨ip 7 1, 0, 4⟩ (by simp) fun h5 H5 s5 => ⟨_, rfl, ?_⟩⟩
  rw [q2'] at H5
  have u5 := (u3.on f4).step s5
  refine home_ok fun h6 f6 => ⟨_, _, _, _, _, rfl, policy_ok (H5.on f6) (ip 7 1) 4 2 fun h7 H7 s7 => ⟨_, rfl, ?_⟩⟩
  rw [q3'] at H7
  have u7 := (u5.on f6).step s7
  refine home_ok fun h8 f8 => ⟨_, _, _, _, _, rfl, policy_ok (H7.on f8) (ip 7 1) 3 2 fun h9 H9 s9 => ⟨_, rfl, ?_⟩⟩
  rw [q4'] at H9
  have u9 := (u7.on f8).step s9
  refine home_ok fun h10 f10 => ⟨_, _, _, _, _, rfl, find_ok (H9.on f10) (ip 7 1) fun h11 f11 => ⟨_, _, _, _, _, _, _, _, rfl, regs_Reg.new fun b2 h12 e12 hb12 f12 => ?_⟩⟩
  rw [q5] at hb12
  have F12 := f10.tt (f11.tt f12)
  have H12 := H9.on F12
  have lt12 := lt_of_get hb12
  refine home_ok fun h13 f13 => ⟨_, _, _, _, _, rfl, remove_ok (H12.on f13) (ip 7 1) 3 fun h14 H14 s14 => ⟨_, rfl, ?_⟩⟩
  rw [q6'] at H14
  have u14 := ((u9.on F12).on f13).step s14
  have hb14 := s14.fr.get (f13.get hb12 id) (fun hm => by
    have := (H9.on (f10.tt f11)).lt b2 (.inl hm)
    omega)
  rw [q1, if_pos (by rfl), q2, if_pos (by rfl), q3, if_pos (by rfl), q4, if_pos (by rfl)]
  refine ⟨_, cell_at hb14 rfl, ?_⟩
  rw [if_pos (by rfl), q5, if_pos (by rfl), q6, if_pos (by rfl)]
  refine home_ok fun h15 f15 => ⟨_, _, _, _, _, rfl, remove_ok (H14.on f15) (ip 7 1) 3 fun h16 H16 s16 => ⟨_, rfl, ?_⟩⟩
  rw [q7'] at H16
  have u16 := (u14.on f15).step s16
  rw [q7, if_pos (by rfl)]
  refine add_ok H16 .zero (by simp) fun h17 H17 s17 => ⟨_, rfl, ?_⟩
  rw [q8]
  exact hk h17 (u16.step s17).fr

/-! ### plain -/
theorem find_mem {r : Rg} (so : L.Pairwise rless) (hr : r ∈ L) : findR L r.e = some r := by
  cases hf : findR L r.e with
  | none => exact absurd rfl (findR_none.1 hf r hr)
  | some y =>
    obtain ⟨h1, h2⟩ := findR_some hf
    obtain ⟨i, hi⟩ := List.getElem?_of_mem hr
    obtain ⟨j, hj⟩ := List.getElem?_of_mem h1
    by_cases hij : j = i
    · subst hij; rw [hi] at hj; exact hj.symm
    · exact absurd h2 (KeysNd.ne (keys_nodup so) hj hi hij)
theorem find_pol (L : List Rg) (x : Ev) (p : Int) : findR (polR L x p) x = (findR L x).map (fun r => { r with pol := p }) := by
  induction L with
  | nil => rfl
  | cons y l ih =>
    unfold findR polR at ih ⊢
    rw [List.map_cons, List.find?_cons, List.find?_cons]
    by_cases e : y.e = x
    · simp [e]
    · simp only [e, if_false, decide_false]; exact ih
theorem rem_pol (L : List Rg) (x : Ev) (p : Int) : remR (polR L x p) x = remR L x := by
  induction L with
  | nil => rfl
  | cons y l ih =>
    unfold remR polR at ih ⊢
    rw [List.map_cons, List.filter_cons, List.filter_cons, ih]
    by_cases e : y.e = x
    · simp [e]
    · simp only [e, if_false, decide_false]
theorem rem_len {r : Rg} (so : L.Pairwise rless) (hr : r ∈ L) : (remR L r.e).length + 1 = L.length := by
  have := (pol_perm (p := 0) so hr rfl).length_eq
  unfold polR at this
  rw [List.length_map, List.length_cons] at this
  omega
theorem insR_end {r : Rg} : ∀ {L : List Rg}, (∀ x ∈ L, lessE x.e r.e = true) → insR r L = L ++ [r]
  | [], _ => rfl
  | x :: l, h => by
    unfold insR
    rw [if_pos (h x (by simp)), insR_end (fun y hy => h y (List.mem_cons_of_mem _ hy))]; rfl
end Regs
end Go.Proofs.YtgccegnmggjkjaaGreatDoor

/-
  What is proved here: regs.Load of records that registrations have. No condition.
-/
set_option maxRecDepth 100000
namespace Go.Proofs.YtgccegnmggjkjaaGreatDoor
open Go.Den Go.Fields
namespace Regs
open Eid Fld
variable {h h' : Heap} {R : Value → Heap → Prop} {b x : Nat} {X Y : Ft} {L L' : List Rg} {p : Option Addr} {c n i l : Nat} {r : Rg}
/-! ### plain -/
def loadL (L : List Rg) : List Rg → Option (List Rg)
  | [] => some L
  | r :: rs => if addE L r = 0 then loadL (insR r L) rs else none
theorem okR.ne (k : okR r) : r.e ≠ Ev.zero := by
  have := k.rt
  unfold rightR at this
  simp only [Bool.and_eq_true, Bool.not_eq_true', decide_eq_true_eq, decide_eq_false_iff_not] at this
  exact this.2.1
theorem read1 (k : okR r) : readText 0 (recR r) = (textE r.e, 0, encNum (natOf r.pol) ++ encNum (natOf r.own)) := by
  have := text_len k.e.1 k.sv
  unfold recR; rw [List.append_assoc]; exact readText_enc (by omega) _
theorem read2 (k : okR r) (y : List UInt8) : readInt 0 (encNum (natOf r.pol) ++ y) = (natOf r.pol, 0, y) := by
  have := k.e
  exact readMost_enc (by unfold natOf; omega) (by decide) y
theorem read3 (k : okR r) : readInt 0 (encNum (natOf r.own)) = (natOf r.own, 0, []) := by
  have := k.e
  have h1 := readMost_enc (top := 1099511627776) (n := natOf r.own) (by unfold natOf; omega) (by decide) []
  rw [List.append_nil] at h1
  exact h1
/-! ### the call -/
theorem load_ok {xs : List BV} {rs : List Rg} (H : Fld.Rows h p l c xs) (e : xs.map BV.b = rs.map recR) (ok : ∀ r ∈ rs, okR r) (hl : rs.length ≤ 100) (tb : Num.Tab h) (mx : Num.Mx h)
    (k1 : ∀ L, loadL [] rs = some L → L.map recR = rs.map recR → ∀ h' b X, Tb h' b X L → UpF h X h' → R (.tuple #[.pointer (some ⟨b, 0, none⟩), .int .i64 0]) h')
    (k2 : (∀ L, loadL [] rs = some L → L.map recR ≠ rs.map recR) → ∀ h', Fr (fun _ => False) h h' → R (.tuple #[.pointer none, .int .i64 3]) h') : CallsH Tryz.prog F.regs_Load #[.slice p l c] h R := by
  have ln : xs.length = rs.length := by have := congrArg List.length e; simpa using this
  have hlen := H.len
  subst hlen
  refine regs_Load.walk (new_ok fun h1 b X H1 u1 => ⟨_, rfl, ?_⟩)
  refine ⟨fun t g => ∃ (k : Nat) (L : List Rg), t = (k : Int) ∧ k ≤ xs.length ∧ loadL L (rs.drop k) = loadL [] rs ∧ Tb g b X L ∧ UpF h X g ∧ L.length ≤ 8 ∧ ∀ r ∈ L, okR r, fun t _ => xs.length - t.toNat, ⟨0, [], rfl, by omega, by simp, H1, u1, by simp, by simp⟩, ?_⟩
  rintro _ g ⟨k, L, rfl, hk1, hL, Hg, ug, l8, okL⟩
  have Hr := H.on ug.fr
  have tg := tb.on ug.fr
  have mg := mx.on ug.fr
  by_cases hlt : k < xs.length
  · have q1 : (k : Int) < ((xs.length : Nat) : Int) := by omega
    simp only [q1, decide_true, if_true, Int.toNat_natCast]
    have gx : xs[k]? = some xs[k] := List.getElem?_eq_getElem hlt
    generalize xs[k] = x at gx
    have gr : rs[k]? = some (rs[k]'(by omega)) := List.getElem?_eq_getElem _
    have dr : rs.drop k = rs[k]'(by omega) :: rs.drop (k + 1) := List.drop_eq_getElem_cons _
    generalize rs[k]'(by omega) = r at gr dr
    have exr : x.b = recR r := by
      have h1 : (xs.map BV.b)[k]? = (rs.map recR)[k]? := by rw [e]
      rw [List.getElem?_map, List.getElem?_map, gx, gr] at h1
      exact Option.some.inj h1
    have kr := ok r (List.mem_of_getElem? gr)
    have rl := recR_len kr
    have ke := kr.e
    obtain ⟨a, rfl⟩ := Hr.row.some (by intro e; cases xs with | nil => simp at hlt | cons => simp at e)
    have cx := (Hr.row.heldAt nenc_len gx).1
    rw [add_zero_addr] at cx
    have rx := Hr.each x (List.mem_of_getElem? gx)
    rw [exr] at rx
    refine ⟨⟨by first | trivial | omega, by first | trivial | omega⟩, onSome_some.2 ⟨_, _, _, cx, Fld.read_ok (bs := recR r) rx (by rw [exr]) (by omega) fun h3 f S D3 f3 n3 => ⟨_, rfl, Fld.rtext_ok D3 (by omega) fun h4 p4 c4 D4 o4 n4 f4 => ?_⟩⟩⟩
    have nf : g.size ≤ f := n3 f D3.self
    have F4 := f3.fresh f4 (fun y e => by rw [e]; exact nf)
    rw [read1 kr] at D4 o4 ⊢
    dsimp only at D4 o4 ⊢
    refine ⟨_, _, _, rfl, _, conv o4.row' rfl, Eid.parse_ok ke.1 kr.sv kr.ne (tg.on F4) (mg.on F4) fun h5 f5 => ⟨_, _, _, _, _, _, rfl, eid_Eid.new fun b6 h6 e6 hb6 f6 => ?_⟩⟩
    have F6 := F4.tt (f5.tt f6)
    have D6 := D4.frame (f5.tt f6) (fun _ _ => id)
    have nb6 : ¬ S b6 := fun hs => by have := (D4.frame f5 (fun _ _ => id)).lt b6 hs; omega
    refine JoinP.of fun J hJ => eid_Eid.ld hb6 ?_
    have n1 : ((natOf r.pol : Nat) : Int) = r.pol := by unfold natOf; omega
    have n2 : ((natOf r.own : Nat) : Int) = r.own := by unfold natOf; omega
    have s6 := F6.1
    have fin : ∀ (g1 : Heap) (b1 : Nat), Fr (fun _ => False) g g1 → Rd g1 f S 0 [] → r.at g1 b1 → (¬ S b1 ∧ g.size ≤ b1) → J (some ⟨b1, 0, none⟩) g1 := by
      intro g1 b1 fg Dg hb1 nb1
      subst hJ
      refine JoinP.of fun J1 hJ1 => Fld.rend_ok Dg ⟨_, rfl, ?_⟩
      have e0 : (readEnd 0 [] != 0) = false := by decide
      rw [e0, if_neg (by decide)]
      refine onSome_some.2 (regs_Reg.ld hb1 (add_ok (Hg.on fg) r l8 fun h8 H8 s8 => ⟨_, rfl, ?_⟩))
      have u8 := (ug.on fg).step s8
      by_cases ha : addE L r = 0
      · have e1 : (addE L r != 0) = false := by rw [ha]; rfl
        rw [e1, if_neg (by decide)]
        have hb8 : r.at h8 b1 := s8.fr.get hb1 (fun hm => by have := Hg.lt b1 (.inl hm); omega)
        refine onSome_some.2 (regs_Reg.ld hb8 (record_ok (r := r) kr (tb.on u8.fr) fun p9 c9 h9 o9 f9 n9 => ⟨_, _, _, rfl, ?_⟩))
        have rx9 : Row h9 x.p (bc (recR r)) := by
          have := (H.on (u8.fr.tt f9)).each x (List.mem_of_getElem? gx)
          rwa [exr] at this
        refine Fld.equal_ok o9.row' rfl rx9 (by rw [exr]) ⟨_, rfl, ?_⟩
        subst hJ1
        simp only [decide_true, Bool.not_true, Bool.false_eq_true, if_false]
        rw [wrap_id (by omega) (by omega)]
        have eL : addL L r = insR r L := by unfold addL; rw [if_pos ha]
        rw [eL] at H8
        refine ⟨⟨k + 1, insR r L, by omega, by omega, ?_, H8.on f9, u8.on f9, ?_, fun y hy => ?_⟩, by show _ - Int.toNat ((k : Int) + 1) < _; omega⟩
        · rw [← hL, dr]
          show _ = (if addE L r = 0 then loadL (insR r L) (rs.drop (k + 1)) else none)
          rw [if_pos ha]
        · rw [insR_len]
          rcases addE_cases L r with h1 | h1 | h1 | h1 <;> omega
        · rcases insR_mem.1 hy with rfl | hy
          · exact kr
          · exact okL y hy
      · have e1 : (addE L r != 0) = true := by simpa using ha
        rw [e1, if_pos rfl]
        subst hJ1
        simp only [if_true]
        refine k2 (fun L' hL' => ?_) h8 u8.fr
        rw [← hL, dr] at hL'
        unfold loadL at hL'
        rw [if_neg ha] at hL'
        cases hL'
    have zr : regs_Reg.at (h6.push (.cells #[.bool false, .int .u64 0, .int .u64 0, .string ⟨#[]⟩, .string ⟨#[]⟩, .int .i64 0, .int .i64 0] T.regs_Reg)) h6.size false 0 0 ⟨#[]⟩ ⟨#[]⟩ 0 0 := push_new
    have lt6 := lt_of_get hb6
    refine ⟨Fld.rint_ok D6 fun h7 D7 f7 => ?_, newP_of ?_, trivial⟩
    · rw [read2 kr] at D7 ⊢
      dsimp only at D7 ⊢
      have F7 := F6.fresh f7 (fun y e => by rw [e]; exact nf)
      have hb7 := f7.get hb6 (fun e => nb6 (by rw [e]; exact D6.self))
      refine ⟨_, rfl, eid_Eid.held hb7, ⟨Fld.rint_ok D7 fun h8 D8 f8 => ?_, newP_of ?_, trivial⟩⟩
      · rw [read3 kr] at D8 ⊢
        dsimp only at D8 ⊢
        have hb8 := f8.get hb7 (fun e => nb6 (by rw [e]; exact D6.self))
        have f9 : Fr (fun _ => False) h8 (h8.push (.cells #[.bool false, .int .u64 0, .int .u64 0, .string ⟨#[]⟩, .string ⟨#[]⟩, .int .i64 0, .int .i64 0] T.regs_Reg)) := Fr.push _ _
        have zr9 : regs_Reg.at (h8.push (.cells #[.bool false, .int .u64 0, .int .u64 0, .string ⟨#[]⟩, .string ⟨#[]⟩, .int .i64 0, .int .i64 0] T.regs_Reg)) h8.size false 0 0 ⟨#[]⟩ ⟨#[]⟩ 0 0 := push_new
        refine ⟨_, rfl, eid_Eid.held hb8, newP_of ⟨eid_Eid.held (f9.get hb8 id), regs_Reg.set zr9 fun h10 a10 s10 o10 => ?_⟩⟩
        rw [n1, n2] at a10
        have F8 := F7.fresh f8 (fun y e => by rw [e]; exact nf)
        have z8 := F8.1
        have nS : ¬ S h8.size := fun hs => by have := D8.lt _ hs; omega
        have f10 : Fr (fun y => y = h8.size) (h8.push (.cells #[.bool false, .int .u64 0, .int .u64 0, .string ⟨#[]⟩, .string ⟨#[]⟩, .int .i64 0, .int .i64 0] T.regs_Reg)) h10 := ⟨by omega, fun y _ hn => o10 y hn⟩
        exact fin h10 _ ((F8.tt f9).fresh f10 (fun y e => by omega)) ((D8.frame f9 (fun _ _ => id)).frame f10 (fun y hy e => nS (e ▸ hy))) a10 ⟨nS, z8⟩
      · have f9 : Fr (fun _ => False) h7 (h7.push (.cells #[.bool false, .int .u64 0, .int .u64 0, .string ⟨#[]⟩, .string ⟨#[]⟩, .int .i64 0, .int .i64 0] T.regs_Reg)) := Fr.push _ _
        have zr9 : regs_Reg.at (h7.push (.cells #[.bool false, .int .u64 0, .int .u64 0, .string ⟨#[]⟩, .string ⟨#[]⟩, .int .i64 0, .int .i64 0] T.regs_Reg)) h7.size false 0 0 ⟨#[]⟩ ⟨#[]⟩ 0 0 := push_new
        have nS : ¬ S h7.size := fun hs => by have := D7.lt _ hs; omega
        refine ⟨eid_Eid.held (f9.get hb7 id), Fld.rint_ok (D7.frame f9 (fun _ _ => id)) fun h8 D8 f8 => ?_⟩
        rw [read3 kr] at D8 ⊢
        dsimp only at D8 ⊢
        have hb8 := f8.get (f9.get hb7 id) (fun e => nb6 (by rw [e]; exact D6.self))
        have zr8 := f8.get zr9 (fun e => nS (by rw [e]; exact D6.self))
        refine ⟨_, rfl, eid_Eid.held hb8, regs_Reg.set zr8 fun h10 a10 s10 o10 => ?_⟩
        rw [n1, n2] at a10
        have F8 := (F7.tt f9).fresh f8 (fun y e => by rw [e]; exact nf)
        have z8 := F7.1
        have f10 : Fr (fun y => y = h7.size) h8 h10 := ⟨by omega, fun y _ hn => o10 y hn⟩
        exact fin h10 _ (F8.fresh f10 (fun y e => by omega)) (D8.frame f10 (fun y hy e => nS (e ▸ hy))) a10 ⟨nS, z8⟩
    · have f9 : Fr (fun _ => False) h6 (h6.push (.cells #[.bool false, .int .u64 0, .int .u64 0, .string ⟨#[]⟩, .string ⟨#[]⟩, .int .i64 0, .int .i64 0] T.regs_Reg)) := Fr.push _ _
      have nS : ¬ S h6.size := fun hs => by have := D6.lt _ hs; omega
      refine ⟨eid_Eid.held (f9.get hb6 id), Fld.rint_ok (D6.frame f9 (fun _ _ => id)) fun h7 D7 f7 => ?_⟩
      rw [read2 kr] at D7 ⊢
      dsimp only at D7 ⊢
      have hb7 := f7.get (f9.get hb6 id) (fun e => nb6 (by rw [e]; exact D6.self))
      have zr7 := f7.get zr (fun e => nS (by rw [e]; exact D6.self))
      refine ⟨_, rfl, eid_Eid.held hb7, Fld.rint_ok D7 fun h8 D8 f8 => ?_⟩
      rw [read3 kr] at D8 ⊢
      dsimp only at D8 ⊢
      have hb8 := f8.get hb7 (fun e => nb6 (by rw [e]; exact D6.self))
      have zr8 := f8.get zr7 (fun e => nS (by rw [e]; exact D6.self))
      refine ⟨_, rfl, eid_Eid.held hb8, regs_Reg.set zr8 fun h10 a10 s10 o10 => ?_⟩
      rw [n1, n2] at a10
      have F8 := ((F6.tt f9).fresh f7 (fun y e => by rw [e]; exact nf)).fresh f8 (fun y e => by rw [e]; exact nf)
      have f10 : Fr (fun y => y = h6.size) h8 h10 := ⟨by omega, fun y _ hn => o10 y hn⟩
      exact fin h10 _ (F8.fresh f10 (fun y e => by omega)) (D8.frame f10 (fun y hy e => nS (e ▸ hy))) a10 ⟨nS, s6⟩
  · have q1 : ¬ (k : Int) < ((xs.length : Nat) : Int) := by omega
    simp only [q1, decide_false, Bool.false_eq_true, if_false]
    rw [List.drop_eq_nil_of_le (by omega)] at hL
    refine save_ok Hg (by omega) okL tg fun h2 p2 l2 c2 B2 f2 => ⟨_, _, _, rfl, ?_⟩
    obtain ⟨ys, Y, eY⟩ := B2.to_rows
    have bl := B2.len
    rw [List.length_map] at bl
    refine Fld.equalFunc_ok Y (Hr.on f2) (by omega) ⟨_, rfl, ?_⟩
    rw [eY, e]
    by_cases hs : L.map recR = rs.map recR
    · simp only [hs, decide_true, Bool.not_true, Bool.false_eq_true, if_false]
      exact k1 L hL.symm hs h2 b X (Hg.on f2) (ug.on f2)
    · simp only [hs, decide_false, Bool.not_false, if_true]
      refine k2 (fun L' hL' => ?_) h2 (ug.fr.tt f2)
      rw [← hL] at hL'
      cases hL'
      exact hs
end Regs
end Go.Proofs.YtgccegnmggjkjaaGreatDoor

/-
  What is proved here: the steps that a law of tables of registrations is handed; what tables keep. No condition.
-/
set_option maxRecDepth 100000
namespace Go.Proofs.YtgccegnmggjkjaaGreatDoor
open Go.Den Go.Fields Go.RowKit
namespace Regs
open Eid Fld
variable {h h' : Heap} {R : Value → Heap → Prop} {b x : Nat} {X Y : Ft} {L L' : List Rg} {p : Option Addr} {c n i : Nat} {r : Rg}
/-! ### its steps -/
structure OP where
  kind : Int
  pol : Int
  own : Int
  e : Ev
abbrev oenc (f : OP) : List Value := [.int .i64 f.kind, .int .i64 f.pol, .int .i64 f.own, .bool f.e.ipn, .int .u64 f.e.node, .int .u64 f.e.svc, .string f.e.host, .string f.e.dem]
abbrev OP.at (f : OP) (h : Heap) (b : Nat) : Prop := law22_Op.at h b f.kind f.pol f.own f.e.ipn f.e.node f.e.svc f.e.host f.e.dem
theorem oenc_len (f : OP) : (oenc f).length = 8 := rfl
theorem op_tl : tleaves Tryz.prog 5 T.law22_Op = some [T.int, T.int, T.int, T.bool, T.uint64, T.uint64, T.string, T.string] := by kernel_rfl
theorem Rok.str {m : Nat} {v : Value} (hr : Rok Tryz.prog h m T.string [v]) : ∃ s, v = .string s := by
  cases m with
  | zero => exact hr.elim
  | succ m =>
    unfold Rok at hr
    rw [uS] at hr
    obtain ⟨s, e, _⟩ := hr
    exact ⟨s, by simpa using e⟩
theorem op_dec (n : Nat) (cs : List Value) (hl : cs.length = 8) (hr : Rok Tryz.prog h n T.law22_Op cs) : ∃ f : OP, cs = oenc f ∧ 0 ≤ f.e.svc := by
  have L := tleaves_ok 5 n _ _ cs op_tl (by rw [hl]; rfl) hr
  match cs, hl with
  | [a, b, c, d, e, f, g, i], _ =>
    obtain ⟨k0, rfl, _⟩ := L.int 0 rfl rfl (k := .i64) (by kernel_rfl)
    obtain ⟨k1, rfl, _⟩ := L.int 1 rfl rfl (k := .i64) (by kernel_rfl)
    obtain ⟨k2, rfl, _⟩ := L.int 2 rfl rfl (k := .i64) (by kernel_rfl)
    obtain ⟨k3, rfl⟩ := L.bool 3 rfl rfl (by kernel_rfl)
    obtain ⟨k4, rfl, _⟩ := L.int 4 rfl rfl (k := .u64) (by kernel_rfl)
    obtain ⟨k5, rfl, w5⟩ := L.int 5 rfl rfl (k := .u64) (by kernel_rfl)
    obtain ⟨m6, hm6⟩ := L.get 6 rfl rfl
    obtain ⟨k6, rfl⟩ := Rok.str hm6
    obtain ⟨m7, hm7⟩ := L.get 7 rfl rfl
    obtain ⟨k7, rfl⟩ := Rok.str hm7
    exact ⟨⟨k0, k1, k2, ⟨k3, k4, k5, k6, k7⟩⟩, rfl, (wf_u64 w5).1⟩
theorem ops_read {l c : Nat} (hv : RokV Tryz.prog h T.s_law22_Op (.slice p l c)) : ∃ fs : List OP, fs.length = l ∧ Row h p (fs.flatMap oenc) ∧ ∀ f ∈ fs, 0 ≤ f.e.svc := by
  obtain ⟨xs, h1, _, _, h2, h3⟩ := RokV.slice (e := T.law22_Op) oenc 8 (fun f => 0 ≤ f.e.svc) (by kernel_rfl) (fun _ => rfl) (fun n cs hl hr => op_dec n cs hl hr) (by kernel_rfl) hv
  exact ⟨xs, h1, h2, h3⟩
/-! ### plain -/
structure okL (L : List Rg) : Prop where
  len : L.length ≤ 8
  all : ∀ r ∈ L, okR r
theorem okL.add (k : okL L) (r : Rg) (hs : 0 ≤ r.e.svc) : okL (addL L r) := by
  unfold addL
  rcases addE_cases L r with ⟨_, e⟩ | ⟨_, _, e⟩ | ⟨_, _, _, e⟩ | ⟨h1, _, h3, e⟩ <;> rw [e]
  · exact k
  · exact k
  · exact k
  · rw [if_pos rfl]
    exact ⟨by rw [insR_len]; omega, fun z hz => (insR_mem.1 hz).elim (fun e => e ▸ ⟨h1, hs⟩) (k.all z)⟩
theorem okL.rem (k : okL L) (x : Ev) (o : Int) : okL (remL L x o) := by
  unfold remL
  split
  · exact ⟨Nat.le_trans (List.length_filter_le _ _) k.len, fun z hz => k.all z (List.mem_filter.1 hz).1⟩
  · exact k
theorem okL.pol (k : okL L) (x : Ev) (o q : Int) : okL (polL L x o q) := by
  unfold polL
  split
  · rename_i he
    have hq : 0 ≤ q ∧ q ≤ 2 := by
      unfold polE at he
      split at he
      · assumption
      · cases he
    refine ⟨by unfold polR; rw [List.length_map]; exact k.len, fun z hz => ?_⟩
    obtain ⟨y, hy, rfl⟩ := List.mem_map.1 hz
    have ky := k.all y hy
    split
    · refine ⟨?_, ky.sv⟩
      have h1 := ky.rt
      unfold rightR at h1 ⊢
      simp only [Bool.and_eq_true, Bool.not_eq_true', decide_eq_true_eq, decide_eq_false_iff_not] at h1 ⊢
      exact ⟨h1.1, h1.2.1, ⟨hq.1, hq.2⟩, h1.2.2.2⟩
    · exact ky
  · exact k
end Regs
end Go.Proofs.YtgccegnmggjkjaaGreatDoor

/-
  Printed by a program of this work (vc.py): the verification conditions of functions, and that each is enough for the call. No condition.
-/
set_option maxRecDepth 100000
set_option maxHeartbeats 4000000
namespace Go.Proofs.YtgccegnmggjkjaaGreatDoor
open Go.Den
def law22_RegsBack.vc (ops_p : Option Addr) (ops_l ops_c : Nat) (h : Heap) (R : Value → Heap → Prop) : Prop :=
 CallsH Tryz.prog F.regs_New #[] h fun v h_1 =>
 ∃ (t20 : Option Addr), v = .pointer t20 ∧
 ∃ (I : Int → Heap → Prop) (mu : Int → Heap → Nat), I 0 h_1 ∧ ∀ (i : Int) (h_2 : Heap), I i h_2 →
 JoinP (fun (t28 : Bool) (h_3 : Heap) =>
 if t28 = true then
 JoinP (fun (h_4 : Heap) =>
 (I (IntKind.wrap .i64 (i + 1)) h_4 ∧ mu (IntKind.wrap .i64 (i + 1)) h_4 < mu i h_2))
 (fun J_1 =>
 ((0 : Int) ≤ i ∧ i < ((ops_l : Nat) : Int)) ∧
 onSome ops_p fun a =>
 law22_Op.LD h_3 (a.add (Int.toNat i * 8)) fun t34_0 t34_1 t34_2 t34_3 t34_4 t34_5 t34_6 t34_7 =>
 NewP h_3 (.cells #[.int .i64 0, .int .i64 0, .int .i64 0, .bool false, .int .u64 0, .int .u64 0, .string (⟨#[]⟩ : ByteArray), .string (⟨#[]⟩ : ByteArray)] T.law22_Op) fun b h_5 =>
 law22_Op.ST h_5 ⟨b, 0, none⟩ t34_0 t34_1 t34_2 t34_3 t34_4 t34_5 t34_6 t34_7 fun h_6 =>
 ∃ (t37 : ByteArray), hcell h_6 ⟨b, 6, none⟩ = some (.string t37) ∧
 ∃ (t41 : ByteArray), hcell h_6 ⟨b, 7, none⟩ = some (.string t41) ∧
 if (decide ((IntKind.wrap .i64 (((t37.size : Nat) : Int) + ((t41.size : Nat) : Int))) > 300)) = true then
 CallsH Tryz.prog F.law22_alive #[] h_6 fun v_1 h_7 =>
 ∃ (t45 : Bool), v_1 = .bool t45 ∧
 R (.bool t45) h_7
 else
 eid_Eid.LD h_6 ⟨b, 3, none⟩ fun t49_0 t49_1 t49_2 t49_3 t49_4 =>
 CallsH Tryz.prog F.regs_Table_Find #[.pointer t20, .agg #[.bool t49_0, .int .u64 t49_1, .int .u64 t49_2, .string t49_3, .string t49_4]] h_6 fun v_2 h_8 =>
 ∃ (t50_0_0 : Bool), ∃ (t50_0_1 : Int), ∃ (t50_0_2 : Int), ∃ (t50_0_3 : ByteArray), ∃ (t50_0_4 : ByteArray), ∃ (t50_0_5 : Int), ∃ (t50_0_6 : Int), ∃ (t50_1 : Bool), v_2 = .tuple #[.agg #[.bool t50_0_0, .int .u64 t50_0_1, .int .u64 t50_0_2, .string t50_0_3, .string t50_0_4, .int .i64 t50_0_5, .int .i64 t50_0_6], .bool t50_1] ∧
 NewP h_8 (.cells #[.bool false, .int .u64 0, .int .u64 0, .string (⟨#[]⟩ : ByteArray), .string (⟨#[]⟩ : ByteArray), .int .i64 0, .int .i64 0] T.regs_Reg) fun b_1 h_9 =>
 regs_Reg.ST h_9 ⟨b_1, 0, none⟩ t50_0_0 t50_0_1 t50_0_2 t50_0_3 t50_0_4 t50_0_5 t50_0_6 fun h_10 =>
 ∃ (t54 : Int), hcell h_10 ⟨b, 0, none⟩ = some (.int .i64 t54) ∧
 JoinP (fun (e : Int) (h_11 : Heap) =>
 eid_Eid.LD h_11 ⟨b, 3, none⟩ fun t87_0 t87_1 t87_2 t87_3 t87_4 =>
 CallsH Tryz.prog F.regs_Table_Find #[.pointer t20, .agg #[.bool t87_0, .int .u64 t87_1, .int .u64 t87_2, .string t87_3, .string t87_4]] h_11 fun v_3 h_12 =>
 ∃ (t88_0_0 : Bool), ∃ (t88_0_1 : Int), ∃ (t88_0_2 : Int), ∃ (t88_0_3 : ByteArray), ∃ (t88_0_4 : ByteArray), ∃ (t88_0_5 : Int), ∃ (t88_0_6 : Int), ∃ (t88_1 : Bool), v_3 = .tuple #[.agg #[.bool t88_0_0, .int .u64 t88_0_1, .int .u64 t88_0_2, .string t88_0_3, .string t88_0_4, .int .i64 t88_0_5, .int .i64 t88_0_6], .bool t88_1] ∧
 NewP h_12 (.cells #[.bool false, .int .u64 0, .int .u64 0, .string (⟨#[]⟩ : ByteArray), .string (⟨#[]⟩ : ByteArray), .int .i64 0, .int .i64 0] T.regs_Reg) fun b_2 h_13 =>
 regs_Reg.ST h_13 ⟨b_2, 0, none⟩ t88_0_0 t88_0_1 t88_0_2 t88_0_3 t88_0_4 t88_0_5 t88_0_6 fun h_14 =>
 JoinP (fun (changed : Bool) (h_15 : Heap) =>
 JoinP (fun (t128 : Bool) (h_16 : Heap) =>
 if t128 = true then
 R (.bool false) h_16
 else
 J_1 h_16)
 (fun J_4 =>
 if (e != 0) = true then
 if changed = true then
 J_4 true h_15
 else
 if t50_1 = true then
 if changed = true then
 ∃ (t111 : Int), hcell h_15 ⟨b_1, 6, none⟩ = some (.int .i64 t111) ∧
 ∃ (t113 : Int), hcell h_15 ⟨b, 2, none⟩ = some (.int .i64 t113) ∧
 if (t111 != t113) = true then
 J_4 true h_15
 else
 if t50_1 = true then
 ∃ (t121 : Int), hcell h_15 ⟨b, 0, none⟩ = some (.int .i64 t121) ∧
 if (t121 == 0) = true then
 J_4 (e == 0) h_15
 else
 J_4 false h_15
 else
 J_4 false h_15
 else
 if t50_1 = true then
 ∃ (t121_1 : Int), hcell h_15 ⟨b, 0, none⟩ = some (.int .i64 t121_1) ∧
 if (t121_1 == 0) = true then
 J_4 (e == 0) h_15
 else
 J_4 false h_15
 else
 J_4 false h_15
 else
 if t50_1 = true then
 ∃ (t121_2 : Int), hcell h_15 ⟨b, 0, none⟩ = some (.int .i64 t121_2) ∧
 if (t121_2 == 0) = true then
 J_4 (e == 0) h_15
 else
 J_4 false h_15
 else
 J_4 false h_15
 else
 if t50_1 = true then
 if changed = true then
 ∃ (t111_1 : Int), hcell h_15 ⟨b_1, 6, none⟩ = some (.int .i64 t111_1) ∧
 ∃ (t113_1 : Int), hcell h_15 ⟨b, 2, none⟩ = some (.int .i64 t113_1) ∧
 if (t111_1 != t113_1) = true then
 J_4 true h_15
 else
 if t50_1 = true then
 ∃ (t121_3 : Int), hcell h_15 ⟨b, 0, none⟩ = some (.int .i64 t121_3) ∧
 if (t121_3 == 0) = true then
 J_4 (e == 0) h_15
 else
 J_4 false h_15
 else
 J_4 false h_15
 else
 if t50_1 = true then
 ∃ (t121_4 : Int), hcell h_15 ⟨b, 0, none⟩ = some (.int .i64 t121_4) ∧
 if (t121_4 == 0) = true then
 J_4 (e == 0) h_15
 else
 J_4 false h_15
 else
 J_4 false h_15
 else
 if t50_1 = true then
 ∃ (t121_5 : Int), hcell h_15 ⟨b, 0, none⟩ = some (.int .i64 t121_5) ∧
 if (t121_5 == 0) = true then
 J_4 (e == 0) h_15
 else
 J_4 false h_15
 else
 J_4 false h_15))
 (fun J_3 =>
 regs_Reg.LD h_14 ⟨b_2, 0, none⟩ fun t91_0 t91_1 t91_2 t91_3 t91_4 t91_5 t91_6 =>
 regs_Reg.LD h_14 ⟨b_1, 0, none⟩ fun t92_0 t92_1 t92_2 t92_3 t92_4 t92_5 t92_6 =>
 ∃ (eq : Bool), EqV Tryz.prog T.regs_Reg (.agg #[.bool t91_0, .int .u64 t91_1, .int .u64 t91_2, .string t91_3, .string t91_4, .int .i64 t91_5, .int .i64 t91_6]) (.agg #[.bool t92_0, .int .u64 t92_1, .int .u64 t92_2, .string t92_3, .string t92_4, .int .i64 t92_5, .int .i64 t92_6]) eq ∧
 if (!eq) = true then
 J_3 true h_14
 else
 J_3 (!(t88_1 == t50_1)) h_14))
 (fun J_2 =>
 JoinP (fun (e_1 : Int) (h_17 : Heap) =>
 J_2 e_1 h_17)
 (fun J_5 =>
 if (t54 == 0) = true then
 eid_Eid.LD h_10 ⟨b, 3, none⟩ fun t59_0 t59_1 t59_2 t59_3 t59_4 =>
 ∃ (t61 : Int), hcell h_10 ⟨b, 1, none⟩ = some (.int .i64 t61) ∧
 ∃ (t63 : Int), hcell h_10 ⟨b, 2, none⟩ = some (.int .i64 t63) ∧
 CallsH Tryz.prog F.regs_Table_Add #[.pointer t20, .agg #[.bool t59_0, .int .u64 t59_1, .int .u64 t59_2, .string t59_3, .string t59_4, .int .i64 t61, .int .i64 t63]] h_10 fun v_4 h_18 =>
 ∃ (t65 : Int), v_4 = .int .i64 t65 ∧
 J_5 t65 h_18
 else
 JoinP (fun (e_2 : Int) (h_19 : Heap) =>
 J_5 e_2 h_19)
 (fun J_6 =>
 if (t54 == 1) = true then
 eid_Eid.LD h_10 ⟨b, 3, none⟩ fun t70_0 t70_1 t70_2 t70_3 t70_4 =>
 ∃ (t72 : Int), hcell h_10 ⟨b, 2, none⟩ = some (.int .i64 t72) ∧
 CallsH Tryz.prog F.regs_Table_Remove #[.pointer t20, .agg #[.bool t70_0, .int .u64 t70_1, .int .u64 t70_2, .string t70_3, .string t70_4], .int .i64 t72] h_10 fun v_5 h_20 =>
 ∃ (t73 : Int), v_5 = .int .i64 t73 ∧
 J_6 t73 h_20
 else
 if (t54 == 2) = true then
 eid_Eid.LD h_10 ⟨b, 3, none⟩ fun t78_0 t78_1 t78_2 t78_3 t78_4 =>
 ∃ (t80 : Int), hcell h_10 ⟨b, 2, none⟩ = some (.int .i64 t80) ∧
 ∃ (t82 : Int), hcell h_10 ⟨b, 1, none⟩ = some (.int .i64 t82) ∧
 CallsH Tryz.prog F.regs_Table_Policy #[.pointer t20, .agg #[.bool t78_0, .int .u64 t78_1, .int .u64 t78_2, .string t78_3, .string t78_4], .int .i64 t80, .int .i64 t82] h_10 fun v_6 h_21 =>
 ∃ (t83 : Int), v_6 = .int .i64 t83 ∧
 J_6 t83 h_21
 else
 J_1 h_10))))
 else
 CallsH Tryz.prog F.regs_Table_Save #[.pointer t20] h_3 fun v_7 h_22 =>
 ∃ (t130_p : Option Addr) (t130_l t130_c : Nat), v_7 = .slice t130_p t130_l t130_c ∧
 CallsH Tryz.prog F.regs_Load #[.slice t130_p t130_l t130_c] h_22 fun v_8 h_23 =>
 ∃ (t133_0 : Option Addr), ∃ (t133_1 : Int), v_8 = .tuple #[.pointer t133_0, .int .i64 t133_1] ∧
 JoinP (fun (t153 : Bool) (h_24 : Heap) =>
 if t153 = true then
 R (.bool false) h_24
 else
 if (decide (((t130_l : Nat) : Int) < 2)) = true then
 CallsH Tryz.prog F.law22_alive #[] h_24 fun v_9 h_25 =>
 ∃ (t157 : Bool), v_9 = .bool t157 ∧
 R (.bool t157) h_25
 else
 ((0 : Int) ≤ 1 ∧ 1 < ((t130_l : Nat) : Int)) ∧
 onSome t130_p fun a_1 =>
 ∃ (t160_p : Option Addr) (t160_l t160_c : Nat), hcell h_24 (a_1.add (Int.toNat 1 * 1)) = some (.slice t160_p t160_l t160_c) ∧
 ((0 : Int) ≤ 0 ∧ 0 < ((t130_l : Nat) : Int)) ∧
 onSome t130_p fun a_2 =>
 ∃ (t163_p : Option Addr) (t163_l t163_c : Nat), hcell h_24 (a_2.add (Int.toNat 0 * 1)) = some (.slice t163_p t163_l t163_c) ∧
 ((0 : Int) ≤ 2 ∧ 2 ≤ ((t130_l : Nat) : Int)) ∧ 
 NewP h_24 (.cells #[.slice t160_p t160_l t160_c, .slice t163_p t163_l t163_c] T.s_uint8) fun b_3 h_26 =>
 denSem Tryz.prog (Builtin.append_ #[T.s_s_uint8, T.s_s_uint8] T.s_s_uint8 #[.slice (some ⟨b_3, 0, none⟩) 2 2, .slice (slBase t130_p t130_c (Int.toNat 2) 1) (t130_l - (Int.toNat 2)) (t130_c - (Int.toNat 2))]) h_26 fun v_10 h_27 =>
 ∃ (t167_p : Option Addr) (t167_l t167_c : Nat), v_10 = .slice t167_p t167_l t167_c ∧
 CallsH Tryz.prog F.regs_Load #[.slice t167_p t167_l t167_c] h_27 fun v_11 h_28 =>
 ∃ (t170_0 : Option Addr), ∃ (t170_1 : Int), v_11 = .tuple #[.pointer t170_0, .int .i64 t170_1] ∧
 ((0 : Int) ≤ 0 ∧ 0 < ((t130_l : Nat) : Int)) ∧
 onSome t130_p fun a_3 =>
 ∃ (t176_p : Option Addr) (t176_l t176_c : Nat), hcell h_28 (a_3.add (Int.toNat 0 * 1)) = some (.slice t176_p t176_l t176_c) ∧
 NewP h_28 (.cells #[.slice t176_p t176_l t176_c] T.s_uint8) fun b_4 h_29 =>
 denSem Tryz.prog (Builtin.append_ #[T.s_s_uint8, T.s_s_uint8] T.s_s_uint8 #[.slice (some ⟨b_4, 0, none⟩) 1 1, .slice t130_p t130_l t130_c]) h_29 fun v_12 h_30 =>
 ∃ (t179_p : Option Addr) (t179_l t179_c : Nat), v_12 = .slice t179_p t179_l t179_c ∧
 CallsH Tryz.prog F.regs_Load #[.slice t179_p t179_l t179_c] h_30 fun v_13 h_31 =>
 ∃ (t180_0 : Option Addr), ∃ (t180_1 : Int), v_13 = .tuple #[.pointer t180_0, .int .i64 t180_1] ∧
 CallsH Tryz.prog F.law22_alive #[] h_31 fun v_14 h_32 =>
 ∃ (t183 : Bool), v_14 = .bool t183 ∧
 if t183 = true then
 if (t170_1 == 3) = true then
 R (.bool (t180_1 == 3)) h_32
 else
 R (.bool false) h_32
 else
 R (.bool false) h_32)
 (fun J_7 =>
 if (t133_1 != 0) = true then
 J_7 true h_23
 else
 if t133_0.isNone = true then
 J_7 true h_23
 else
 CallsH Tryz.prog F.regs_Table_Save #[.pointer t133_0] h_23 fun v_15 h_33 =>
 ∃ (t144_p : Option Addr) (t144_l t144_c : Nat), v_15 = .slice t144_p t144_l t144_c ∧
 CallsH Tryz.prog F.law19_Same #[.slice t144_p t144_l t144_c, .slice t130_p t130_l t130_c] h_33 fun v_16 h_34 =>
 ∃ (t146 : Bool), v_16 = .bool t146 ∧
 if (!t146) = true then
 J_7 true h_34
 else
 J_7 (decide (((t130_l : Nat) : Int) > 8)) h_34))
 (fun J =>
 if (decide (i < ((ops_l : Nat) : Int))) = true then
 J (decide (i < 80)) h_2
 else
 J false h_2)
theorem law22_RegsBack.walk {ops_p : Option Addr} {ops_l ops_c : Nat} {h : Heap} {R : Value → Heap → Prop} (hv : law22_RegsBack.vc ops_p ops_l ops_c h R) : CallsH Tryz.prog F.law22_RegsBack #[.slice ops_p ops_l ops_c] h R :=
 callsH_of_body (.seq .leaf (.seq .leaf (.seq (.seq .leaf (.block (.loop [(4, .one (.int .i64))] (.seq (.seq (.join [(28, .one (.bool))] .leaf) (.cond .leaf .leaf)) (.seq (.join [] (.block (.seq .leaf (.seq (.seq .leaf (.cond (.seq .leaf .leaf) .leaf)) (.seq .leaf (.seq .leaf (.seq (.seq .leaf (.join [(8, .one (.int .i64))] (.block (.seq .leaf (.join [(8, .one (.int .i64))] (.cond .leaf (.seq .leaf (.join [(8, .one (.int .i64))] (.cond .leaf (.seq .leaf (.cond .leaf .leaf))))))))))) (.seq .leaf (.seq (.join [(11, .one (.bool))] .leaf) (.seq (.join [(128, .one (.bool))] .leaf) (.cond (.seq .leaf .leaf) .leaf))))))))))) .leaf))))) (.seq .leaf (.seq .leaf (.seq (.seq (.join [(153, .one (.bool))] .leaf) (.cond (.seq .leaf .leaf) .leaf)) (.seq (.seq .leaf (.cond (.seq .leaf .leaf) .leaf)) (.seq (.plan (.op 0 (.op 1 (.op 2 (.op 3 (.op 4 (.op 5 (.op 7 (.op 8 (.op 6 (.op 9 (.op 10 .done)))))))))))) (.seq .leaf (.seq .leaf (.seq .leaf .leaf))))))))))) Tryz.func4 rfl rfl (Eq.mp (by kernel_rfl) hv)

end Go.Proofs.YtgccegnmggjkjaaGreatDoor

/-
  What is proved here: the law RegsBack on heaps ('regsBack_ok'). No condition.
-/
set_option maxRecDepth 100000
namespace Go.Proofs.YtgccegnmggjkjaaGreatDoor
open Go.Den Go.Fields Go.RowKit
namespace Regs
open Eid Fld
variable {h h' : Heap} {R : Value → Heap → Prop} {b x : Nat} {X Y : Ft} {L L' : List Rg} {p : Option Addr} {c n i : Nat} {r : Rg}
/-! ### plain -/
theorem text_inj {x y : Ev} (hx : rightE x = true) (hy : rightE y = true) (zx : x ≠ .zero) (zy : y ≠ .zero) (sx : 0 ≤ x.svc) (sy : 0 ≤ y.svc) (e : textE x = textE y) : x = y := by
  have rx := hx
  have ry := hy
  unfold rightE at rx ry
  rw [if_neg zx] at rx
  rw [if_neg zy] at ry
  unfold textE at e
  rw [if_neg zx, if_neg zy] at e
  by_cases ix : x.ipn = true
  · rw [if_pos ix] at e rx
    by_cases iy : y.ipn = true
    · rw [if_pos iy] at e ry
      have rx := of_decide_eq_true rx
      have ry := of_decide_eq_true ry
      have dot : ∀ u, (46 : UInt8) ∉ Lib.decDigits u := fun u hm => by
        have := dec_digits _ _ hm
        have e : (46 : UInt8).toNat = 46 := rfl
        omega
      rw [List.append_assoc, List.append_assoc, List.append_assoc, List.append_assoc] at e
      have e1 := List.append_cancel_left e
      have c1 := cut_one 46 (Lib.decDigits x.node.toNat) (Lib.decDigits x.svc.toNat) (dot _)
      have c2 := cut_one 46 (Lib.decDigits y.node.toNat) (Lib.decDigits y.svc.toNat) (dot _)
      have e2 : Lib.decDigits x.node.toNat ++ 46 :: Lib.decDigits x.svc.toNat = Lib.decDigits y.node.toNat ++ 46 :: Lib.decDigits y.svc.toNat := e1
      rw [e2, c2] at c1
      have d1 := congrArg Prod.fst c1
      have d2 := congrArg (fun z => z.2.1) c1
      dsimp only at d1 d2
      have inj : ∀ {u v : Nat}, u ≤ 4294967295 → v ≤ 4294967295 → Lib.decDigits u = Lib.decDigits v → u = v := fun hu hv e => by
        have h1 := parseB_dec hu
        rw [e, parseB_dec hv] at h1
        injection h1 with h2
        exact h2.symm
      have g1 := inj (by omega) (by omega) d1
      have g2 := inj (by omega) (by omega) d2
      exact Ev.ext' (by rw [ix, iy]) (by omega) (by omega) (by rw [rx.1, ry.1]) (by rw [rx.2.1, ry.2.1])
    · rw [if_neg iy] at e
      have := congrArg List.head? e
      simp at this
  · rw [if_neg ix] at e rx
    by_cases iy : y.ipn = true
    · rw [if_pos iy] at e
      have := congrArg List.head? e
      simp at this
    · rw [if_neg iy] at e ry
      simp only [Bool.and_eq_true, decide_eq_true_eq] at rx ry
      rw [List.append_assoc, List.append_assoc, List.append_assoc, List.append_assoc] at e
      have e1 := List.append_cancel_left (List.append_cancel_left e)
      have c1 := cut_one 47 x.host.data.toList x.dem.data.toList (plain_no rx.2.1)
      have c2 := cut_one 47 y.host.data.toList y.dem.data.toList (plain_no ry.2.1)
      have e2 : x.host.data.toList ++ 47 :: x.dem.data.toList = y.host.data.toList ++ 47 :: y.dem.data.toList := e1
      rw [e2, c2] at c1
      have d1 := congrArg Prod.fst c1
      have d2 := congrArg (fun z => z.2.1) c1
      dsimp only at d1 d2
      have ba : ∀ {s t : ByteArray}, s.data.toList = t.data.toList → s = t := fun {s t} e => by rw [str_self s, str_self t, e]
      have bx : x.ipn = false := by simpa using ix
      have bY : y.ipn = false := by simpa using iy
      exact Ev.ext' (by rw [bx, bY]) (by rw [rx.1.1, ry.1.1]) (by rw [rx.1.2.1, ry.1.2.1]) (ba d1.symm) (ba d2.symm)
theorem rec_inj {r s : Rg} (kr : okR r) (ks : okR s) (e : recR r = recR s) : r.e = s.e := by
  have h1 := congrArg Prod.fst (read1 kr)
  rw [e, read1 ks] at h1
  exact text_inj kr.e.1 ks.e.1 kr.ne ks.ne kr.sv ks.sv h1.symm
theorem add_end (k : okR r) (hl : L.length < 8) (hs : ∀ x ∈ L, lessE x.e r.e = true) : addE L r = 0 ∧ insR r L = L ++ [r] := by
  refine ⟨?_, insR_end hs⟩
  unfold addE
  have hf : findR L r.e = none := findR_none.2 fun x hx e => by
    have := hs x hx
    rw [e, less_irrefl] at this; cases this
  rw [k.rt, hf]
  simp
  omega
/-- what is sorted is loaded as it is -/
theorem load_sorted : ∀ (rs : List Rg) (L : List Rg), (L ++ rs).Pairwise rless → (∀ r ∈ rs, okR r) → L.length + rs.length ≤ 8 → loadL L rs = some (L ++ rs)
  | [], L, _, _, _ => by rw [List.append_nil]; rfl
  | r :: rs, L, so, ok, hl => by
    rw [List.length_cons] at hl
    obtain ⟨_, _, hd⟩ := List.pairwise_append.1 so
    obtain ⟨a1, a2⟩ := add_end (ok r (by simp)) (L := L) (by omega) (fun x hx => hd x hx r (by simp))
    unfold loadL
    rw [if_pos a1, a2, load_sorted rs (L ++ [r]) (by rw [List.append_assoc]; exact so) (fun x hx => ok x (List.mem_cons_of_mem _ hx)) (by simp; omega), List.append_assoc]
    rfl
theorem load_swap {r s : Rg} {rs : List Rg} (so : (r :: s :: rs).Pairwise rless) (ok : ∀ x ∈ r :: s :: rs, okR x) (hl : (r :: s :: rs).length ≤ 8) : ∀ L, loadL [] (s :: r :: rs) = some L → L.map recR ≠ (s :: r :: rs).map recR := by
  intro L hL e
  have kr := ok r (by simp)
  have ks := ok s (by simp)
  rw [List.length_cons, List.length_cons] at hl
  have hrs : lessE r.e s.e = true := (List.pairwise_cons.1 so).1 s (by simp)
  have hne : s.e ≠ r.e := fun e => by rw [e, less_irrefl] at hrs; cases hrs
  have a1 : addE [] s = 0 := (add_end ks (L := []) (by simp) (by simp)).1
  have a2 : addE [s] r = 0 := by
    unfold addE
    have hf : findR [s] r.e = none := findR_none.2 fun x hx => by rw [List.mem_singleton] at hx; rw [hx]; exact hne
    rw [kr.rt, hf]; simp
  have a3 : insR r [s] = [r, s] := by
    unfold insR
    have : lessE s.e r.e = false := by
      cases h : lessE s.e r.e
      · rfl
      · have := less_trans hrs h
        rw [less_irrefl] at this; cases this
    rw [this]; rfl
  unfold loadL at hL
  rw [if_pos a1] at hL
  have e0 : insR s [] = [s] := rfl
  rw [e0] at hL
  unfold loadL at hL
  rw [if_pos a2, a3, load_sorted rs [r, s] so (fun x hx => ok x (by simp [hx])) (by simp; omega)] at hL
  obtain rfl := Option.some.inj hL
  have := List.head_eq_of_cons_eq e
  exact hne (rec_inj kr ks this).symm
theorem load_twice {r : Rg} {rs : List Rg} (k : okR r) : loadL [] (r :: r :: rs) = none := by
  have a1 : addE [] r = 0 := (add_end k (L := []) (by simp) (by simp)).1
  unfold loadL
  rw [if_pos a1]
  have e0 : insR r [] = [r] := rfl
  rw [e0]
  unfold loadL
  have a2 : addE [r] r = 11 := by
    unfold addE findR
    rw [k.rt]; simp
  rw [if_neg (by rw [a2]; decide)]
theorem eqvG (x y : Rg) : EqV Tryz.prog T.regs_Reg x.val y.val (eqB x.e y.e && ((x.pol == y.pol) && ((x.own == y.own) && true))) := EqV.of (by unfold eqB; kernel_rfl)
theorem eqG_self (x : Rg) : (eqB x.e x.e && ((x.pol == x.pol) && ((x.own == x.own) && true))) = true := by simp [eqB_iff.2]
/-- 'append([][]byte{..}, l...)' -/
theorem lit_rows {ys zs : List BV} {q : Option Addr} {m d : Nat} {cs : Array Value} {K : Value → Heap → Prop} (hcs : cs.toList = ys.flatMap nenc) (H2 : Row h q (zs.flatMap nenc)) (e1 : ∀ y ∈ ys, Row h y.p (bc y.b)) (e2 : ∀ y ∈ zs, Row h y.p (bc y.b)) (hn : n = ys.length) (hm : m = zs.length) (ho : n + m ≤ 1000)
    (hk : ∀ h' p' l' c', Fld.Rows h' p' l' c' (ys ++ zs) → Fr (fun _ => False) h h' → K (.slice p' l' c') h') :
    NewP h (.cells cs T.s_uint8) fun b h1 => denSem Tryz.prog (Builtin.append_ #[T.s_s_uint8, T.s_s_uint8] T.s_s_uint8 #[.slice (some ⟨b, 0, none⟩) n n, .slice q m d]) h1 K := by
  refine newP_of ?_
  have fl : ∀ xs : List BV, (xs.flatMap nenc).length = xs.length := fun xs => by induction xs with | nil => rfl | cons _ _ ih => simp [ih]
  have f1 : Fr (fun _ => False) h (h.push (.cells cs T.s_uint8)) := Fr.push _ _
  have o : Own (h.push (.cells cs T.s_uint8)) (some ⟨h.size, 0, none⟩) n n 1 (ys.flatMap nenc) := by
    refine .row h.size 0 cs T.s_uint8 rfl push_new (by omega) ?_ ?_ ?_
    · have := fl ys; rw [← hcs, Array.length_toList] at this; omega
    · rw [fl]; omega
    · intro j v hj
      rw [← hcs] at hj
      rw [Nat.zero_add]; simpa using hj
  refine den_append Fld.tN Fld.uN o (H2.frame f1 (fun _ _ => id)) (by rw [fl]; omega) (nenc_one zs) (by omega) (by omega) fun p' c' h' o1 _ f2 g => ?_
  have F := f1.fresh f2 (fun y ⟨a, e, e'⟩ => by cases e; rw [← e']; exact Nat.le_refl _)
  refine hk h' p' (n + m) c' ⟨by rw [List.length_append]; omega, by rw [List.flatMap_append]; exact o1.row', o1.le, fun y hy => ?_⟩ F
  rcases List.mem_append.1 hy with hy | hy
  · exact (e1 y hy).frame F (fun _ _ => id)
  · exact (e2 y hy).frame F (fun _ _ => id)
/-! ### the law -/
theorem _root_.Go.Proofs.YtgccegnmggjkjaaGreatDoor.regsBack_ok (op : Option Addr) (ol oc : Nat) (hv : RokV Tryz.prog h T.s_law22_Op (.slice op ol oc)) (tb : Num.Tab h) (mx : Num.Mx h) : LawH Tryz.prog F.law22_RegsBack #[.slice op ol oc] h := by
  obtain ⟨fs, rfl, hrow, hok⟩ := ops_read hv
  clear hv
  unfold LawH
  generalize hR : (fun (v : Value) h' => v = .bool true ∧ Fr (fun _ => False) h h') = R
  have hk : ∀ h', Fr (fun _ => False) h h' → R (.bool true) h' := fun h' hf => by rw [← hR]; exact ⟨rfl, hf⟩
  clear hR
  refine law22_RegsBack.walk (Regs.new_ok fun h1 b X H1 u1 => ⟨_, rfl, ?_⟩)
  refine ⟨fun i g => ∃ (k : Nat) (L : List Rg), i = (k : Int) ∧ k ≤ 80 ∧ Tb g b X L ∧ UpF h X g ∧ okL L, fun i _ => 80 - i.toNat, ⟨0, [], rfl, by omega, H1, u1, ⟨by simp, fun r hr => by cases hr⟩⟩, ?_⟩
  clear u1 H1
  rintro _ h3 ⟨k, L, rfl, hk80, H, u, kL⟩
  refine JoinP.of fun J hJ => ?_
  by_cases hl : k < fs.length ∧ k < 80
  · have q1 : (k : Int) < ((fs.length : Nat) : Int) := by omega
    have q2 : (k : Int) < 80 := by omega
    simp only [q1, q2, decide_true, if_true]
    subst hJ
    simp only [if_true, Int.toNat_natCast]
    obtain ⟨f, hf⟩ : ∃ f, fs[k]? = some f := ⟨fs[k], List.getElem?_eq_getElem hl.1⟩
    have row3 := hrow.frame u.fr (fun _ _ => id)
    obtain ⟨a, rfl⟩ := row3.some (by intro e; cases fs with | nil => simp at hf | cons => simp at e)
    refine JoinP.of fun J1 hJ1 => ⟨⟨by first | trivial | omega, by first | trivial | omega⟩, onSome_some.2 (law22_Op.ldA (row3.heldAt oenc_len hf) (law22_Op.new fun b1 h9 eb hb f9 => ⟨_, cell_at hb rfl, _, cell_at hb rfl, ?_⟩))⟩
    have cont : ∀ g L', Tb g b X L' → UpF h X g → okL L' → J1 g := by
      intro g L' H' u' k'
      subst hJ1
      dsimp only
      rw [wrap_id (by omega) (by omega)]
      exact ⟨⟨k + 1, L', by omega, by omega, H', u', k'⟩, by show 80 - Int.toNat ((k : Int) + 1) < 80 - k; omega⟩
    clear hJ1
    have nX : ¬ X.M b1 := fun hm => by have := H.lt b1 (.inl hm); omega
    have hsv := hok f (List.mem_of_getElem? hf)
    split
    · exact alive_ok fun h11 f11 => ⟨_, rfl, hk h11 ((u.on f9).fr.tt f11)⟩
    have lop : ∀ {g : Heap} {K : Bool → Int → Int → ByteArray → ByteArray → Prop}, f.at g b1 → K f.e.ipn f.e.node f.e.svc f.e.host f.e.dem → eid_Eid.LD g ⟨b1, 3, none⟩ K := fun hg hk => ⟨_, cell_at hg rfl, _, cell_at hg rfl, _, cell_at hg rfl, _, cell_at hg rfl, _, cell_at hg rfl, hk⟩
    refine lop hb (find_ok (H.on f9) f.e fun h10 f10 => ⟨_, _, _, _, _, _, _, _, rfl, regs_Reg.new fun b2 h12 eb2 hb2 f12 => ?_⟩)
    have F12 := f9.tt (f10.tt f12)
    have hb12 : f.at h12 b1 := (f10.tt f12).get hb id
    have H12 := H.on F12
    have u12 := u.on F12
    have hz9 := f9.1
    have hz10 := f10.1
    have n2X : ¬ X.M b2 := fun hm => by have := H.lt b2 (.inl hm); omega
    clear H u row3 f9 f10 hb
    have l8 := kL.len
    refine ⟨_, cell_at hb12 rfl, JoinP.of fun J2 hJ2 => ?_⟩
    have fin : ∀ g L' e, StepF X h12 X g → Tb g b X L' → okL L' → (e ≠ 0 → L' = L) → ((findR L f.e).isSome = true → L' ≠ L → ((findR L f.e).getD .zero).own = f.own) → ((findR L f.e).isSome = true → f.kind = 0 → e ≠ 0) → J2 e g := by
      intro g L' e st H' k' p1 p2 p3
      have hg1 : f.at g b1 := st.fr.get hb12 nX
      have hg2 := st.fr.get hb2 n2X
      have ug := u12.step st
      subst hJ2
      dsimp only
      refine lop hg1 (find_ok H' f.e fun h13 f13 => ⟨_, _, _, _, _, _, _, _, rfl, regs_Reg.new fun b3 h14 eb3 hb3 f14 => ?_⟩)
      have F14 := f13.tt f14
      have hb14 : f.at h14 b1 := F14.get hg1 id
      have hw14 := F14.get hg2 id
      refine JoinP.of fun J3 hJ3 => ?_
      have go : ∀ ch : Bool, (ch = true → L' ≠ L) → J3 ch h14 := by
        intro ch hch
        subst hJ3
        refine JoinP.of fun J4 hJ4 => ?_
        have ok : J4 false h14 := by
          subst hJ4
          dsimp only
          rw [if_neg (by decide)]
          exact cont h14 L' (H'.on F14) (ug.on F14) k'
        clear hJ4
        cases ch with
        | true =>
          have hne := hch rfl
          have e0 : e = 0 := Classical.byContradiction fun h => hne (p1 h)
          subst e0
          rw [if_neg (by decide)]
          cases hs : (findR L f.e).isSome with
          | false => simp only [Bool.false_eq_true, if_false]; exact ok
          | true =>
            simp only [if_true]
            refine ⟨_, cell_at hw14 rfl, _, cell_at hb14 rfl, ?_⟩
            rw [p2 hs hne, if_neg (by simp)]
            refine ⟨_, cell_at hb14 rfl, ?_⟩
            rw [if_neg (by simp; exact fun h => p3 hs h rfl)]
            exact ok
        | false =>
          have tl : (if (findR L f.e).isSome = true then ∃ (t : Int), hcell h14 ⟨b1, 0, none⟩ = some (.int .i64 t) ∧ if (t == 0) = true then J4 (e == 0) h14 else J4 false h14 else J4 false h14) := by
            split
            · rename_i hs
              refine ⟨_, cell_at hb14 rfl, ?_⟩
              split
              · rename_i h0
                have : (e == 0) = false := by simpa using p3 hs (by simpa using h0)
                rw [this]; exact ok
              · exact ok
            · exact ok
          simp only [Bool.false_eq_true, if_false]
          split
          · split
            · rename_i hs
              rw [hs] at tl
              simpa only [if_true] using tl
            · exact ok
          · split
            · rename_i hs
              rw [hs] at tl
              simpa only [if_true] using tl
            · exact ok
      clear hJ3
      refine regs_Reg.ld hb3 (regs_Reg.ld hw14 ⟨_, eqvG _ _, ?_⟩)
      split
      · rename_i he
        refine go true fun _ hh => ?_
        rw [hh, eqG_self] at he
        cases he
      · refine go _ fun hh e => ?_
        rw [e] at hh
        simp at hh
    clear hJ2
    have same : ∀ {x : Ev} {o : Int}, askE L x o = 0 → ((findR L x).getD .zero).own = o := fun {x o} he => by
      unfold askE at he
      cases hh : findR L x with
      | none => rw [hh] at he; cases he
      | some r =>
        rw [hh] at he
        dsimp only at he
        split at he
        · assumption
        · cases he
    refine JoinP.of fun J3 hJ3 => ?_
    subst hJ3
    split
    · rename_i h0
      have k0 : f.kind = 0 := by simpa using h0
      refine lop hb12 ⟨_, cell_at hb12 rfl, _, cell_at hb12 rfl, add_ok H12 ⟨f.e, f.pol, f.own⟩ l8 fun g H' st => ⟨_, rfl, ?_⟩⟩
      refine fin g _ _ st H' (kL.add _ hsv) (fun h => by unfold addL; rw [if_neg h]) (fun hs hne => ?_) (fun hs _ => ?_)
      · exfalso
        apply hne
        unfold addL
        rcases addE_cases L ⟨f.e, f.pol, f.own⟩ with h | h | h | h
        · rw [h.2]; rfl
        · rw [h.2.2]; rfl
        · rw [h.2.2.2]; rfl
        · rw [h.2.1] at hs; cases hs
      · rcases addE_cases L ⟨f.e, f.pol, f.own⟩ with h | h | h | h
        · rw [h.2]; decide
        · rw [h.2.2]; decide
        · rw [h.2.2.2]; decide
        · rw [h.2.1] at hs; cases hs
    rename_i h0
    refine JoinP.of fun J4 hJ4 => ?_
    subst hJ4
    split
    · refine lop hb12 ⟨_, cell_at hb12 rfl, remove_ok H12 f.e f.own fun g H' st => ⟨_, rfl, ?_⟩⟩
      refine fin g _ _ st H' (kL.rem _ _) (fun h => by unfold remL; rw [if_neg h]) (fun hs hne => same (Classical.byContradiction fun h => hne (by unfold remL; rw [if_neg h]))) (fun _ h => absurd (by simpa using h) h0)
    split
    · refine lop hb12 ⟨_, cell_at hb12 rfl, _, cell_at hb12 rfl, policy_ok H12 f.e f.own f.pol fun g H' st => ⟨_, rfl, ?_⟩⟩
      refine fin g _ _ st H' (kL.pol _ _ _) (fun h => by unfold polL; rw [if_neg h]) (fun hs hne => same ?_) (fun _ h => absurd (by simpa using h) h0)
      have : polE L f.e f.own f.pol = 0 := Classical.byContradiction fun h => hne (by unfold polL; rw [if_neg h])
      unfold polE at this
      split at this
      · exact this
      · cases this
    · exact cont h12 L H12 u12 kL
  · have so : L.Pairwise rless := by obtain ⟨_, Hm⟩ := id H; exact Hm.so
    have l8 := kL.len
    have hJf : J false h3 := by
      subst hJ
      dsimp only
      rw [if_neg (by decide)]
      refine save_ok H (by omega) kL.all (tb.on u.fr) fun h4 p4 l4 c4 B4 f4 => ⟨_, _, _, rfl, ?_⟩
      have F4 := u.fr.tt f4
      obtain ⟨xs, r4, e4⟩ := B4.to_rows
      have sl := load_sorted L [] (by simpa using so) kL.all (by simpa using l8)
      refine load_ok r4 e4 kL.all (by omega) (tb.on F4) (mx.on F4) (fun L5 hL5 _ h5 b5 X5 H5 u5 => ?_) (fun hn => absurd rfl (hn L (by simpa using sl)))
      have e5 : L5 = L := by rw [sl] at hL5; simpa using hL5.symm
      subst e5
      refine ⟨_, _, rfl, JoinP.of fun J5 hJ5 => ?_⟩
      rw [if_neg (by decide), if_neg (by simp)]
      have F5 := F4.tt u5.fr
      refine save_ok H5 (by omega) kL.all (tb.on F5) fun h6 p6 l6 c6 B6 f6 => ⟨_, _, _, rfl, ?_⟩
      obtain ⟨ys, r6, e6⟩ := B6.to_rows
      have ln6 := B6.len
      rw [List.length_map] at ln6
      have r46 := r4.on (u5.fr.tt f6)
      refine Fld.same_ok r6 r46 (by omega) ⟨_, rfl, ?_⟩
      rw [decide_eq_true (e6.trans e4.symm), if_neg (by decide)]
      have ln4 := B4.len
      rw [List.length_map] at ln4
      have F6 := F5.tt f6
      rw [decide_eq_false (by omega)]
      subst hJ5
      dsimp only
      rw [if_neg (by decide)]
      by_cases hlt : l4 < 2
      · rw [if_pos (by rw [decide_eq_true_eq]; omega)]
        exact alive_ok fun h11 f11 => ⟨_, rfl, hk h11 (F6.tt f11)⟩
      · rw [if_neg (by rw [decide_eq_true_eq]; omega)]
        obtain ⟨r0, r1, rs, rfl⟩ : ∃ r0 r1 rs, L5 = r0 :: r1 :: rs := by
          match L5, ln4 with
          | [], e => simp at e; omega
          | [_], e => simp at e; omega
          | a :: b :: c, _ => exact ⟨a, b, c, rfl⟩
        obtain ⟨x0, x1, xs', rfl⟩ : ∃ x0 x1 xs', xs = x0 :: x1 :: xs' := by
          have := r4.len
          match xs, this with
          | [], e => simp at e; omega
          | [_], e => simp at e; omega
          | a :: b :: c, _ => exact ⟨a, b, c, rfl⟩
        simp only [List.map_cons, List.cons.injEq] at e4
        obtain ⟨v0, v1, vr⟩ := e4
        obtain ⟨a, rfl⟩ := r46.row.some (by simp)
        have c0 := (r46.row.heldAt nenc_len (i := 0) rfl).1
        have c1 := (r46.row.heldAt nenc_len (i := 1) rfl).1
        rw [add_zero_addr] at c0 c1
        have xl := r4.len
        simp only [List.length_cons] at xl ln4 l8
        have cp := r4.cap
        have sub : Row h6 (slBase (some a) c4 (Int.toNat 2) 1) (xs'.flatMap nenc) := by
          have h1 := r46.row.sub (cap := c4) (l := 2) (u := l4) (sz := 1) (by omega) (by omega)
          have e1 : ((x0 :: x1 :: xs').flatMap nenc).take (l4 * 1) = (x0 :: x1 :: xs').flatMap nenc := List.take_of_length_le (by
            have fl : ∀ xs : List BV, (xs.flatMap nenc).length = xs.length := fun xs => by induction xs with | nil => rfl | cons _ _ ih => simp [ih]
            rw [fl]; simp; omega)
          rw [e1] at h1
          exact h1
        refine ⟨⟨by first | trivial | omega, by first | trivial | omega⟩, onSome_some.2 ⟨_, _, _, c1, ⟨by first | trivial | omega, by first | trivial | omega⟩, onSome_some.2 ⟨_, _, _, c0, ⟨by first | trivial | omega, by first | trivial | omega⟩, ?_⟩⟩⟩
        refine lit_rows (ys := [x1, x0]) (zs := xs') rfl sub (fun y hy => r46.each y (by simp at hy ⊢; rcases hy with h | h <;> simp [h])) (fun y hy => r46.each y (by simp [hy])) rfl (by show l4 - 2 = _; omega) (by show 2 + (l4 - 2) ≤ 1000; omega) fun h7 p7 l7 c7 R7 f7 => ⟨_, _, _, rfl, ?_⟩
        have F7 := F6.tt f7
        have okS : ∀ r ∈ r1 :: r0 :: rs, okR r := fun r hr => kL.all r (by simp at hr ⊢; rcases hr with h | h | h <;> simp [h])
        refine load_ok (rs := r1 :: r0 :: rs) R7 (by simp [v0, v1, vr]) okS (by simp; omega) (tb.on F7) (mx.on F7) (fun L' hL' e => absurd e (load_swap so kL.all (by simp; omega) L' hL')) fun _ h8 f8 => ⟨_, _, rfl, ?_⟩
        have r8 := r46.on (f7.tt f8)
        have c8 := (r8.row.heldAt nenc_len (i := 0) rfl).1
        rw [add_zero_addr] at c8
        refine ⟨⟨by first | trivial | omega, by first | trivial | omega⟩, onSome_some.2 ⟨_, _, _, c8, ?_⟩⟩
        refine lit_rows (ys := [x0]) (zs := x0 :: x1 :: xs') rfl r8.row (fun y hy => r8.each y (by simp at hy; simp [hy])) r8.each rfl r8.len (by omega) fun h9 p9 l9 c9 R9 f9 => ⟨_, _, _, rfl, ?_⟩
        have F9 := F7.tt (f8.tt f9)
        have k0 := kL.all r0 (by simp)
        refine load_ok (rs := r0 :: r0 :: r1 :: rs) R9 (by simp [v0, v1, vr]) (fun r hr => kL.all r (by simp at hr ⊢; rcases hr with h | h | h <;> simp [h])) (by simp; omega) (tb.on F9) (mx.on F9) (fun L' hL' => by rw [load_twice k0] at hL'; cases hL') fun _ h10 f10 => ⟨_, _, rfl, ?_⟩
        refine alive_ok fun h11 f11 => ⟨_, rfl, ?_⟩
        rw [if_pos rfl, if_pos (by decide)]
        exact hk h11 (F9.tt (f10.tt f11))
    by_cases q1 : k < fs.length
    · have q2 : ¬ k < 80 := fun e => hl ⟨q1, e⟩
      have q1 : (k : Int) < ((fs.length : Nat) : Int) := by omega
      have q2 : ¬ (k : Int) < 80 := by omega
      simp only [q1, q2, decide_true, decide_false, if_true]
      exact hJf
    · have q1 : ¬ (k : Int) < ((fs.length : Nat) : Int) := by omega
      simp only [q1, decide_false, Bool.false_eq_true, if_false]
      exact hJf
end Regs
end Go.Proofs.YtgccegnmggjkjaaGreatDoor

/-
  What is proved here: a row with listed variables, its world's shape kept: what the contract is handed. That a variable of bytealg holds a number. No condition.
-/
set_option maxRecDepth 100000
namespace Go.Proofs.YtgccegnmggjkjaaGreatDoor
open Go.Den
theorem handed_shaped {H : Type} {enc : TypeId × Value → H} {C : Checked} {os : Os} {f : FuncId} {fn : Func} {s : ChangeSpec} {conds : List PathCond} {apart fresh handsOn again : Bool} {a : Assume} {X : World → Array Value → Prop}
    (hX : ∀ (w w' : World) (args : Array Value), w.heap = w'.heap → X w args → X w' args) (own : ownKnob C.prog.godebug = none) (started : os.Started) (noInit : C.prog.inits.idxOf? f = none) (hfn : C.prog.funcs[f]? = some fn)
    (witness : ∃ (w : World) (tape : Tape) (i : Input), w.os = os ∧ (w.forCall tape i).Shaped C.prog ∧ i.vars = [] ∧ Input.okWide C.prog (w.forCall tape i) .any w.heap.size f i ∧
      ((s.pre enc C.prog fn conds apart (w.forCall tape i).memory i.args ∧ X (w.forCall tape i).memory i.args) ∧ sizedMet enc C.prog fn (OpenSpec.ofChange s) apart (w.forCall tape i).memory i.args) ∧ a.holds C.prog (lone (Frame.enter C.prog f i.args .normal) [] (w.forCall tape i)))
    (con : ∀ (W : World) (base : Nat) (args : Array Value) (ds gs : List (DataW H)) (before : List MemPlace), W.ShapedOpen C.prog → (∀ (j : Nat) t v, fn.params[j]? = some t → args[j]? = some v → Value.okWide C.prog W .any base t v) →
      DataW.Whole enc C.prog fn.params.toList s.vars apart W args.toList ds gs before → X W args → Calls C.prog f args W fun e W' => ∃ v, e = .returned v ∧ s.post enc C.prog fn apart fresh handsOn again W args v W') :
    ReturnsInHanded a C os f .any (fun w args => (s.pre enc C.prog fn conds apart w args ∧ X w args) ∧ sizedMet enc C.prog fn (OpenSpec.ofChange s) apart w args) (s.post enc C.prog fn apart fresh handsOn again) :=
  returnsInHanded_of_calls own started noInit witness fun w tape i _ sh _ ok pre _ => by
    obtain ⟨_, _, _, g, hg, _, _, _, _, val⟩ := ok
    cases Option.some.inj (hg.symm.trans hfn)
    obtain ⟨⟨⟨ds, gs, before, hw, _⟩, hx⟩, _⟩ := pre
    refine (con (w.forCall tape i) w.heap.size i.args ds gs before sh val (DataW.Whole.of_heap (w' := w.forCall tape i) (by rfl) hw) (hX _ _ _ (by rfl) hx)).mono fun e W' hp => ?_
    obtain ⟨v, rfl, hp⟩ := hp
    exact ChangeSpec.post_blind hp
theorem Num.Mx.of_shaped {W : World} (h : W.ShapedOpen Tryz.prog) : Num.Mx W.heap := by
  obtain ⟨m, hm⟩ := cell_of_shapedOpen_int (g := 1) (t := T.int) (zero := #[.int .i64 0]) (k := .i64) h (of_decide_eq_true (by kernel_rfl)) (by kernel_rfl) rfl (by kernel_rfl) (by kernel_rfl) (by kernel_rfl)
  rw [cell_eq] at hm
  exact ⟨m, hm⟩
end Go.Proofs.YtgccegnmggjkjaaGreatDoor

/-
  What is proved here: from a row's listed variables to the table of the powers of ten in the heap. No condition.
-/
set_option maxRecDepth 100000
namespace Go.Proofs.YtgccegnmggjkjaaGreatDoor
open Go.Den
namespace Num
theorem Tab.of_laid {W : World} {l : List (String × DataW Unit)} {s : String} (hs : Tryz.prog.globalNamed s = some 0) (h : laidMet Tryz.prog l W) (hm : (s, Lib.tabData .u64 Lib.pow10Tab) ∈ l) : Tab W.heap := by
  obtain ⟨g, t, cs, fuel, p, hg, ht, hv, hd⟩ := Lib.laidMet.reads h hm
  have hg : Tryz.prog.globalNamed s = some g := hg
  unfold World.var? at hv
  rw [hg] at hv
  have hv' : (match W.heap[g]? with | some (.cells cs _ _) => some cs | _ => none) = some cs := hv
  cases hh : W.heap[g]? with
  | none => rw [hh] at hv'; cases hv'
  | some o =>
    rw [hh] at hv'
    cases o with
    | cells c ty fz =>
      obtain rfl : c = cs := Option.some.inj hv'
      have eg : g = 0 := Option.some.inj (hg.symm.trans hs)
      subst eg
      refine ⟨ty, fz, ?_⟩
      have htt : t = T.a20_uint64 := by
        have e : (Tryz.prog.globals[(0 : Nat)]?).map (·.type) = some T.a20_uint64 := by kernel_rfl
        exact Option.some.inj (ht.symm.trans e)
      subst htt
      have := Lib.cells_of_tab (n := 20) (e := T.uint64) (by kernel_rfl) (by kernel_rfl) (by kernel_rfl) (by kernel_rfl) hd
      rw [hh, ← this]
    | _ => cases hv'
end Num
end Go.Proofs.YtgccegnmggjkjaaGreatDoor
