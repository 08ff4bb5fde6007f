/-
  Printed by a program of this work (vc.py): the verification conditions of functions, and that each is enough for the call. No condition.
-/
import Derived.Test.YtgccegnmggjkjaaDoorNames
set_option maxRecDepth 100000
set_option maxHeartbeats 4000000
namespace Go.Proofs.YtgccegnmggjkjaaDoor
open Go.Den
def regs_New.vc  (h : Heap) (R : Value → Heap → Prop) : Prop :=
  NewP h (.map #[] 0) fun b h_1 =>
  NewP h_1 (.cells #[.map (some b)] T.regs_Table) fun b_1 h_2 =>
  R (.pointer (some ⟨b_1, 0, none⟩)) h_2
theorem regs_New.den_eq  (h : Heap) (R : Value → Heap → Prop) : regs_New.vc h R = den Tryd.prog Tryd.f4.ntmps (.seq .leaf (.seq .leaf .leaf)) none (bodyOf Tryd.f4) (retK Tryd.prog Tryd.f4.results R) (argEnv []) h := by kernel_rfl
theorem regs_New.walk  {h : Heap} {R : Value → Heap → Prop} (hv : regs_New.vc h R) : CallsH Tryd.prog F.regs_New #[] h R :=
  callsH_of_body _ Tryd.func4 rfl rfl (Eq.mp (regs_New.den_eq h R) hv)

def regs_Table_made.vc (t : Nat) (h : Heap) (R : Value → Heap → Prop) : Prop :=
  ∃ (t9 : Option Nat), hcell h ⟨t, 0, none⟩ = some (.map t9) ∧
  R (.bool (!t9.isNone)) h
theorem regs_Table_made.den_eq (t : Nat) (h : Heap) (R : Value → Heap → Prop) : regs_Table_made.vc t h R = den Tryd.prog Tryd.f22.ntmps (.seq .leaf (.seq .leaf .leaf)) none (bodyOf Tryd.f22) (retK Tryd.prog Tryd.f22.results R) (argEnv [.pointer (some ⟨t, 0, none⟩)]) h := by kernel_rfl
theorem regs_Table_made.walk {t : Nat} {h : Heap} {R : Value → Heap → Prop} (hv : regs_Table_made.vc t h R) : CallsH Tryd.prog F.regs_Table_made #[.pointer (some ⟨t, 0, none⟩)] h R :=
  callsH_of_body _ Tryd.func22 rfl rfl (Eq.mp (regs_Table_made.den_eq t h R) hv)

def regs_Table_made.nil.vc  (h : Heap) (R : Value → Heap → Prop) : Prop :=
  R (.bool false) h
theorem regs_Table_made.nil.den_eq  (h : Heap) (R : Value → Heap → Prop) : regs_Table_made.nil.vc h R = den Tryd.prog Tryd.f22.ntmps (.seq .leaf (.seq .leaf .leaf)) none (bodyOf Tryd.f22) (retK Tryd.prog Tryd.f22.results R) (argEnv [.pointer none]) h := by kernel_rfl
theorem regs_Table_made.nil.walk  {h : Heap} {R : Value → Heap → Prop} (hv : regs_Table_made.nil.vc h R) : CallsH Tryd.prog F.regs_Table_made #[.pointer none] h R :=
  callsH_of_body _ Tryd.func22 rfl rfl (Eq.mp (regs_Table_made.nil.den_eq h R) hv)

def regs_isPolicy.vc (n : Int) (h : Heap) (R : Value → Heap → Prop) : Prop :=
  if (decide (n ≥ 0)) = true then
    R (.bool (decide (n ≤ 2))) h
  else
    R (.bool false) h
theorem regs_isPolicy.den_eq (n : Int) (h : Heap) (R : Value → Heap → Prop) : regs_isPolicy.vc n h R = den Tryd.prog Tryd.f28.ntmps (.seq .leaf (.seq .leaf .leaf)) none (bodyOf Tryd.f28) (retK Tryd.prog Tryd.f28.results R) (argEnv [.int .i64 n]) h := by kernel_rfl
theorem regs_isPolicy.walk {n : Int} {h : Heap} {R : Value → Heap → Prop} (hv : regs_isPolicy.vc n h R) : CallsH Tryd.prog F.regs_isPolicy #[.int .i64 n] h R :=
  callsH_of_body _ Tryd.func28 rfl rfl (Eq.mp (regs_isPolicy.den_eq n h R) hv)

def regs_right.vc (r_0 : Bool) (r_1 : Int) (r_2 : Int) (r_3 : ByteArray) (r_4 : ByteArray) (r_5 : Int) (r_6 : Int) (h : Heap) (R : Value → Heap → Prop) : Prop :=
  NewP h (.cells #[.bool r_0, .int .u64 r_1, .int .u64 r_2, .string r_3, .string r_4, .int .i64 r_5, .int .i64 r_6] T.regs_Reg) fun b h_1 =>
  eid_Eid.LD h_1 ⟨b, 0, none⟩ fun t4_0 t4_1 t4_2 t4_3 t4_4 =>
  CallsH Tryd.prog F.eid_Right #[.agg #[.bool t4_0, .int .u64 t4_1, .int .u64 t4_2, .string t4_3, .string t4_4]] h_1 fun v h_2 =>
  ∃ (t5 : Bool), v = .bool t5 ∧
  if t5 = true then
    eid_Eid.LD h_2 ⟨b, 0, none⟩ fun t8_0 t8_1 t8_2 t8_3 t8_4 =>
    ∃ (eq : Bool), EqV Tryd.prog T.eid_Eid (.agg #[.bool t8_0, .int .u64 t8_1, .int .u64 t8_2, .string t8_3, .string t8_4]) (.agg #[.bool false, .int .u64 0, .int .u64 0, .string (⟨#[]⟩ : ByteArray), .string (⟨#[]⟩ : ByteArray)]) eq ∧
    if (!eq) = true then
      ∃ (t14 : Int), hcell h_2 ⟨b, 5, none⟩ = some (.int .i64 t14) ∧
      CallsH Tryd.prog F.regs_isPolicy #[.int .i64 t14] h_2 fun v_1 h_3 =>
      ∃ (t15 : Bool), v_1 = .bool t15 ∧
      if t15 = true then
        ∃ (t19 : Int), hcell h_3 ⟨b, 6, none⟩ = some (.int .i64 t19) ∧
        if (decide (t19 ≥ 1)) = true then
          ∃ (t24 : Int), hcell h_3 ⟨b, 6, none⟩ = some (.int .i64 t24) ∧
          R (.bool (decide (t24 ≤ 1099511627776))) h_3
        else
          R (.bool false) h_3
      else
        R (.bool false) h_3
    else
      R (.bool false) h_2
  else
    R (.bool false) h_2
theorem regs_right.den_eq (r_0 : Bool) (r_1 : Int) (r_2 : Int) (r_3 : ByteArray) (r_4 : ByteArray) (r_5 : Int) (r_6 : Int) (h : Heap) (R : Value → Heap → Prop) : regs_right.vc r_0 r_1 r_2 r_3 r_4 r_5 r_6 h R = den Tryd.prog Tryd.f23.ntmps (.seq .leaf (.seq .leaf .leaf)) none (bodyOf Tryd.f23) (retK Tryd.prog Tryd.f23.results R) (argEnv [.agg #[.bool r_0, .int .u64 r_1, .int .u64 r_2, .string r_3, .string r_4, .int .i64 r_5, .int .i64 r_6]]) h := by kernel_rfl
theorem regs_right.walk {r_0 : Bool} {r_1 : Int} {r_2 : Int} {r_3 : ByteArray} {r_4 : ByteArray} {r_5 : Int} {r_6 : Int} {h : Heap} {R : Value → Heap → Prop} (hv : regs_right.vc r_0 r_1 r_2 r_3 r_4 r_5 r_6 h R) : CallsH Tryd.prog F.regs_right #[.agg #[.bool r_0, .int .u64 r_1, .int .u64 r_2, .string r_3, .string r_4, .int .i64 r_5, .int .i64 r_6]] h R :=
  callsH_of_body _ Tryd.func23 rfl rfl (Eq.mp (regs_right.den_eq r_0 r_1 r_2 r_3 r_4 r_5 r_6 h R) hv)

def regs_Table_Add.vc (t : Nat) (r_0 : Bool) (r_1 : Int) (r_2 : Int) (r_3 : ByteArray) (r_4 : ByteArray) (r_5 : Int) (r_6 : Int) (h : Heap) (R : Value → Heap → Prop) : Prop :=
  NewP h (.cells #[.bool r_0, .int .u64 r_1, .int .u64 r_2, .string r_3, .string r_4, .int .i64 r_5, .int .i64 r_6] T.regs_Reg) fun b h_1 =>
  CallsH Tryd.prog F.regs_Table_made #[.pointer (some ⟨t, 0, none⟩)] h_1 fun v h_2 =>
  ∃ (t8 : Bool), v = .bool t8 ∧
  if (!t8) = true then
    R (.int .i64 6) h_2
  else
    ∃ (t14 : Option Nat), hcell h_2 ⟨t, 0, none⟩ = some (.map t14) ∧
    eid_Eid.LD h_2 ⟨b, 0, none⟩ fun t16_0 t16_1 t16_2 t16_3 t16_4 =>
    ∃ (t17_0_0 : Bool), ∃ (t17_0_1 : Int), ∃ (t17_0_2 : Int), ∃ (t17_0_3 : ByteArray), ∃ (t17_0_4 : ByteArray), ∃ (t17_0_5 : Int), ∃ (t17_0_6 : Int), ∃ (t17_1 : Bool), LookV Tryd.prog T.m_eid_Eid_regs_Reg (.map t14) (.agg #[.bool t16_0, .int .u64 t16_1, .int .u64 t16_2, .string t16_3, .string t16_4]) true h_2 (.tuple #[.agg #[.bool t17_0_0, .int .u64 t17_0_1, .int .u64 t17_0_2, .string t17_0_3, .string t17_0_4, .int .i64 t17_0_5, .int .i64 t17_0_6], .bool t17_1]) ∧
    NewP h_2 (.cells #[.bool false, .int .u64 0, .int .u64 0, .string (⟨#[]⟩ : ByteArray), .string (⟨#[]⟩ : ByteArray), .int .i64 0, .int .i64 0] T.regs_Reg) fun b_1 h_3 =>
    mapSame (.map t14) h_2 h_3 ∧
    heldL ⟨b, 0, none⟩ [.bool t16_0, .int .u64 t16_1, .int .u64 t16_2, .string t16_3, .string t16_4] 0 h_3 ∧
    hcell h_3 ⟨t, 0, none⟩ = some (.map t14) ∧
    regs_Reg.ST h_3 ⟨b_1, 0, none⟩ t17_0_0 t17_0_1 t17_0_2 t17_0_3 t17_0_4 t17_0_5 t17_0_6 fun h_4 =>
    regs_Reg.LD h_4 ⟨b, 0, none⟩ fun t21_0 t21_1 t21_2 t21_3 t21_4 t21_5 t21_6 =>
    CallsH Tryd.prog F.regs_right #[.agg #[.bool t21_0, .int .u64 t21_1, .int .u64 t21_2, .string t21_3, .string t21_4, .int .i64 t21_5, .int .i64 t21_6]] h_4 fun v_1 h_5 =>
    ∃ (t22 : Bool), v_1 = .bool t22 ∧
    if (!t22) = true then
      R (.int .i64 1) h_5
    else
      if t17_1 = true then
        R (.int .i64 11) h_5
      else
        ∃ (t30 : Option Nat), hcell h_5 ⟨t, 0, none⟩ = some (.map t30) ∧
        ∃ t31 : Int, LenV Tryd.prog #[T.m_eid_Eid_regs_Reg] T.int (.map t30) h_5 (.int .i64 t31) ∧
        if (decide (t31 ≥ 8)) = true then
          R (.int .i64 15) h_5
        else
          ∃ (t36 : Option Nat), hcell h_5 ⟨t, 0, none⟩ = some (.map t36) ∧
          eid_Eid.LD h_5 ⟨b, 0, none⟩ fun t38_0 t38_1 t38_2 t38_3 t38_4 =>
          regs_Reg.LD h_5 ⟨b, 0, none⟩ fun t39_0 t39_1 t39_2 t39_3 t39_4 t39_5 t39_6 =>
          denSem Tryd.prog (Instr.mapUpdate T.m_eid_Eid_regs_Reg (.map t36) (.agg #[.bool t38_0, .int .u64 t38_1, .int .u64 t38_2, .string t38_3, .string t38_4]) (.agg #[.bool t39_0, .int .u64 t39_1, .int .u64 t39_2, .string t39_3, .string t39_4, .int .i64 t39_5, .int .i64 t39_6])) h_5 fun _ h_6 =>
          R (.int .i64 0) h_6
theorem regs_Table_Add.den_eq (t : Nat) (r_0 : Bool) (r_1 : Int) (r_2 : Int) (r_3 : ByteArray) (r_4 : ByteArray) (r_5 : Int) (r_6 : Int) (h : Heap) (R : Value → Heap → Prop) : regs_Table_Add.vc t r_0 r_1 r_2 r_3 r_4 r_5 r_6 h R = den Tryd.prog Tryd.f7.ntmps (.seq .leaf (.seq (.seq .leaf (.cond (.seq .leaf .leaf) .leaf)) (.seq (.plan (.op 0 (.op 1 (.op 2 (.op 3 (.op 4 (.op 5 (.op 6 (.op 7 (.op 8 (.op 9 (.op 10 (.op 11 (.op 12 .done)))))))))))))) (.seq (.block (.seq .leaf (.cond (.seq .leaf .leaf) (.seq .leaf (.cond (.seq .leaf .leaf) (.seq .leaf (.cond (.seq .leaf .leaf) .leaf))))))) (.seq (.plan (.op 0 (.op 1 (.op 2 (.op 3 (.op 4 (.op 5 (.op 6 (.op 7 .done))))))))) (.seq .leaf .leaf)))))) none (bodyOf Tryd.f7) (retK Tryd.prog Tryd.f7.results R) (argEnv [.pointer (some ⟨t, 0, none⟩), .agg #[.bool r_0, .int .u64 r_1, .int .u64 r_2, .string r_3, .string r_4, .int .i64 r_5, .int .i64 r_6]]) h := by kernel_rfl
theorem regs_Table_Add.walk {t : Nat} {r_0 : Bool} {r_1 : Int} {r_2 : Int} {r_3 : ByteArray} {r_4 : ByteArray} {r_5 : Int} {r_6 : Int} {h : Heap} {R : Value → Heap → Prop} (hv : regs_Table_Add.vc t r_0 r_1 r_2 r_3 r_4 r_5 r_6 h R) : CallsH Tryd.prog F.regs_Table_Add #[.pointer (some ⟨t, 0, none⟩), .agg #[.bool r_0, .int .u64 r_1, .int .u64 r_2, .string r_3, .string r_4, .int .i64 r_5, .int .i64 r_6]] h R :=
  callsH_of_body _ Tryd.func7 rfl rfl (Eq.mp (regs_Table_Add.den_eq t r_0 r_1 r_2 r_3 r_4 r_5 r_6 h R) hv)

def regs_Table_Add.nil.vc (r_0 : Bool) (r_1 : Int) (r_2 : Int) (r_3 : ByteArray) (r_4 : ByteArray) (r_5 : Int) (r_6 : Int) (h : Heap) (R : Value → Heap → Prop) : Prop :=
  NewP h (.cells #[.bool r_0, .int .u64 r_1, .int .u64 r_2, .string r_3, .string r_4, .int .i64 r_5, .int .i64 r_6] T.regs_Reg) fun b h_1 =>
  CallsH Tryd.prog F.regs_Table_made #[.pointer none] h_1 fun v h_2 =>
  ∃ (t8 : Bool), v = .bool t8 ∧
  if (!t8) = true then
    R (.int .i64 6) h_2
  else
    False
theorem regs_Table_Add.nil.den_eq (r_0 : Bool) (r_1 : Int) (r_2 : Int) (r_3 : ByteArray) (r_4 : ByteArray) (r_5 : Int) (r_6 : Int) (h : Heap) (R : Value → Heap → Prop) : regs_Table_Add.nil.vc r_0 r_1 r_2 r_3 r_4 r_5 r_6 h R = den Tryd.prog Tryd.f7.ntmps (.seq .leaf (.seq (.seq .leaf (.cond (.seq .leaf .leaf) .leaf)) (.seq (.plan (.op 0 (.op 1 (.op 2 (.op 3 (.op 4 (.op 5 (.op 6 (.op 7 (.op 8 (.op 9 (.op 10 (.op 11 (.op 12 .done)))))))))))))) (.seq (.block (.seq .leaf (.cond (.seq .leaf .leaf) (.seq .leaf (.cond (.seq .leaf .leaf) (.seq .leaf (.cond (.seq .leaf .leaf) .leaf))))))) (.seq (.plan (.op 0 (.op 1 (.op 2 (.op 3 (.op 4 (.op 5 (.op 6 (.op 7 .done))))))))) (.seq .leaf .leaf)))))) none (bodyOf Tryd.f7) (retK Tryd.prog Tryd.f7.results R) (argEnv [.pointer none, .agg #[.bool r_0, .int .u64 r_1, .int .u64 r_2, .string r_3, .string r_4, .int .i64 r_5, .int .i64 r_6]]) h := by kernel_rfl
theorem regs_Table_Add.nil.walk {r_0 : Bool} {r_1 : Int} {r_2 : Int} {r_3 : ByteArray} {r_4 : ByteArray} {r_5 : Int} {r_6 : Int} {h : Heap} {R : Value → Heap → Prop} (hv : regs_Table_Add.nil.vc r_0 r_1 r_2 r_3 r_4 r_5 r_6 h R) : CallsH Tryd.prog F.regs_Table_Add #[.pointer none, .agg #[.bool r_0, .int .u64 r_1, .int .u64 r_2, .string r_3, .string r_4, .int .i64 r_5, .int .i64 r_6]] h R :=
  callsH_of_body _ Tryd.func7 rfl rfl (Eq.mp (regs_Table_Add.nil.den_eq r_0 r_1 r_2 r_3 r_4 r_5 r_6 h R) hv)

def regs_Table_ask.vc (t : Nat) (endpoint_0 : Bool) (endpoint_1 : Int) (endpoint_2 : Int) (endpoint_3 : ByteArray) (endpoint_4 : ByteArray) (owner : Int) (h : Heap) (R : Value → Heap → Prop) : Prop :=
  NewP h (.cells #[.bool endpoint_0, .int .u64 endpoint_1, .int .u64 endpoint_2, .string endpoint_3, .string endpoint_4] T.eid_Eid) fun b h_1 =>
  NewP h_1 (.cells #[.bool false, .int .u64 0, .int .u64 0, .string (⟨#[]⟩ : ByteArray), .string (⟨#[]⟩ : ByteArray), .int .i64 0, .int .i64 0] T.regs_Reg) fun b_1 h_2 =>
  CallsH Tryd.prog F.regs_Table_made #[.pointer (some ⟨t, 0, none⟩)] h_2 fun v h_3 =>
  ∃ (t11 : Bool), v = .bool t11 ∧
  if (!t11) = true then
    regs_Reg.ST h_3 ⟨b_1, 0, none⟩ false 0 0 (⟨#[]⟩ : ByteArray) (⟨#[]⟩ : ByteArray) 0 0 fun h_4 =>
    regs_Reg.LD h_4 ⟨b_1, 0, none⟩ fun r_0 r_1 r_2 r_3 r_4 r_5 r_6 =>
    R (.tuple #[.agg #[.bool r_0, .int .u64 r_1, .int .u64 r_2, .string r_3, .string r_4, .int .i64 r_5, .int .i64 r_6], .int .i64 6]) h_4
  else
    ∃ (t18 : Option Nat), hcell h_3 ⟨t, 0, none⟩ = some (.map t18) ∧
    eid_Eid.LD h_3 ⟨b, 0, none⟩ fun t19_0 t19_1 t19_2 t19_3 t19_4 =>
    ∃ (t20_0_0 : Bool), ∃ (t20_0_1 : Int), ∃ (t20_0_2 : Int), ∃ (t20_0_3 : ByteArray), ∃ (t20_0_4 : ByteArray), ∃ (t20_0_5 : Int), ∃ (t20_0_6 : Int), ∃ (t20_1 : Bool), LookV Tryd.prog T.m_eid_Eid_regs_Reg (.map t18) (.agg #[.bool t19_0, .int .u64 t19_1, .int .u64 t19_2, .string t19_3, .string t19_4]) true h_3 (.tuple #[.agg #[.bool t20_0_0, .int .u64 t20_0_1, .int .u64 t20_0_2, .string t20_0_3, .string t20_0_4, .int .i64 t20_0_5, .int .i64 t20_0_6], .bool t20_1]) ∧
    NewP h_3 (.cells #[.bool false, .int .u64 0, .int .u64 0, .string (⟨#[]⟩ : ByteArray), .string (⟨#[]⟩ : ByteArray), .int .i64 0, .int .i64 0] T.regs_Reg) fun b_2 h_5 =>
    mapSame (.map t18) h_3 h_5 ∧
    heldL ⟨b, 0, none⟩ [.bool t19_0, .int .u64 t19_1, .int .u64 t19_2, .string t19_3, .string t19_4] 0 h_5 ∧
    hcell h_5 ⟨t, 0, none⟩ = some (.map t18) ∧
    regs_Reg.ST h_5 ⟨b_2, 0, none⟩ t20_0_0 t20_0_1 t20_0_2 t20_0_3 t20_0_4 t20_0_5 t20_0_6 fun h_6 =>
    if (!t20_1) = true then
      regs_Reg.ST h_6 ⟨b_1, 0, none⟩ false 0 0 (⟨#[]⟩ : ByteArray) (⟨#[]⟩ : ByteArray) 0 0 fun h_7 =>
      regs_Reg.LD h_7 ⟨b_1, 0, none⟩ fun r_0_1 r_1_1 r_2_1 r_3_1 r_4_1 r_5_1 r_6_1 =>
      R (.tuple #[.agg #[.bool r_0_1, .int .u64 r_1_1, .int .u64 r_2_1, .string r_3_1, .string r_4_1, .int .i64 r_5_1, .int .i64 r_6_1], .int .i64 4]) h_7
    else
      ∃ (t29 : Int), hcell h_6 ⟨b_2, 6, none⟩ = some (.int .i64 t29) ∧
      if (t29 != owner) = true then
        regs_Reg.ST h_6 ⟨b_1, 0, none⟩ false 0 0 (⟨#[]⟩ : ByteArray) (⟨#[]⟩ : ByteArray) 0 0 fun h_8 =>
        regs_Reg.LD h_8 ⟨b_1, 0, none⟩ fun r_0_2 r_1_2 r_2_2 r_3_2 r_4_2 r_5_2 r_6_2 =>
        R (.tuple #[.agg #[.bool r_0_2, .int .u64 r_1_2, .int .u64 r_2_2, .string r_3_2, .string r_4_2, .int .i64 r_5_2, .int .i64 r_6_2], .int .i64 13]) h_8
      else
        regs_Reg.LD h_6 ⟨b_2, 0, none⟩ fun t33_0 t33_1 t33_2 t33_3 t33_4 t33_5 t33_6 =>
        regs_Reg.ST h_6 ⟨b_1, 0, none⟩ t33_0 t33_1 t33_2 t33_3 t33_4 t33_5 t33_6 fun h_9 =>
        regs_Reg.LD h_9 ⟨b_1, 0, none⟩ fun r_0_3 r_1_3 r_2_3 r_3_3 r_4_3 r_5_3 r_6_3 =>
        R (.tuple #[.agg #[.bool r_0_3, .int .u64 r_1_3, .int .u64 r_2_3, .string r_3_3, .string r_4_3, .int .i64 r_5_3, .int .i64 r_6_3], .int .i64 0]) h_9
theorem regs_Table_ask.den_eq (t : Nat) (endpoint_0 : Bool) (endpoint_1 : Int) (endpoint_2 : Int) (endpoint_3 : ByteArray) (endpoint_4 : ByteArray) (owner : Int) (h : Heap) (R : Value → Heap → Prop) : regs_Table_ask.vc t endpoint_0 endpoint_1 endpoint_2 endpoint_3 endpoint_4 owner h R = den Tryd.prog Tryd.f26.ntmps (.seq .leaf (.seq (.seq .leaf (.cond (.seq .leaf .leaf) .leaf)) (.seq (.plan (.op 0 (.op 1 (.op 2 (.op 3 (.op 4 (.op 5 (.op 6 (.op 7 (.op 8 (.op 9 (.op 10 (.op 11 .done))))))))))))) (.seq (.block (.seq .leaf (.cond (.seq .leaf .leaf) (.seq .leaf (.cond (.seq .leaf .leaf) .leaf))))) (.seq .leaf .leaf))))) none (bodyOf Tryd.f26) (retK Tryd.prog Tryd.f26.results R) (argEnv [.pointer (some ⟨t, 0, none⟩), .agg #[.bool endpoint_0, .int .u64 endpoint_1, .int .u64 endpoint_2, .string endpoint_3, .string endpoint_4], .int .i64 owner]) h := by kernel_rfl
theorem regs_Table_ask.walk {t : Nat} {endpoint_0 : Bool} {endpoint_1 : Int} {endpoint_2 : Int} {endpoint_3 : ByteArray} {endpoint_4 : ByteArray} {owner : Int} {h : Heap} {R : Value → Heap → Prop} (hv : regs_Table_ask.vc t endpoint_0 endpoint_1 endpoint_2 endpoint_3 endpoint_4 owner h R) : CallsH Tryd.prog F.regs_Table_ask #[.pointer (some ⟨t, 0, none⟩), .agg #[.bool endpoint_0, .int .u64 endpoint_1, .int .u64 endpoint_2, .string endpoint_3, .string endpoint_4], .int .i64 owner] h R :=
  callsH_of_body _ Tryd.func26 rfl rfl (Eq.mp (regs_Table_ask.den_eq t endpoint_0 endpoint_1 endpoint_2 endpoint_3 endpoint_4 owner h R) hv)

def regs_Table_ask.nil.vc (endpoint_0 : Bool) (endpoint_1 : Int) (endpoint_2 : Int) (endpoint_3 : ByteArray) (endpoint_4 : ByteArray) (owner : Int) (h : Heap) (R : Value → Heap → Prop) : Prop :=
  NewP h (.cells #[.bool endpoint_0, .int .u64 endpoint_1, .int .u64 endpoint_2, .string endpoint_3, .string endpoint_4] T.eid_Eid) fun b h_1 =>
  NewP h_1 (.cells #[.bool false, .int .u64 0, .int .u64 0, .string (⟨#[]⟩ : ByteArray), .string (⟨#[]⟩ : ByteArray), .int .i64 0, .int .i64 0] T.regs_Reg) fun b_1 h_2 =>
  CallsH Tryd.prog F.regs_Table_made #[.pointer none] h_2 fun v h_3 =>
  ∃ (t11 : Bool), v = .bool t11 ∧
  if (!t11) = true then
    regs_Reg.ST h_3 ⟨b_1, 0, none⟩ false 0 0 (⟨#[]⟩ : ByteArray) (⟨#[]⟩ : ByteArray) 0 0 fun h_4 =>
    regs_Reg.LD h_4 ⟨b_1, 0, none⟩ fun r_0 r_1 r_2 r_3 r_4 r_5 r_6 =>
    R (.tuple #[.agg #[.bool r_0, .int .u64 r_1, .int .u64 r_2, .string r_3, .string r_4, .int .i64 r_5, .int .i64 r_6], .int .i64 6]) h_4
  else
    False
theorem regs_Table_ask.nil.den_eq (endpoint_0 : Bool) (endpoint_1 : Int) (endpoint_2 : Int) (endpoint_3 : ByteArray) (endpoint_4 : ByteArray) (owner : Int) (h : Heap) (R : Value → Heap → Prop) : regs_Table_ask.nil.vc endpoint_0 endpoint_1 endpoint_2 endpoint_3 endpoint_4 owner h R = den Tryd.prog Tryd.f26.ntmps (.seq .leaf (.seq (.seq .leaf (.cond (.seq .leaf .leaf) .leaf)) (.seq (.plan (.op 0 (.op 1 (.op 2 (.op 3 (.op 4 (.op 5 (.op 6 (.op 7 (.op 8 (.op 9 (.op 10 (.op 11 .done))))))))))))) (.seq (.block (.seq .leaf (.cond (.seq .leaf .leaf) (.seq .leaf (.cond (.seq .leaf .leaf) .leaf))))) (.seq .leaf .leaf))))) none (bodyOf Tryd.f26) (retK Tryd.prog Tryd.f26.results R) (argEnv [.pointer none, .agg #[.bool endpoint_0, .int .u64 endpoint_1, .int .u64 endpoint_2, .string endpoint_3, .string endpoint_4], .int .i64 owner]) h := by kernel_rfl
theorem regs_Table_ask.nil.walk {endpoint_0 : Bool} {endpoint_1 : Int} {endpoint_2 : Int} {endpoint_3 : ByteArray} {endpoint_4 : ByteArray} {owner : Int} {h : Heap} {R : Value → Heap → Prop} (hv : regs_Table_ask.nil.vc endpoint_0 endpoint_1 endpoint_2 endpoint_3 endpoint_4 owner h R) : CallsH Tryd.prog F.regs_Table_ask #[.pointer none, .agg #[.bool endpoint_0, .int .u64 endpoint_1, .int .u64 endpoint_2, .string endpoint_3, .string endpoint_4], .int .i64 owner] h R :=
  callsH_of_body _ Tryd.func26 rfl rfl (Eq.mp (regs_Table_ask.nil.den_eq endpoint_0 endpoint_1 endpoint_2 endpoint_3 endpoint_4 owner h R) hv)

def regs_Table_Remove.vc (t : Nat) (endpoint_0 : Bool) (endpoint_1 : Int) (endpoint_2 : Int) (endpoint_3 : ByteArray) (endpoint_4 : ByteArray) (owner : Int) (h : Heap) (R : Value → Heap → Prop) : Prop :=
  NewP h (.cells #[.bool endpoint_0, .int .u64 endpoint_1, .int .u64 endpoint_2, .string endpoint_3, .string endpoint_4] T.eid_Eid) fun b h_1 =>
  eid_Eid.LD h_1 ⟨b, 0, none⟩ fun t11_0 t11_1 t11_2 t11_3 t11_4 =>
  CallsH Tryd.prog F.regs_Table_ask #[.pointer (some ⟨t, 0, none⟩), .agg #[.bool t11_0, .int .u64 t11_1, .int .u64 t11_2, .string t11_3, .string t11_4], .int .i64 owner] h_1 fun v h_2 =>
  ∃ (t13_0_0 : Bool), ∃ (t13_0_1 : Int), ∃ (t13_0_2 : Int), ∃ (t13_0_3 : ByteArray), ∃ (t13_0_4 : ByteArray), ∃ (t13_0_5 : Int), ∃ (t13_0_6 : Int), ∃ (t13_1 : Int), v = .tuple #[.agg #[.bool t13_0_0, .int .u64 t13_0_1, .int .u64 t13_0_2, .string t13_0_3, .string t13_0_4, .int .i64 t13_0_5, .int .i64 t13_0_6], .int .i64 t13_1] ∧
  NewP h_2 (.cells #[.bool false, .int .u64 0, .int .u64 0, .string (⟨#[]⟩ : ByteArray), .string (⟨#[]⟩ : ByteArray), .int .i64 0, .int .i64 0] T.regs_Reg) fun b_1 h_3 =>
  regs_Reg.ST h_3 ⟨b_1, 0, none⟩ t13_0_0 t13_0_1 t13_0_2 t13_0_3 t13_0_4 t13_0_5 t13_0_6 fun h_4 =>
  JoinP (fun (h_5 : Heap) =>
    R (.int .i64 t13_1) h_5)
  (fun J =>
    if (t13_1 == 0) = true then
      ∃ (t21 : Option Nat), hcell h_4 ⟨t, 0, none⟩ = some (.map t21) ∧
      eid_Eid.LD h_4 ⟨b, 0, none⟩ fun t22_0 t22_1 t22_2 t22_3 t22_4 =>
      denSem Tryd.prog (Builtin.delete_ #[T.m_eid_Eid_regs_Reg, T.eid_Eid] T.tup_ #[.map t21, .agg #[.bool t22_0, .int .u64 t22_1, .int .u64 t22_2, .string t22_3, .string t22_4]]) h_4 fun v_1 h_6 =>
      v_1 = .tuple #[] ∧
      J h_6
    else
      J h_4)
theorem regs_Table_Remove.den_eq (t : Nat) (endpoint_0 : Bool) (endpoint_1 : Int) (endpoint_2 : Int) (endpoint_3 : ByteArray) (endpoint_4 : ByteArray) (owner : Int) (h : Heap) (R : Value → Heap → Prop) : regs_Table_Remove.vc t endpoint_0 endpoint_1 endpoint_2 endpoint_3 endpoint_4 owner h R = den Tryd.prog Tryd.f9.ntmps (.seq .leaf (.seq .leaf (.seq (.seq .leaf (.join [] (.cond (.plan (.op 0 (.op 1 (.op 2 (.op 3 (.op 4 (.op 5 .done))))))) .leaf))) (.seq .leaf .leaf)))) none (bodyOf Tryd.f9) (retK Tryd.prog Tryd.f9.results R) (argEnv [.pointer (some ⟨t, 0, none⟩), .agg #[.bool endpoint_0, .int .u64 endpoint_1, .int .u64 endpoint_2, .string endpoint_3, .string endpoint_4], .int .i64 owner]) h := by kernel_rfl
theorem regs_Table_Remove.walk {t : Nat} {endpoint_0 : Bool} {endpoint_1 : Int} {endpoint_2 : Int} {endpoint_3 : ByteArray} {endpoint_4 : ByteArray} {owner : Int} {h : Heap} {R : Value → Heap → Prop} (hv : regs_Table_Remove.vc t endpoint_0 endpoint_1 endpoint_2 endpoint_3 endpoint_4 owner h R) : CallsH Tryd.prog F.regs_Table_Remove #[.pointer (some ⟨t, 0, none⟩), .agg #[.bool endpoint_0, .int .u64 endpoint_1, .int .u64 endpoint_2, .string endpoint_3, .string endpoint_4], .int .i64 owner] h R :=
  callsH_of_body _ Tryd.func9 rfl rfl (Eq.mp (regs_Table_Remove.den_eq t endpoint_0 endpoint_1 endpoint_2 endpoint_3 endpoint_4 owner h R) hv)

def regs_Table_Remove.nil.vc (endpoint_0 : Bool) (endpoint_1 : Int) (endpoint_2 : Int) (endpoint_3 : ByteArray) (endpoint_4 : ByteArray) (owner : Int) (h : Heap) (R : Value → Heap → Prop) : Prop :=
  NewP h (.cells #[.bool endpoint_0, .int .u64 endpoint_1, .int .u64 endpoint_2, .string endpoint_3, .string endpoint_4] T.eid_Eid) fun b h_1 =>
  eid_Eid.LD h_1 ⟨b, 0, none⟩ fun t11_0 t11_1 t11_2 t11_3 t11_4 =>
  CallsH Tryd.prog F.regs_Table_ask #[.pointer none, .agg #[.bool t11_0, .int .u64 t11_1, .int .u64 t11_2, .string t11_3, .string t11_4], .int .i64 owner] h_1 fun v h_2 =>
  ∃ (t13_0_0 : Bool), ∃ (t13_0_1 : Int), ∃ (t13_0_2 : Int), ∃ (t13_0_3 : ByteArray), ∃ (t13_0_4 : ByteArray), ∃ (t13_0_5 : Int), ∃ (t13_0_6 : Int), ∃ (t13_1 : Int), v = .tuple #[.agg #[.bool t13_0_0, .int .u64 t13_0_1, .int .u64 t13_0_2, .string t13_0_3, .string t13_0_4, .int .i64 t13_0_5, .int .i64 t13_0_6], .int .i64 t13_1] ∧
  NewP h_2 (.cells #[.bool false, .int .u64 0, .int .u64 0, .string (⟨#[]⟩ : ByteArray), .string (⟨#[]⟩ : ByteArray), .int .i64 0, .int .i64 0] T.regs_Reg) fun b_1 h_3 =>
  regs_Reg.ST h_3 ⟨b_1, 0, none⟩ t13_0_0 t13_0_1 t13_0_2 t13_0_3 t13_0_4 t13_0_5 t13_0_6 fun h_4 =>
  JoinP (fun (h_5 : Heap) =>
    R (.int .i64 t13_1) h_5)
  (fun J =>
    if (t13_1 == 0) = true then
      False
    else
      J h_4)
theorem regs_Table_Remove.nil.den_eq (endpoint_0 : Bool) (endpoint_1 : Int) (endpoint_2 : Int) (endpoint_3 : ByteArray) (endpoint_4 : ByteArray) (owner : Int) (h : Heap) (R : Value → Heap → Prop) : regs_Table_Remove.nil.vc endpoint_0 endpoint_1 endpoint_2 endpoint_3 endpoint_4 owner h R = den Tryd.prog Tryd.f9.ntmps (.seq .leaf (.seq .leaf (.seq (.seq .leaf (.join [] (.cond (.plan (.op 0 (.op 1 (.op 2 (.op 3 (.op 4 (.op 5 .done))))))) .leaf))) (.seq .leaf .leaf)))) none (bodyOf Tryd.f9) (retK Tryd.prog Tryd.f9.results R) (argEnv [.pointer none, .agg #[.bool endpoint_0, .int .u64 endpoint_1, .int .u64 endpoint_2, .string endpoint_3, .string endpoint_4], .int .i64 owner]) h := by kernel_rfl
theorem regs_Table_Remove.nil.walk {endpoint_0 : Bool} {endpoint_1 : Int} {endpoint_2 : Int} {endpoint_3 : ByteArray} {endpoint_4 : ByteArray} {owner : Int} {h : Heap} {R : Value → Heap → Prop} (hv : regs_Table_Remove.nil.vc endpoint_0 endpoint_1 endpoint_2 endpoint_3 endpoint_4 owner h R) : CallsH Tryd.prog F.regs_Table_Remove #[.pointer none, .agg #[.bool endpoint_0, .int .u64 endpoint_1, .int .u64 endpoint_2, .string endpoint_3, .string endpoint_4], .int .i64 owner] h R :=
  callsH_of_body _ Tryd.func9 rfl rfl (Eq.mp (regs_Table_Remove.nil.den_eq endpoint_0 endpoint_1 endpoint_2 endpoint_3 endpoint_4 owner h R) hv)

def regs_Table_Policy.vc (t : Nat) (endpoint_0 : Bool) (endpoint_1 : Int) (endpoint_2 : Int) (endpoint_3 : ByteArray) (endpoint_4 : ByteArray) (owner : Int) (policy : Int) (h : Heap) (R : Value → Heap → Prop) : Prop :=
  NewP h (.cells #[.bool endpoint_0, .int .u64 endpoint_1, .int .u64 endpoint_2, .string endpoint_3, .string endpoint_4] T.eid_Eid) fun b h_1 =>
  JoinP (fun (t17 : Bool) (h_2 : Heap) =>
    if t17 = true then
      R (.int .i64 1) h_2
    else
      eid_Eid.LD h_2 ⟨b, 0, none⟩ fun t20_0 t20_1 t20_2 t20_3 t20_4 =>
      CallsH Tryd.prog F.regs_Table_ask #[.pointer (some ⟨t, 0, none⟩), .agg #[.bool t20_0, .int .u64 t20_1, .int .u64 t20_2, .string t20_3, .string t20_4], .int .i64 owner] h_2 fun v h_3 =>
      ∃ (t22_0_0 : Bool), ∃ (t22_0_1 : Int), ∃ (t22_0_2 : Int), ∃ (t22_0_3 : ByteArray), ∃ (t22_0_4 : ByteArray), ∃ (t22_0_5 : Int), ∃ (t22_0_6 : Int), ∃ (t22_1 : Int), v = .tuple #[.agg #[.bool t22_0_0, .int .u64 t22_0_1, .int .u64 t22_0_2, .string t22_0_3, .string t22_0_4, .int .i64 t22_0_5, .int .i64 t22_0_6], .int .i64 t22_1] ∧
      NewP h_3 (.cells #[.bool false, .int .u64 0, .int .u64 0, .string (⟨#[]⟩ : ByteArray), .string (⟨#[]⟩ : ByteArray), .int .i64 0, .int .i64 0] T.regs_Reg) fun b_1 h_4 =>
      regs_Reg.ST h_4 ⟨b_1, 0, none⟩ t22_0_0 t22_0_1 t22_0_2 t22_0_3 t22_0_4 t22_0_5 t22_0_6 fun h_5 =>
      JoinP (fun (h_6 : Heap) =>
        R (.int .i64 t22_1) h_6)
      (fun J_1 =>
        if (t22_1 == 0) = true then
          StoreP h_5 ⟨b_1, 5, none⟩ (.int .i64 policy) fun h_7 =>
          ∃ (t32 : Option Nat), hcell h_7 ⟨t, 0, none⟩ = some (.map t32) ∧
          eid_Eid.LD h_7 ⟨b, 0, none⟩ fun t33_0 t33_1 t33_2 t33_3 t33_4 =>
          regs_Reg.LD h_7 ⟨b_1, 0, none⟩ fun t34_0 t34_1 t34_2 t34_3 t34_4 t34_5 t34_6 =>
          denSem Tryd.prog (Instr.mapUpdate T.m_eid_Eid_regs_Reg (.map t32) (.agg #[.bool t33_0, .int .u64 t33_1, .int .u64 t33_2, .string t33_3, .string t33_4]) (.agg #[.bool t34_0, .int .u64 t34_1, .int .u64 t34_2, .string t34_3, .string t34_4, .int .i64 t34_5, .int .i64 t34_6])) h_7 fun _ h_8 =>
          J_1 h_8
        else
          J_1 h_5))
  (fun J =>
    CallsH Tryd.prog F.regs_Table_made #[.pointer (some ⟨t, 0, none⟩)] h_1 fun v_1 h_9 =>
    ∃ (t12 : Bool), v_1 = .bool t12 ∧
    if t12 = true then
      CallsH Tryd.prog F.regs_isPolicy #[.int .i64 policy] h_9 fun v_2 h_10 =>
      ∃ (t15 : Bool), v_2 = .bool t15 ∧
      J (!t15) h_10
    else
      J false h_9)
theorem regs_Table_Policy.den_eq (t : Nat) (endpoint_0 : Bool) (endpoint_1 : Int) (endpoint_2 : Int) (endpoint_3 : ByteArray) (endpoint_4 : ByteArray) (owner : Int) (policy : Int) (h : Heap) (R : Value → Heap → Prop) : regs_Table_Policy.vc t endpoint_0 endpoint_1 endpoint_2 endpoint_3 endpoint_4 owner policy h R = den Tryd.prog Tryd.f11.ntmps (.seq .leaf (.seq (.seq (.join [(17, .one (.bool))] .leaf) (.cond (.seq .leaf .leaf) .leaf)) (.seq .leaf (.seq (.seq .leaf (.join [] (.cond (.seq .leaf (.plan (.op 0 (.op 1 (.op 2 (.op 3 (.op 4 (.op 5 (.op 6 .done))))))))) .leaf))) (.seq .leaf .leaf))))) none (bodyOf Tryd.f11) (retK Tryd.prog Tryd.f11.results R) (argEnv [.pointer (some ⟨t, 0, none⟩), .agg #[.bool endpoint_0, .int .u64 endpoint_1, .int .u64 endpoint_2, .string endpoint_3, .string endpoint_4], .int .i64 owner, .int .i64 policy]) h := by kernel_rfl
theorem regs_Table_Policy.walk {t : Nat} {endpoint_0 : Bool} {endpoint_1 : Int} {endpoint_2 : Int} {endpoint_3 : ByteArray} {endpoint_4 : ByteArray} {owner : Int} {policy : Int} {h : Heap} {R : Value → Heap → Prop} (hv : regs_Table_Policy.vc t endpoint_0 endpoint_1 endpoint_2 endpoint_3 endpoint_4 owner policy h R) : CallsH Tryd.prog F.regs_Table_Policy #[.pointer (some ⟨t, 0, none⟩), .agg #[.bool endpoint_0, .int .u64 endpoint_1, .int .u64 endpoint_2, .string endpoint_3, .string endpoint_4], .int .i64 owner, .int .i64 policy] h R :=
  callsH_of_body _ Tryd.func11 rfl rfl (Eq.mp (regs_Table_Policy.den_eq t endpoint_0 endpoint_1 endpoint_2 endpoint_3 endpoint_4 owner policy h R) hv)

def regs_Table_Policy.nil.vc (endpoint_0 : Bool) (endpoint_1 : Int) (endpoint_2 : Int) (endpoint_3 : ByteArray) (endpoint_4 : ByteArray) (owner : Int) (policy : Int) (h : Heap) (R : Value → Heap → Prop) : Prop :=
  NewP h (.cells #[.bool endpoint_0, .int .u64 endpoint_1, .int .u64 endpoint_2, .string endpoint_3, .string endpoint_4] T.eid_Eid) fun b h_1 =>
  JoinP (fun (t17 : Bool) (h_2 : Heap) =>
    if t17 = true then
      R (.int .i64 1) h_2
    else
      eid_Eid.LD h_2 ⟨b, 0, none⟩ fun t20_0 t20_1 t20_2 t20_3 t20_4 =>
      CallsH Tryd.prog F.regs_Table_ask #[.pointer none, .agg #[.bool t20_0, .int .u64 t20_1, .int .u64 t20_2, .string t20_3, .string t20_4], .int .i64 owner] h_2 fun v h_3 =>
      ∃ (t22_0_0 : Bool), ∃ (t22_0_1 : Int), ∃ (t22_0_2 : Int), ∃ (t22_0_3 : ByteArray), ∃ (t22_0_4 : ByteArray), ∃ (t22_0_5 : Int), ∃ (t22_0_6 : Int), ∃ (t22_1 : Int), v = .tuple #[.agg #[.bool t22_0_0, .int .u64 t22_0_1, .int .u64 t22_0_2, .string t22_0_3, .string t22_0_4, .int .i64 t22_0_5, .int .i64 t22_0_6], .int .i64 t22_1] ∧
      NewP h_3 (.cells #[.bool false, .int .u64 0, .int .u64 0, .string (⟨#[]⟩ : ByteArray), .string (⟨#[]⟩ : ByteArray), .int .i64 0, .int .i64 0] T.regs_Reg) fun b_1 h_4 =>
      regs_Reg.ST h_4 ⟨b_1, 0, none⟩ t22_0_0 t22_0_1 t22_0_2 t22_0_3 t22_0_4 t22_0_5 t22_0_6 fun h_5 =>
      JoinP (fun (h_6 : Heap) =>
        R (.int .i64 t22_1) h_6)
      (fun J_1 =>
        if (t22_1 == 0) = true then
          StoreP h_5 ⟨b_1, 5, none⟩ (.int .i64 policy) fun h_7 =>
          False
        else
          J_1 h_5))
  (fun J =>
    CallsH Tryd.prog F.regs_Table_made #[.pointer none] h_1 fun v_1 h_8 =>
    ∃ (t12 : Bool), v_1 = .bool t12 ∧
    if t12 = true then
      CallsH Tryd.prog F.regs_isPolicy #[.int .i64 policy] h_8 fun v_2 h_9 =>
      ∃ (t15 : Bool), v_2 = .bool t15 ∧
      J (!t15) h_9
    else
      J false h_8)
theorem regs_Table_Policy.nil.den_eq (endpoint_0 : Bool) (endpoint_1 : Int) (endpoint_2 : Int) (endpoint_3 : ByteArray) (endpoint_4 : ByteArray) (owner : Int) (policy : Int) (h : Heap) (R : Value → Heap → Prop) : regs_Table_Policy.nil.vc endpoint_0 endpoint_1 endpoint_2 endpoint_3 endpoint_4 owner policy h R = den Tryd.prog Tryd.f11.ntmps (.seq .leaf (.seq (.seq (.join [(17, .one (.bool))] .leaf) (.cond (.seq .leaf .leaf) .leaf)) (.seq .leaf (.seq (.seq .leaf (.join [] (.cond (.seq .leaf (.plan (.op 0 (.op 1 (.op 2 (.op 3 (.op 4 (.op 5 (.op 6 .done))))))))) .leaf))) (.seq .leaf .leaf))))) none (bodyOf Tryd.f11) (retK Tryd.prog Tryd.f11.results R) (argEnv [.pointer none, .agg #[.bool endpoint_0, .int .u64 endpoint_1, .int .u64 endpoint_2, .string endpoint_3, .string endpoint_4], .int .i64 owner, .int .i64 policy]) h := by kernel_rfl
theorem regs_Table_Policy.nil.walk {endpoint_0 : Bool} {endpoint_1 : Int} {endpoint_2 : Int} {endpoint_3 : ByteArray} {endpoint_4 : ByteArray} {owner : Int} {policy : Int} {h : Heap} {R : Value → Heap → Prop} (hv : regs_Table_Policy.nil.vc endpoint_0 endpoint_1 endpoint_2 endpoint_3 endpoint_4 owner policy h R) : CallsH Tryd.prog F.regs_Table_Policy #[.pointer none, .agg #[.bool endpoint_0, .int .u64 endpoint_1, .int .u64 endpoint_2, .string endpoint_3, .string endpoint_4], .int .i64 owner, .int .i64 policy] h R :=
  callsH_of_body _ Tryd.func11 rfl rfl (Eq.mp (regs_Table_Policy.nil.den_eq endpoint_0 endpoint_1 endpoint_2 endpoint_3 endpoint_4 owner policy h R) hv)

def regs_Table_Find.vc (t : Nat) (endpoint_0 : Bool) (endpoint_1 : Int) (endpoint_2 : Int) (endpoint_3 : ByteArray) (endpoint_4 : ByteArray) (h : Heap) (R : Value → Heap → Prop) : Prop :=
  NewP h (.cells #[.bool endpoint_0, .int .u64 endpoint_1, .int .u64 endpoint_2, .string endpoint_3, .string endpoint_4] T.eid_Eid) fun b h_1 =>
  NewP h_1 (.cells #[.bool false, .int .u64 0, .int .u64 0, .string (⟨#[]⟩ : ByteArray), .string (⟨#[]⟩ : ByteArray), .int .i64 0, .int .i64 0] T.regs_Reg) fun b_1 h_2 =>
  CallsH Tryd.prog F.regs_Table_made #[.pointer (some ⟨t, 0, none⟩)] h_2 fun v h_3 =>
  ∃ (t9 : Bool), v = .bool t9 ∧
  if (!t9) = true then
    regs_Reg.ST h_3 ⟨b_1, 0, none⟩ false 0 0 (⟨#[]⟩ : ByteArray) (⟨#[]⟩ : ByteArray) 0 0 fun h_4 =>
    regs_Reg.LD h_4 ⟨b_1, 0, none⟩ fun r_0 r_1 r_2 r_3 r_4 r_5 r_6 =>
    R (.tuple #[.agg #[.bool r_0, .int .u64 r_1, .int .u64 r_2, .string r_3, .string r_4, .int .i64 r_5, .int .i64 r_6], .bool false]) h_4
  else
    ∃ (t16 : Option Nat), hcell h_3 ⟨t, 0, none⟩ = some (.map t16) ∧
    eid_Eid.LD h_3 ⟨b, 0, none⟩ fun t17_0 t17_1 t17_2 t17_3 t17_4 =>
    ∃ (t18_0_0 : Bool), ∃ (t18_0_1 : Int), ∃ (t18_0_2 : Int), ∃ (t18_0_3 : ByteArray), ∃ (t18_0_4 : ByteArray), ∃ (t18_0_5 : Int), ∃ (t18_0_6 : Int), ∃ (t18_1 : Bool), LookV Tryd.prog T.m_eid_Eid_regs_Reg (.map t16) (.agg #[.bool t17_0, .int .u64 t17_1, .int .u64 t17_2, .string t17_3, .string t17_4]) true h_3 (.tuple #[.agg #[.bool t18_0_0, .int .u64 t18_0_1, .int .u64 t18_0_2, .string t18_0_3, .string t18_0_4, .int .i64 t18_0_5, .int .i64 t18_0_6], .bool t18_1]) ∧
    NewP h_3 (.cells #[.bool false, .int .u64 0, .int .u64 0, .string (⟨#[]⟩ : ByteArray), .string (⟨#[]⟩ : ByteArray), .int .i64 0, .int .i64 0] T.regs_Reg) fun b_2 h_5 =>
    mapSame (.map t16) h_3 h_5 ∧
    heldL ⟨b, 0, none⟩ [.bool t17_0, .int .u64 t17_1, .int .u64 t17_2, .string t17_3, .string t17_4] 0 h_5 ∧
    hcell h_5 ⟨t, 0, none⟩ = some (.map t16) ∧
    regs_Reg.ST h_5 ⟨b_2, 0, none⟩ t18_0_0 t18_0_1 t18_0_2 t18_0_3 t18_0_4 t18_0_5 t18_0_6 fun h_6 =>
    regs_Reg.LD h_6 ⟨b_2, 0, none⟩ fun t21_0 t21_1 t21_2 t21_3 t21_4 t21_5 t21_6 =>
    regs_Reg.ST h_6 ⟨b_1, 0, none⟩ t21_0 t21_1 t21_2 t21_3 t21_4 t21_5 t21_6 fun h_7 =>
    regs_Reg.LD h_7 ⟨b_1, 0, none⟩ fun r_0_1 r_1_1 r_2_1 r_3_1 r_4_1 r_5_1 r_6_1 =>
    R (.tuple #[.agg #[.bool r_0_1, .int .u64 r_1_1, .int .u64 r_2_1, .string r_3_1, .string r_4_1, .int .i64 r_5_1, .int .i64 r_6_1], .bool t18_1]) h_7
theorem regs_Table_Find.den_eq (t : Nat) (endpoint_0 : Bool) (endpoint_1 : Int) (endpoint_2 : Int) (endpoint_3 : ByteArray) (endpoint_4 : ByteArray) (h : Heap) (R : Value → Heap → Prop) : regs_Table_Find.vc t endpoint_0 endpoint_1 endpoint_2 endpoint_3 endpoint_4 h R = den Tryd.prog Tryd.f13.ntmps (.seq .leaf (.seq (.seq .leaf (.cond (.seq .leaf .leaf) .leaf)) (.seq (.plan (.op 0 (.op 1 (.op 2 (.op 3 (.op 4 (.op 5 (.op 6 (.op 7 (.op 8 (.op 9 (.op 10 (.op 11 .done))))))))))))) (.seq .leaf .leaf)))) none (bodyOf Tryd.f13) (retK Tryd.prog Tryd.f13.results R) (argEnv [.pointer (some ⟨t, 0, none⟩), .agg #[.bool endpoint_0, .int .u64 endpoint_1, .int .u64 endpoint_2, .string endpoint_3, .string endpoint_4]]) h := by kernel_rfl
theorem regs_Table_Find.walk {t : Nat} {endpoint_0 : Bool} {endpoint_1 : Int} {endpoint_2 : Int} {endpoint_3 : ByteArray} {endpoint_4 : ByteArray} {h : Heap} {R : Value → Heap → Prop} (hv : regs_Table_Find.vc t endpoint_0 endpoint_1 endpoint_2 endpoint_3 endpoint_4 h R) : CallsH Tryd.prog F.regs_Table_Find #[.pointer (some ⟨t, 0, none⟩), .agg #[.bool endpoint_0, .int .u64 endpoint_1, .int .u64 endpoint_2, .string endpoint_3, .string endpoint_4]] h R :=
  callsH_of_body _ Tryd.func13 rfl rfl (Eq.mp (regs_Table_Find.den_eq t endpoint_0 endpoint_1 endpoint_2 endpoint_3 endpoint_4 h R) hv)

def regs_Table_Find.nil.vc (endpoint_0 : Bool) (endpoint_1 : Int) (endpoint_2 : Int) (endpoint_3 : ByteArray) (endpoint_4 : ByteArray) (h : Heap) (R : Value → Heap → Prop) : Prop :=
  NewP h (.cells #[.bool endpoint_0, .int .u64 endpoint_1, .int .u64 endpoint_2, .string endpoint_3, .string endpoint_4] T.eid_Eid) fun b h_1 =>
  NewP h_1 (.cells #[.bool false, .int .u64 0, .int .u64 0, .string (⟨#[]⟩ : ByteArray), .string (⟨#[]⟩ : ByteArray), .int .i64 0, .int .i64 0] T.regs_Reg) fun b_1 h_2 =>
  CallsH Tryd.prog F.regs_Table_made #[.pointer none] h_2 fun v h_3 =>
  ∃ (t9 : Bool), v = .bool t9 ∧
  if (!t9) = true then
    regs_Reg.ST h_3 ⟨b_1, 0, none⟩ false 0 0 (⟨#[]⟩ : ByteArray) (⟨#[]⟩ : ByteArray) 0 0 fun h_4 =>
    regs_Reg.LD h_4 ⟨b_1, 0, none⟩ fun r_0 r_1 r_2 r_3 r_4 r_5 r_6 =>
    R (.tuple #[.agg #[.bool r_0, .int .u64 r_1, .int .u64 r_2, .string r_3, .string r_4, .int .i64 r_5, .int .i64 r_6], .bool false]) h_4
  else
    False
theorem regs_Table_Find.nil.den_eq (endpoint_0 : Bool) (endpoint_1 : Int) (endpoint_2 : Int) (endpoint_3 : ByteArray) (endpoint_4 : ByteArray) (h : Heap) (R : Value → Heap → Prop) : regs_Table_Find.nil.vc endpoint_0 endpoint_1 endpoint_2 endpoint_3 endpoint_4 h R = den Tryd.prog Tryd.f13.ntmps (.seq .leaf (.seq (.seq .leaf (.cond (.seq .leaf .leaf) .leaf)) (.seq (.plan (.op 0 (.op 1 (.op 2 (.op 3 (.op 4 (.op 5 (.op 6 (.op 7 (.op 8 (.op 9 (.op 10 (.op 11 .done))))))))))))) (.seq .leaf .leaf)))) none (bodyOf Tryd.f13) (retK Tryd.prog Tryd.f13.results R) (argEnv [.pointer none, .agg #[.bool endpoint_0, .int .u64 endpoint_1, .int .u64 endpoint_2, .string endpoint_3, .string endpoint_4]]) h := by kernel_rfl
theorem regs_Table_Find.nil.walk {endpoint_0 : Bool} {endpoint_1 : Int} {endpoint_2 : Int} {endpoint_3 : ByteArray} {endpoint_4 : ByteArray} {h : Heap} {R : Value → Heap → Prop} (hv : regs_Table_Find.nil.vc endpoint_0 endpoint_1 endpoint_2 endpoint_3 endpoint_4 h R) : CallsH Tryd.prog F.regs_Table_Find #[.pointer none, .agg #[.bool endpoint_0, .int .u64 endpoint_1, .int .u64 endpoint_2, .string endpoint_3, .string endpoint_4]] h R :=
  callsH_of_body _ Tryd.func13 rfl rfl (Eq.mp (regs_Table_Find.nil.den_eq endpoint_0 endpoint_1 endpoint_2 endpoint_3 endpoint_4 h R) hv)

def regs_Table_All.vc (t : Nat) (h : Heap) (R : Value → Heap → Prop) : Prop :=
  CallsH Tryd.prog F.regs_Table_made #[.pointer (some ⟨t, 0, none⟩)] h fun v h_1 =>
  ∃ (t7 : Bool), v = .bool t7 ∧
  JoinP (fun (out_p : Option Addr) (out_l out_c : Nat) (h_2 : Heap) =>
    CallsH Tryd.prog F.slices_SortFunc_s_regs_Reg_regs_Reg #[.slice out_p out_l out_c, .func (.func F.regs_Table_All_1) #[] #[]] h_2 fun v_1 h_3 =>
    v_1 = .tuple #[] ∧
    R (.slice out_p out_l out_c) h_3)
  (fun J =>
    if t7 = true then
      ∃ (t11 : Option Nat), hcell h_1 ⟨t, 0, none⟩ = some (.map t11) ∧
      denSem Tryd.prog (Instr.range T.m_eid_Eid_regs_Reg (.map t11)) h_1 fun v_2 h_4 =>
      ∃ (it : Nat), v_2 = .pointer (some ⟨it, 0, none⟩) ∧
      ∃ (I : Option Addr → Nat → Nat → Heap → Prop) (mu : Option Addr → Nat → Nat → Heap → Nat), I none 0 0 h_4 ∧ ∀ (out_p_1 : Option Addr) (out_l_1 out_c_1 : Nat) (h_5 : Heap), I out_p_1 out_l_1 out_c_1 h_5 →
        denSem Tryd.prog (Instr.next (.pointer (some ⟨it, 0, none⟩)) false T.tup_) h_5 fun v_3 h_6 =>
        (v_3 = .tuple #[.bool false] ∧
          J out_p_1 out_l_1 out_c_1 h_6) ∨
        (  ∃ (t13_k t13_v : Value), v_3 = .tuple #[.bool true, t13_k, t13_v] ∧
          denSem Tryd.prog (Instr.entry (.pointer (some ⟨it, 0, none⟩))) h_6 fun v_4 h_7 =>
          ∃ (t15_k t15_v : Value), v_4 = .tuple #[t15_k, t15_v] ∧
          ∃ (t16_0 : Bool), ∃ (t16_1 : Int), ∃ (t16_2 : Int), ∃ (t16_3 : ByteArray), ∃ (t16_4 : ByteArray), ∃ (t16_5 : Int), ∃ (t16_6 : Int), t15_v = .agg #[.bool t16_0, .int .u64 t16_1, .int .u64 t16_2, .string t16_3, .string t16_4, .int .i64 t16_5, .int .i64 t16_6] ∧
          NewP h_7 (.cells #[.bool false, .int .u64 0, .int .u64 0, .string (⟨#[]⟩ : ByteArray), .string (⟨#[]⟩ : ByteArray), .int .i64 0, .int .i64 0] T.regs_Reg) fun b h_8 =>
          regs_Reg.ST h_8 ⟨b, 0, none⟩ t16_0 t16_1 t16_2 t16_3 t16_4 t16_5 t16_6 fun h_9 =>
          regs_Reg.LD h_9 ⟨b, 0, none⟩ fun t18_0 t18_1 t18_2 t18_3 t18_4 t18_5 t18_6 =>
          NewP h_9 (.cells #[.bool t18_0, .int .u64 t18_1, .int .u64 t18_2, .string t18_3, .string t18_4, .int .i64 t18_5, .int .i64 t18_6] T.regs_Reg) fun b_1 h_10 =>
          denSem Tryd.prog (Builtin.append_ #[T.s_regs_Reg, T.s_regs_Reg] T.s_regs_Reg #[.slice out_p_1 out_l_1 out_c_1, .slice (some ⟨b_1, 0, none⟩) 1 1]) h_10 fun v_5 h_11 =>
          ∃ (t20_p : Option Addr) (t20_l t20_c : Nat), v_5 = .slice t20_p t20_l t20_c ∧
          (I t20_p t20_l t20_c h_11 ∧ mu t20_p t20_l t20_c h_11 < mu out_p_1 out_l_1 out_c_1 h_5))
    else
      J none 0 0 h_1)
theorem regs_Table_All.den_eq (t : Nat) (h : Heap) (R : Value → Heap → Prop) : regs_Table_All.vc t h R = den Tryd.prog Tryd.f21.ntmps (.seq .leaf (.seq .leaf (.seq (.seq .leaf (.join [(3, .one (.slice))] (.cond (.seq .leaf (.block (.loop [(3, .one (.slice))] (.seq .leaf (.seq (.cond .leaf .leaf) (.block (.seq (.typed [(16, .agg [.bool, .int .u64, .int .u64, .str, .str, .int .i64, .int .i64])]) .leaf))))))) .leaf))) (.seq .leaf (.seq .leaf .leaf))))) none (bodyOf Tryd.f21) (retK Tryd.prog Tryd.f21.results R) (argEnv [.pointer (some ⟨t, 0, none⟩)]) h := by kernel_rfl
theorem regs_Table_All.walk {t : Nat} {h : Heap} {R : Value → Heap → Prop} (hv : regs_Table_All.vc t h R) : CallsH Tryd.prog F.regs_Table_All #[.pointer (some ⟨t, 0, none⟩)] h R :=
  callsH_of_body _ Tryd.func21 rfl rfl (Eq.mp (regs_Table_All.den_eq t h R) hv)

def regs_Table_All.nil.vc  (h : Heap) (R : Value → Heap → Prop) : Prop :=
  CallsH Tryd.prog F.regs_Table_made #[.pointer none] h fun v h_1 =>
  ∃ (t7 : Bool), v = .bool t7 ∧
  JoinP (fun (out_p : Option Addr) (out_l out_c : Nat) (h_2 : Heap) =>
    CallsH Tryd.prog F.slices_SortFunc_s_regs_Reg_regs_Reg #[.slice out_p out_l out_c, .func (.func F.regs_Table_All_1) #[] #[]] h_2 fun v_1 h_3 =>
    v_1 = .tuple #[] ∧
    R (.slice out_p out_l out_c) h_3)
  (fun J =>
    if t7 = true then
      False
    else
      J none 0 0 h_1)
theorem regs_Table_All.nil.den_eq  (h : Heap) (R : Value → Heap → Prop) : regs_Table_All.nil.vc h R = den Tryd.prog Tryd.f21.ntmps (.seq .leaf (.seq .leaf (.seq (.seq .leaf (.join [(3, .one (.slice))] (.cond (.seq .leaf (.block (.loop [(3, .one (.slice))] (.seq .leaf (.seq (.cond .leaf .leaf) (.block (.seq (.typed [(16, .agg [.bool, .int .u64, .int .u64, .str, .str, .int .i64, .int .i64])]) .leaf))))))) .leaf))) (.seq .leaf (.seq .leaf .leaf))))) none (bodyOf Tryd.f21) (retK Tryd.prog Tryd.f21.results R) (argEnv [.pointer none]) h := by kernel_rfl
theorem regs_Table_All.nil.walk  {h : Heap} {R : Value → Heap → Prop} (hv : regs_Table_All.nil.vc h R) : CallsH Tryd.prog F.regs_Table_All #[.pointer none] h R :=
  callsH_of_body _ Tryd.func21 rfl rfl (Eq.mp (regs_Table_All.nil.den_eq h R) hv)

def regs_Table_All_1.vc (a_0 : Bool) (a_1 : Int) (a_2 : Int) (a_3 : ByteArray) (a_4 : ByteArray) (a_5 : Int) (a_6 : Int) (b_0 : Bool) (b_1 : Int) (b_2 : Int) (b_3 : ByteArray) (b_4 : ByteArray) (b_5 : Int) (b_6 : Int) (h : Heap) (R : Value → Heap → Prop) : Prop :=
  NewP h (.cells #[.bool a_0, .int .u64 a_1, .int .u64 a_2, .string a_3, .string a_4, .int .i64 a_5, .int .i64 a_6] T.regs_Reg) fun b h_1 =>
  NewP h_1 (.cells #[.bool b_0, .int .u64 b_1, .int .u64 b_2, .string b_3, .string b_4, .int .i64 b_5, .int .i64 b_6] T.regs_Reg) fun b_1 h_2 =>
  eid_Eid.LD h_2 ⟨b, 0, none⟩ fun t6_0 t6_1 t6_2 t6_3 t6_4 =>
  eid_Eid.LD h_2 ⟨b_1, 0, none⟩ fun t8_0 t8_1 t8_2 t8_3 t8_4 =>
  CallsH Tryd.prog F.eid_Less #[.agg #[.bool t6_0, .int .u64 t6_1, .int .u64 t6_2, .string t6_3, .string t6_4], .agg #[.bool t8_0, .int .u64 t8_1, .int .u64 t8_2, .string t8_3, .string t8_4]] h_2 fun v h_3 =>
  ∃ (t9 : Bool), v = .bool t9 ∧
  if t9 = true then
    R (.int .i64 (-1)) h_3
  else
    R (.int .i64 1) h_3
theorem regs_Table_All_1.den_eq (a_0 : Bool) (a_1 : Int) (a_2 : Int) (a_3 : ByteArray) (a_4 : ByteArray) (a_5 : Int) (a_6 : Int) (b_0 : Bool) (b_1 : Int) (b_2 : Int) (b_3 : ByteArray) (b_4 : ByteArray) (b_5 : Int) (b_6 : Int) (h : Heap) (R : Value → Heap → Prop) : regs_Table_All_1.vc a_0 a_1 a_2 a_3 a_4 a_5 a_6 b_0 b_1 b_2 b_3 b_4 b_5 b_6 h R = den Tryd.prog Tryd.f34.ntmps (.seq .leaf (.seq (.seq .leaf (.cond (.seq .leaf .leaf) .leaf)) (.seq .leaf .leaf))) none (bodyOf Tryd.f34) (retK Tryd.prog Tryd.f34.results R) (argEnv [.agg #[.bool a_0, .int .u64 a_1, .int .u64 a_2, .string a_3, .string a_4, .int .i64 a_5, .int .i64 a_6], .agg #[.bool b_0, .int .u64 b_1, .int .u64 b_2, .string b_3, .string b_4, .int .i64 b_5, .int .i64 b_6]]) h := by kernel_rfl
theorem regs_Table_All_1.walk {a_0 : Bool} {a_1 : Int} {a_2 : Int} {a_3 : ByteArray} {a_4 : ByteArray} {a_5 : Int} {a_6 : Int} {b_0 : Bool} {b_1 : Int} {b_2 : Int} {b_3 : ByteArray} {b_4 : ByteArray} {b_5 : Int} {b_6 : Int} {h : Heap} {R : Value → Heap → Prop} (hv : regs_Table_All_1.vc a_0 a_1 a_2 a_3 a_4 a_5 a_6 b_0 b_1 b_2 b_3 b_4 b_5 b_6 h R) : CallsH Tryd.prog F.regs_Table_All_1 #[.agg #[.bool a_0, .int .u64 a_1, .int .u64 a_2, .string a_3, .string a_4, .int .i64 a_5, .int .i64 a_6], .agg #[.bool b_0, .int .u64 b_1, .int .u64 b_2, .string b_3, .string b_4, .int .i64 b_5, .int .i64 b_6]] h R :=
  callsH_of_body _ Tryd.func34 rfl rfl (Eq.mp (regs_Table_All_1.den_eq a_0 a_1 a_2 a_3 a_4 a_5 a_6 b_0 b_1 b_2 b_3 b_4 b_5 b_6 h R) hv)

def slices_SortFunc_s_regs_Reg_regs_Reg.reg.vc (x_p : Option Addr) (x_l x_c : Nat) (h : Heap) (R : Value → Heap → Prop) : Prop :=
  CallsH Tryd.prog F.math_bits_Len #[.int .u64 (IntKind.wrap .u64 ((x_l : Nat) : Int))] h fun v h_1 =>
  ∃ (t11 : Int), v = .int .i64 t11 ∧
  CallsH Tryd.prog F.slices_pdqsortCmpFunc_regs_Reg #[.slice x_p x_l x_c, .int .i64 0, .int .i64 ((x_l : Nat) : Int), .int .i64 t11, .func (.func F.regs_Table_All_1) #[] #[]] h_1 fun v_1 h_2 =>
  v_1 = .tuple #[] ∧
  R (.tuple #[]) h_2
theorem slices_SortFunc_s_regs_Reg_regs_Reg.reg.den_eq (x_p : Option Addr) (x_l x_c : Nat) (h : Heap) (R : Value → Heap → Prop) : slices_SortFunc_s_regs_Reg_regs_Reg.reg.vc x_p x_l x_c h R = den Tryd.prog Tryd.f33.ntmps (.seq .leaf .leaf) none (bodyOf Tryd.f33) (retK Tryd.prog Tryd.f33.results R) (argEnv [.slice x_p x_l x_c, .func (.func F.regs_Table_All_1) #[] #[]]) h := by kernel_rfl
theorem slices_SortFunc_s_regs_Reg_regs_Reg.reg.walk {x_p : Option Addr} {x_l x_c : Nat} {h : Heap} {R : Value → Heap → Prop} (hv : slices_SortFunc_s_regs_Reg_regs_Reg.reg.vc x_p x_l x_c h R) : CallsH Tryd.prog F.slices_SortFunc_s_regs_Reg_regs_Reg #[.slice x_p x_l x_c, .func (.func F.regs_Table_All_1) #[] #[]] h R :=
  callsH_of_body _ Tryd.func33 rfl rfl (Eq.mp (slices_SortFunc_s_regs_Reg_regs_Reg.reg.den_eq x_p x_l x_c h R) hv)

def slices_pdqsortCmpFunc_regs_Reg.reg.vc (data_p : Option Addr) (data_l data_c : Nat) (a : Int) (b : Int) (limit : Int) (h : Heap) (R : Value → Heap → Prop) : Prop :=
  ∃ (I : Int → Int → Int → Bool → Bool → Heap → Prop) (mu : Int → Int → Int → Bool → Bool → Heap → Nat), I a b limit true true h ∧ ∀ (a_1 : Int) (b_1 : Int) (limit_1 : Int) (wasBalanced : Bool) (wasPartitioned : Bool) (h_1 : Heap), I a_1 b_1 limit_1 wasBalanced wasPartitioned h_1 →
    JoinP (fun (a_2 : Int) (b_2 : Int) (limit_2 : Int) (wasBalanced_1 : Bool) (wasPartitioned_1 : Bool) (h_2 : Heap) =>
      (I a_2 b_2 limit_2 wasBalanced_1 wasPartitioned_1 h_2 ∧ mu a_2 b_2 limit_2 wasBalanced_1 wasPartitioned_1 h_2 < mu a_1 b_1 limit_1 wasBalanced wasPartitioned h_1))
    (fun J =>
      if (decide ((IntKind.wrap .i64 (b_1 - a_1)) ≤ 12)) = true then
        CallsH Tryd.prog F.slices_insertionSortCmpFunc_regs_Reg #[.slice data_p data_l data_c, .int .i64 a_1, .int .i64 b_1, .func (.func F.regs_Table_All_1) #[] #[]] h_1 fun v h_3 =>
        v = .tuple #[] ∧
        R (.tuple #[]) h_3
      else
        if (limit_1 == 0) = true then
          CallsH Tryd.prog F.slices_heapSortCmpFunc_regs_Reg #[.slice data_p data_l data_c, .int .i64 a_1, .int .i64 b_1, .func (.func F.regs_Table_All_1) #[] #[]] h_1 fun v_1 h_4 =>
          v_1 = .tuple #[] ∧
          R (.tuple #[]) h_4
        else
          JoinP (fun (limit_3 : Int) (h_5 : Heap) =>
            CallsH Tryd.prog F.slices_choosePivotCmpFunc_regs_Reg #[.slice data_p data_l data_c, .int .i64 a_1, .int .i64 b_1, .func (.func F.regs_Table_All_1) #[] #[]] h_5 fun v_2 h_6 =>
            ∃ (t52_0 : Int), ∃ (t52_1 : Int), v_2 = .tuple #[.int .i64 t52_0, .int .i64 t52_1] ∧
            JoinP (fun (pivot : Int) (hint : Int) (h_7 : Heap) =>
              JoinP (fun (t75 : Bool) (h_8 : Heap) =>
                JoinP (fun (h_9 : Heap) =>
                  JoinP (fun (t97 : Bool) (h_10 : Heap) =>
                    if t97 = true then
                      CallsH Tryd.prog F.slices_partitionEqualCmpFunc_regs_Reg #[.slice data_p data_l data_c, .int .i64 a_1, .int .i64 b_1, .int .i64 pivot, .func (.func F.regs_Table_All_1) #[] #[]] h_10 fun v_3 h_11 =>
                      ∃ (t103 : Int), v_3 = .int .i64 t103 ∧
                      J t103 b_1 limit_3 wasBalanced wasPartitioned h_11
                    else
                      CallsH Tryd.prog F.slices_partitionCmpFunc_regs_Reg #[.slice data_p data_l data_c, .int .i64 a_1, .int .i64 b_1, .int .i64 pivot, .func (.func F.regs_Table_All_1) #[] #[]] h_10 fun v_4 h_12 =>
                      ∃ (t111_0 : Int), ∃ (t111_1 : Bool), v_4 = .tuple #[.int .i64 t111_0, .bool t111_1] ∧
                      JoinP (fun (a_3 : Int) (b_3 : Int) (wasBalanced_2 : Bool) (h_13 : Heap) =>
                        J a_3 b_3 limit_3 wasBalanced_2 t111_1 h_13)
                      (fun J_6 =>
                        if (decide ((IntKind.wrap .i64 (t111_0 - a_1)) < (IntKind.wrap .i64 (b_1 - t111_0)))) = true then
                          CallsH Tryd.prog F.slices_pdqsortCmpFunc_regs_Reg #[.slice data_p data_l data_c, .int .i64 a_1, .int .i64 t111_0, .int .i64 limit_3, .func (.func F.regs_Table_All_1) #[] #[]] h_12 fun v_5 h_14 =>
                          v_5 = .tuple #[] ∧
                          J_6 (IntKind.wrap .i64 (t111_0 + 1)) b_1 (decide ((IntKind.wrap .i64 (t111_0 - a_1)) ≥ (IntKind.wrap .i64 (Int.tdiv (IntKind.wrap .i64 (b_1 - a_1)) 8)))) h_14
                        else
                          CallsH Tryd.prog F.slices_pdqsortCmpFunc_regs_Reg #[.slice data_p data_l data_c, .int .i64 (IntKind.wrap .i64 (t111_0 + 1)), .int .i64 b_1, .int .i64 limit_3, .func (.func F.regs_Table_All_1) #[] #[]] h_12 fun v_6 h_15 =>
                          v_6 = .tuple #[] ∧
                          J_6 a_1 t111_0 (decide ((IntKind.wrap .i64 (b_1 - t111_0)) ≥ (IntKind.wrap .i64 (Int.tdiv (IntKind.wrap .i64 (b_1 - a_1)) 8)))) h_15))
                  (fun J_5 =>
                    if (decide (a_1 > 0)) = true then
                      ((0 : Int) ≤ IntKind.wrap .i64 (a_1 - 1) ∧ IntKind.wrap .i64 (a_1 - 1) < ((data_l : Nat) : Int)) ∧
                      onSome data_p fun a_4 =>
                      regs_Reg.LD h_9 (a_4.add (Int.toNat (IntKind.wrap .i64 (a_1 - 1)) * 7)) fun t89_0 t89_1 t89_2 t89_3 t89_4 t89_5 t89_6 =>
                      ((0 : Int) ≤ pivot ∧ pivot < ((data_l : Nat) : Int)) ∧
                      onSome data_p fun a_5 =>
                      regs_Reg.LD h_9 (a_5.add (Int.toNat pivot * 7)) fun t93_0 t93_1 t93_2 t93_3 t93_4 t93_5 t93_6 =>
                      CallsH Tryd.prog F.regs_Table_All_1 #[.agg #[.bool t89_0, .int .u64 t89_1, .int .u64 t89_2, .string t89_3, .string t89_4, .int .i64 t89_5, .int .i64 t89_6], .agg #[.bool t93_0, .int .u64 t93_1, .int .u64 t93_2, .string t93_3, .string t93_4, .int .i64 t93_5, .int .i64 t93_6]] h_9 fun v_7 h_16 =>
                      ∃ (t94 : Int), v_7 = .int .i64 t94 ∧
                      J_5 (!(decide (t94 < 0))) h_16
                    else
                      J_5 false h_9))
                (fun J_4 =>
                  if t75 = true then
                    CallsH Tryd.prog F.slices_partialInsertionSortCmpFunc_regs_Reg #[.slice data_p data_l data_c, .int .i64 a_1, .int .i64 b_1, .func (.func F.regs_Table_All_1) #[] #[]] h_8 fun v_8 h_17 =>
                    ∃ (t80 : Bool), v_8 = .bool t80 ∧
                    if t80 = true then
                      R (.tuple #[]) h_17
                    else
                      J_4 h_17
                  else
                    J_4 h_8))
              (fun J_3 =>
                if wasBalanced = true then
                  if wasPartitioned = true then
                    J_3 (hint == 1) h_7
                  else
                    J_3 false h_7
                else
                  J_3 false h_7))
            (fun J_2 =>
              if (t52_1 == 2) = true then
                CallsH Tryd.prog F.slices_reverseRangeCmpFunc_regs_Reg #[.slice data_p data_l data_c, .int .i64 a_1, .int .i64 b_1, .func (.func F.regs_Table_All_1) #[] #[]] h_6 fun v_9 h_18 =>
                v_9 = .tuple #[] ∧
                J_2 (IntKind.wrap .i64 ((IntKind.wrap .i64 (b_1 - 1)) - (IntKind.wrap .i64 (t52_0 - a_1)))) 1 h_18
              else
                J_2 t52_0 t52_1 h_6))
          (fun J_1 =>
            if (!wasBalanced) = true then
              CallsH Tryd.prog F.slices_breakPatternsCmpFunc_regs_Reg #[.slice data_p data_l data_c, .int .i64 a_1, .int .i64 b_1, .func (.func F.regs_Table_All_1) #[] #[]] h_1 fun v_10 h_19 =>
              v_10 = .tuple #[] ∧
              J_1 (IntKind.wrap .i64 (limit_1 - 1)) h_19
            else
              J_1 limit_1 h_1))
theorem slices_pdqsortCmpFunc_regs_Reg.reg.den_eq (data_p : Option Addr) (data_l data_c : Nat) (a : Int) (b : Int) (limit : Int) (h : Heap) (R : Value → Heap → Prop) : slices_pdqsortCmpFunc_regs_Reg.reg.vc data_p data_l data_c a b limit h R = den Tryd.prog Tryd.f45.ntmps (.seq .leaf (.seq .leaf (.block (.loop [(1, .one (.int .i64)), (2, .one (.int .i64)), (3, .one (.int .i64)), (10, .one (.bool)), (11, .one (.bool))] (.join [(1, .one (.int .i64)), (2, .one (.int .i64)), (3, .one (.int .i64)), (10, .one (.bool)), (11, .one (.bool))] (.block (.seq .leaf (.seq (.seq .leaf (.cond (.seq .leaf .leaf) .leaf)) (.seq (.seq .leaf (.cond (.seq .leaf .leaf) .leaf)) (.seq (.seq .leaf (.join [(3, .one (.int .i64))] (.cond (.seq .leaf .leaf) .leaf))) (.seq .leaf (.seq (.seq .leaf (.join [(13, .one (.int .i64)), (14, .one (.int .i64))] (.cond (.seq .leaf (.seq .leaf .leaf)) .leaf))) (.seq (.seq (.join [(75, .one (.bool))] .leaf) (.join [] (.cond (.seq .leaf (.cond .leaf .leaf)) .leaf))) (.seq (.seq (.join [(97, .one (.bool))] (.plan (.op 0 (.op 1 (.op 2 (.op 3 (.op 4 (.op 5 (.op 6 (.op 7 (.op 8 (.op 9 (.op 10 (.op 11 (.op 12 (.op 13 (.op 14 (.op 15 (.op 16 .done))))))))))))))))))) (.cond (.seq .leaf (.seq .leaf .leaf)) .leaf)) (.seq .leaf (.seq .leaf (.seq .leaf (.seq .leaf (.seq .leaf (.join [(1, .one (.int .i64)), (2, .one (.int .i64)), (10, .one (.bool))] (.cond (.seq .leaf (.seq .leaf .leaf)) (.seq .leaf (.seq .leaf .leaf))))))))))))))))))))))) none (bodyOf Tryd.f45) (retK Tryd.prog Tryd.f45.results R) (argEnv [.slice data_p data_l data_c, .int .i64 a, .int .i64 b, .int .i64 limit, .func (.func F.regs_Table_All_1) #[] #[]]) h := by kernel_rfl
theorem slices_pdqsortCmpFunc_regs_Reg.reg.walk {data_p : Option Addr} {data_l data_c : Nat} {a : Int} {b : Int} {limit : Int} {h : Heap} {R : Value → Heap → Prop} (hv : slices_pdqsortCmpFunc_regs_Reg.reg.vc data_p data_l data_c a b limit h R) : CallsH Tryd.prog F.slices_pdqsortCmpFunc_regs_Reg #[.slice data_p data_l data_c, .int .i64 a, .int .i64 b, .int .i64 limit, .func (.func F.regs_Table_All_1) #[] #[]] h R :=
  callsH_of_body _ Tryd.func45 rfl rfl (Eq.mp (slices_pdqsortCmpFunc_regs_Reg.reg.den_eq data_p data_l data_c a b limit h R) hv)

def slices_insertionSortCmpFunc_regs_Reg.reg.vc (data_p : Option Addr) (data_l data_c : Nat) (a : Int) (b : Int) (h : Heap) (R : Value → Heap → Prop) : Prop :=
  ∃ (I : Int → Heap → Prop) (mu : Int → Heap → Nat), I (IntKind.wrap .i64 (a + 1)) h ∧ ∀ (i : Int) (h_1 : Heap), I i h_1 →
    if (decide (i < b)) = true then
      ∃ (I_1 : Int → Heap → Prop) (mu_1 : Int → Heap → Nat), I_1 i h_1 ∧ ∀ (j : Int) (h_2 : Heap), I_1 j h_2 →
        JoinP (fun (t34 : Bool) (h_3 : Heap) =>
          if t34 = true then
            ((0 : Int) ≤ IntKind.wrap .i64 (j - 1) ∧ IntKind.wrap .i64 (j - 1) < ((data_l : Nat) : Int)) ∧
            onSome data_p fun a_1 =>
            regs_Reg.LD h_3 (a_1.add (Int.toNat (IntKind.wrap .i64 (j - 1)) * 7)) fun t46_0 t46_1 t46_2 t46_3 t46_4 t46_5 t46_6 =>
            ((0 : Int) ≤ j ∧ j < ((data_l : Nat) : Int)) ∧
            onSome data_p fun a_2 =>
            regs_Reg.LD h_3 (a_2.add (Int.toNat j * 7)) fun t50_0 t50_1 t50_2 t50_3 t50_4 t50_5 t50_6 =>
            ((0 : Int) ≤ j ∧ j < ((data_l : Nat) : Int)) ∧
            onSome data_p fun a_3 =>
            regs_Reg.ST h_3 (a_3.add (Int.toNat j * 7)) t46_0 t46_1 t46_2 t46_3 t46_4 t46_5 t46_6 fun h_4 =>
            ((0 : Int) ≤ IntKind.wrap .i64 (j - 1) ∧ IntKind.wrap .i64 (j - 1) < ((data_l : Nat) : Int)) ∧
            onSome data_p fun a_4 =>
            regs_Reg.ST h_4 (a_4.add (Int.toNat (IntKind.wrap .i64 (j - 1)) * 7)) t50_0 t50_1 t50_2 t50_3 t50_4 t50_5 t50_6 fun h_5 =>
            (I_1 (IntKind.wrap .i64 (j - 1)) h_5 ∧ mu_1 (IntKind.wrap .i64 (j - 1)) h_5 < mu_1 j h_2)
          else
            (I (IntKind.wrap .i64 (i + 1)) h_3 ∧ mu (IntKind.wrap .i64 (i + 1)) h_3 < mu i h_1))
        (fun J =>
          if (decide (j > a)) = true then
            ((0 : Int) ≤ j ∧ j < ((data_l : Nat) : Int)) ∧
            onSome data_p fun a_5 =>
            regs_Reg.LD h_2 (a_5.add (Int.toNat j * 7)) fun t26_0 t26_1 t26_2 t26_3 t26_4 t26_5 t26_6 =>
            ((0 : Int) ≤ IntKind.wrap .i64 (j - 1) ∧ IntKind.wrap .i64 (j - 1) < ((data_l : Nat) : Int)) ∧
            onSome data_p fun a_6 =>
            regs_Reg.LD h_2 (a_6.add (Int.toNat (IntKind.wrap .i64 (j - 1)) * 7)) fun t31_0 t31_1 t31_2 t31_3 t31_4 t31_5 t31_6 =>
            CallsH Tryd.prog F.regs_Table_All_1 #[.agg #[.bool t26_0, .int .u64 t26_1, .int .u64 t26_2, .string t26_3, .string t26_4, .int .i64 t26_5, .int .i64 t26_6], .agg #[.bool t31_0, .int .u64 t31_1, .int .u64 t31_2, .string t31_3, .string t31_4, .int .i64 t31_5, .int .i64 t31_6]] h_2 fun v h_6 =>
            ∃ (t32 : Int), v = .int .i64 t32 ∧
            J (decide (t32 < 0)) h_6
          else
            J false h_2)
    else
      R (.tuple #[]) h_1
theorem slices_insertionSortCmpFunc_regs_Reg.reg.den_eq (data_p : Option Addr) (data_l data_c : Nat) (a : Int) (b : Int) (h : Heap) (R : Value → Heap → Prop) : slices_insertionSortCmpFunc_regs_Reg.reg.vc data_p data_l data_c a b h R = den Tryd.prog Tryd.f53.ntmps (.seq .leaf (.block (.loop [(8, .one (.int .i64))] (.seq (.seq .leaf (.cond .leaf .leaf)) (.seq (.block (.seq .leaf (.block (.loop [(9, .one (.int .i64))] (.seq (.seq (.join [(34, .one (.bool))] (.plan (.op 0 (.op 1 (.op 2 (.op 3 (.op 4 (.op 5 (.op 6 (.op 7 (.op 8 (.op 9 (.op 10 (.op 11 (.op 12 (.op 13 (.op 14 (.op 15 (.op 16 .done))))))))))))))))))) (.cond .leaf .leaf)) (.seq (.block (.plan (.op 0 (.op 1 (.op 2 (.op 3 (.op 4 (.op 5 (.op 6 (.op 7 (.op 8 (.op 9 (.op 10 (.op 11 (.op 12 (.op 13 (.op 14 (.op 15 (.op 16 (.op 17 .done)))))))))))))))))))) .leaf)))))) .leaf))))) none (bodyOf Tryd.f53) (retK Tryd.prog Tryd.f53.results R) (argEnv [.slice data_p data_l data_c, .int .i64 a, .int .i64 b, .func (.func F.regs_Table_All_1) #[] #[]]) h := by kernel_rfl
theorem slices_insertionSortCmpFunc_regs_Reg.reg.walk {data_p : Option Addr} {data_l data_c : Nat} {a : Int} {b : Int} {h : Heap} {R : Value → Heap → Prop} (hv : slices_insertionSortCmpFunc_regs_Reg.reg.vc data_p data_l data_c a b h R) : CallsH Tryd.prog F.slices_insertionSortCmpFunc_regs_Reg #[.slice data_p data_l data_c, .int .i64 a, .int .i64 b, .func (.func F.regs_Table_All_1) #[] #[]] h R :=
  callsH_of_body _ Tryd.func53 rfl rfl (Eq.mp (slices_insertionSortCmpFunc_regs_Reg.reg.den_eq data_p data_l data_c a b h R) hv)

end Go.Proofs.YtgccegnmggjkjaaDoor
