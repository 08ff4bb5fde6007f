/-
  Printed by a program of this work (vc.py): the verification conditions of functions, and that each is enough for the call. No condition.
-/
import Derived.Test.YtgccegnmggjkjaaDoorNames
set_option maxRecDepth 100000
set_option maxHeartbeats 4000000
namespace Go.Proofs.YtgccegnmggjkjaaDoor
open Go.Den
def law22_home.vc  (h : Heap) (R : Value → Heap → Prop) : Prop :=
  NewP h (.cells #[.bool false, .int .u64 0, .int .u64 0, .string (⟨#[]⟩ : ByteArray), .string (⟨#[]⟩ : ByteArray)] T.eid_Eid) fun b h_1 =>
  eid_Eid.ST h_1 ⟨b, 0, none⟩ true 7 1 (⟨#[]⟩ : ByteArray) (⟨#[]⟩ : ByteArray) fun h_2 =>
  eid_Eid.LD h_2 ⟨b, 0, none⟩ fun r_0 r_1 r_2 r_3 r_4 =>
  R (.agg #[.bool r_0, .int .u64 r_1, .int .u64 r_2, .string r_3, .string r_4]) h_2
theorem law22_home.den_eq  (h : Heap) (R : Value → Heap → Prop) : law22_home.vc h R = den Tryd.prog Tryd.f17.ntmps (.seq .leaf (.seq .leaf .leaf)) none (bodyOf Tryd.f17) (retK Tryd.prog Tryd.f17.results R) (argEnv []) h := by kernel_rfl
theorem law22_home.walk  {h : Heap} {R : Value → Heap → Prop} (hv : law22_home.vc h R) : CallsH Tryd.prog F.law22_home #[] h R :=
  callsH_of_body _ Tryd.func17 rfl rfl (Eq.mp (law22_home.den_eq h R) hv)

def law22_as.vc (r_0 : Bool) (r_1 : Int) (r_2 : Int) (r_3 : ByteArray) (r_4 : ByteArray) (r_5 : Int) (r_6 : Int) (h : Heap) (R : Value → Heap → Prop) : Prop :=
  NewP h (.cells #[.bool r_0, .int .u64 r_1, .int .u64 r_2, .string r_3, .string r_4, .int .i64 r_5, .int .i64 r_6] T.regs_Reg) fun b h_1 =>
  NewP h_1 (.cells #[.bool false, .int .u64 0, .int .u64 0, .string (⟨#[]⟩ : ByteArray), .string (⟨#[]⟩ : ByteArray), .int .i64 0, .int .i64 0] T.ref22_Reg) fun b_1 h_2 =>
  eid_Eid.LD h_2 ⟨b, 0, none⟩ fun t4_0 t4_1 t4_2 t4_3 t4_4 =>
  ∃ (t7 : Int), hcell h_2 ⟨b, 5, none⟩ = some (.int .i64 t7) ∧
  ∃ (t9 : Int), hcell h_2 ⟨b, 6, none⟩ = some (.int .i64 t9) ∧
  CallsH Tryd.prog F.law04_As #[.agg #[.bool t4_0, .int .u64 t4_1, .int .u64 t4_2, .string t4_3, .string t4_4]] h_2 fun v h_3 =>
  ∃ (t5_0 : Bool), ∃ (t5_1 : Int), ∃ (t5_2 : Int), ∃ (t5_3 : ByteArray), ∃ (t5_4 : ByteArray), v = .agg #[.bool t5_0, .int .u64 t5_1, .int .u64 t5_2, .string t5_3, .string t5_4] ∧
  hcell h_3 ⟨b, 6, none⟩ = some (.int .i64 t9) ∧
  hcell h_3 ⟨b, 5, none⟩ = some (.int .i64 t7) ∧
  ref22_Reg.ST h_3 ⟨b_1, 0, none⟩ t5_0 t5_1 t5_2 t5_3 t5_4 t7 t9 fun h_4 =>
  ref22_Reg.LD h_4 ⟨b_1, 0, none⟩ fun r_0_1 r_1_1 r_2_1 r_3_1 r_4_1 r_5_1 r_6_1 =>
  R (.agg #[.bool r_0_1, .int .u64 r_1_1, .int .u64 r_2_1, .string r_3_1, .string r_4_1, .int .i64 r_5_1, .int .i64 r_6_1]) h_4
theorem law22_as.den_eq (r_0 : Bool) (r_1 : Int) (r_2 : Int) (r_3 : ByteArray) (r_4 : ByteArray) (r_5 : Int) (r_6 : Int) (h : Heap) (R : Value → Heap → Prop) : law22_as.vc r_0 r_1 r_2 r_3 r_4 r_5 r_6 h R = den Tryd.prog Tryd.f16.ntmps (.seq .leaf (.seq (.plan (.op 0 (.op 1 (.op 3 (.op 4 (.op 5 (.op 6 (.op 2 (.op 7 (.op 8 .done)))))))))) .leaf)) none (bodyOf Tryd.f16) (retK Tryd.prog Tryd.f16.results R) (argEnv [.agg #[.bool r_0, .int .u64 r_1, .int .u64 r_2, .string r_3, .string r_4, .int .i64 r_5, .int .i64 r_6]]) h := by kernel_rfl
theorem law22_as.walk {r_0 : Bool} {r_1 : Int} {r_2 : Int} {r_3 : ByteArray} {r_4 : ByteArray} {r_5 : Int} {r_6 : Int} {h : Heap} {R : Value → Heap → Prop} (hv : law22_as.vc r_0 r_1 r_2 r_3 r_4 r_5 r_6 h R) : CallsH Tryd.prog F.law22_as #[.agg #[.bool r_0, .int .u64 r_1, .int .u64 r_2, .string r_3, .string r_4, .int .i64 r_5, .int .i64 r_6]] h R :=
  callsH_of_body _ Tryd.func16 rfl rfl (Eq.mp (law22_as.den_eq r_0 r_1 r_2 r_3 r_4 r_5 r_6 h R) hv)

def law22_alive.vc  (h : Heap) (R : Value → Heap → Prop) : Prop :=
  CallsH Tryd.prog F.regs_New #[] h fun v h_1 =>
  ∃ (t9 : Option Addr), v = .pointer t9 ∧
  CallsH Tryd.prog F.law22_home #[] h_1 fun v_1 h_2 =>
  ∃ (t11_0 : Bool), ∃ (t11_1 : Int), ∃ (t11_2 : Int), ∃ (t11_3 : ByteArray), ∃ (t11_4 : ByteArray), v_1 = .agg #[.bool t11_0, .int .u64 t11_1, .int .u64 t11_2, .string t11_3, .string t11_4] ∧
  CallsH Tryd.prog F.regs_Table_Add #[.pointer t9, .agg #[.bool t11_0, .int .u64 t11_1, .int .u64 t11_2, .string t11_3, .string t11_4, .int .i64 1, .int .i64 3]] h_2 fun v_2 h_3 =>
  ∃ (t13 : Int), v_2 = .int .i64 t13 ∧
  CallsH Tryd.prog F.law22_home #[] h_3 fun v_3 h_4 =>
  ∃ (t15_0 : Bool), ∃ (t15_1 : Int), ∃ (t15_2 : Int), ∃ (t15_3 : ByteArray), ∃ (t15_4 : ByteArray), v_3 = .agg #[.bool t15_0, .int .u64 t15_1, .int .u64 t15_2, .string t15_3, .string t15_4] ∧
  CallsH Tryd.prog F.regs_Table_Add #[.pointer t9, .agg #[.bool t15_0, .int .u64 t15_1, .int .u64 t15_2, .string t15_3, .string t15_4, .int .i64 0, .int .i64 4]] h_4 fun v_4 h_5 =>
  ∃ (t17 : Int), v_4 = .int .i64 t17 ∧
  CallsH Tryd.prog F.law22_home #[] h_5 fun v_5 h_6 =>
  ∃ (t19_0 : Bool), ∃ (t19_1 : Int), ∃ (t19_2 : Int), ∃ (t19_3 : ByteArray), ∃ (t19_4 : ByteArray), v_5 = .agg #[.bool t19_0, .int .u64 t19_1, .int .u64 t19_2, .string t19_3, .string t19_4] ∧
  CallsH Tryd.prog F.regs_Table_Policy #[.pointer t9, .agg #[.bool t19_0, .int .u64 t19_1, .int .u64 t19_2, .string t19_3, .string t19_4], .int .i64 4, .int .i64 2] h_6 fun v_6 h_7 =>
  ∃ (t20 : Int), v_6 = .int .i64 t20 ∧
  CallsH Tryd.prog F.law22_home #[] h_7 fun v_7 h_8 =>
  ∃ (t22_0 : Bool), ∃ (t22_1 : Int), ∃ (t22_2 : Int), ∃ (t22_3 : ByteArray), ∃ (t22_4 : ByteArray), v_7 = .agg #[.bool t22_0, .int .u64 t22_1, .int .u64 t22_2, .string t22_3, .string t22_4] ∧
  CallsH Tryd.prog F.regs_Table_Policy #[.pointer t9, .agg #[.bool t22_0, .int .u64 t22_1, .int .u64 t22_2, .string t22_3, .string t22_4], .int .i64 3, .int .i64 2] h_8 fun v_8 h_9 =>
  ∃ (t23 : Int), v_8 = .int .i64 t23 ∧
  CallsH Tryd.prog F.law22_home #[] h_9 fun v_9 h_10 =>
  ∃ (t26_0 : Bool), ∃ (t26_1 : Int), ∃ (t26_2 : Int), ∃ (t26_3 : ByteArray), ∃ (t26_4 : ByteArray), v_9 = .agg #[.bool t26_0, .int .u64 t26_1, .int .u64 t26_2, .string t26_3, .string t26_4] ∧
  CallsH Tryd.prog F.regs_Table_Find #[.pointer t9, .agg #[.bool t26_0, .int .u64 t26_1, .int .u64 t26_2, .string t26_3, .string t26_4]] h_10 fun v_10 h_11 =>
  ∃ (t27_0_0 : Bool), ∃ (t27_0_1 : Int), ∃ (t27_0_2 : Int), ∃ (t27_0_3 : ByteArray), ∃ (t27_0_4 : ByteArray), ∃ (t27_0_5 : Int), ∃ (t27_0_6 : Int), ∃ (t27_1 : Bool), v_10 = .tuple #[.agg #[.bool t27_0_0, .int .u64 t27_0_1, .int .u64 t27_0_2, .string t27_0_3, .string t27_0_4, .int .i64 t27_0_5, .int .i64 t27_0_6], .bool t27_1] ∧
  NewP h_11 (.cells #[.bool false, .int .u64 0, .int .u64 0, .string (⟨#[]⟩ : ByteArray), .string (⟨#[]⟩ : ByteArray), .int .i64 0, .int .i64 0] T.regs_Reg) fun b h_12 =>
  regs_Reg.ST h_12 ⟨b, 0, none⟩ t27_0_0 t27_0_1 t27_0_2 t27_0_3 t27_0_4 t27_0_5 t27_0_6 fun h_13 =>
  CallsH Tryd.prog F.law22_home #[] h_13 fun v_11 h_14 =>
  ∃ (t31_0 : Bool), ∃ (t31_1 : Int), ∃ (t31_2 : Int), ∃ (t31_3 : ByteArray), ∃ (t31_4 : ByteArray), v_11 = .agg #[.bool t31_0, .int .u64 t31_1, .int .u64 t31_2, .string t31_3, .string t31_4] ∧
  CallsH Tryd.prog F.regs_Table_Remove #[.pointer t9, .agg #[.bool t31_0, .int .u64 t31_1, .int .u64 t31_2, .string t31_3, .string t31_4], .int .i64 3] h_14 fun v_12 h_15 =>
  ∃ (t32 : Int), v_12 = .int .i64 t32 ∧
  if (t13 == 0) = true then
    if (t17 == 11) = true then
      if (t20 == 13) = true then
        if (t23 == 0) = true then
          ∃ (t49 : Int), hcell h_15 ⟨b, 5, none⟩ = some (.int .i64 t49) ∧
          if (t49 == 2) = true then
            if t27_1 = true then
              if (t32 == 0) = true then
                CallsH Tryd.prog F.law22_home #[] h_15 fun v_13 h_16 =>
                ∃ (t61_0 : Bool), ∃ (t61_1 : Int), ∃ (t61_2 : Int), ∃ (t61_3 : ByteArray), ∃ (t61_4 : ByteArray), v_13 = .agg #[.bool t61_0, .int .u64 t61_1, .int .u64 t61_2, .string t61_3, .string t61_4] ∧
                CallsH Tryd.prog F.regs_Table_Remove #[.pointer t9, .agg #[.bool t61_0, .int .u64 t61_1, .int .u64 t61_2, .string t61_3, .string t61_4], .int .i64 3] h_16 fun v_14 h_17 =>
                ∃ (t62 : Int), v_14 = .int .i64 t62 ∧
                if (t62 == 4) = true then
                  CallsH Tryd.prog F.regs_Table_Add #[.pointer t9, .agg #[.bool false, .int .u64 0, .int .u64 0, .string (⟨#[]⟩ : ByteArray), .string (⟨#[]⟩ : ByteArray), .int .i64 0, .int .i64 0]] h_17 fun v_15 h_18 =>
                  ∃ (t68 : Int), v_15 = .int .i64 t68 ∧
                  R (.bool (t68 == 1)) h_18
                else
                  R (.bool false) h_17
              else
                R (.bool false) h_15
            else
              R (.bool false) h_15
          else
            R (.bool false) h_15
        else
          R (.bool false) h_15
      else
        R (.bool false) h_15
    else
      R (.bool false) h_15
  else
    R (.bool false) h_15
theorem law22_alive.den_eq  (h : Heap) (R : Value → Heap → Prop) : law22_alive.vc h R = den Tryd.prog Tryd.f5.ntmps (.seq .leaf (.seq .leaf (.seq .leaf (.seq .leaf (.seq .leaf (.seq .leaf (.seq .leaf (.seq .leaf (.seq .leaf .leaf))))))))) none (bodyOf Tryd.f5) (retK Tryd.prog Tryd.f5.results R) (argEnv []) h := by kernel_rfl
theorem law22_alive.walk  {h : Heap} {R : Value → Heap → Prop} (hv : law22_alive.vc h R) : CallsH Tryd.prog F.law22_alive #[] h R :=
  callsH_of_body _ Tryd.func5 rfl rfl (Eq.mp (law22_alive.den_eq h R) hv)

def law22_Same.vc (t : Nat) (x : Nat) (h : Heap) (R : Value → Heap → Prop) : Prop :=
  CallsH Tryd.prog F.regs_Table_All #[.pointer (some ⟨t, 0, none⟩)] h fun v h_1 =>
  ∃ (t8_p : Option Addr) (t8_l t8_c : Nat), v = .slice t8_p t8_l t8_c ∧
  ∃ (t14_p : Option Addr) (t14_l t14_c : Nat), hcell h_1 ⟨x, 0, none⟩ = some (.slice t14_p t14_l t14_c) ∧
  if (((t8_l : Nat) : Int) != ((t14_l : Nat) : Int)) = true then
    R (.bool false) h_1
  else
    ∃ (I : Int → Heap → Prop) (mu : Int → Heap → Nat), I 0 h_1 ∧ ∀ (i : Int) (h_2 : Heap), I i h_2 →
      if (decide (i < ((t8_l : Nat) : Int))) = true then
        ((0 : Int) ≤ i ∧ i < ((t8_l : Nat) : Int)) ∧
        onSome t8_p fun a =>
        regs_Reg.LD h_2 (a.add (Int.toNat i * 7)) fun t26_0 t26_1 t26_2 t26_3 t26_4 t26_5 t26_6 =>
        ∃ (t31_p : Option Addr) (t31_l t31_c : Nat), hcell h_2 ⟨x, 0, none⟩ = some (.slice t31_p t31_l t31_c) ∧
        ((0 : Int) ≤ i ∧ i < ((t31_l : Nat) : Int)) ∧
        onSome t31_p fun a_1 =>
        ref22_Reg.LD h_2 (a_1.add (Int.toNat i * 7)) fun t34_0 t34_1 t34_2 t34_3 t34_4 t34_5 t34_6 =>
        CallsH Tryd.prog F.law22_as #[.agg #[.bool t26_0, .int .u64 t26_1, .int .u64 t26_2, .string t26_3, .string t26_4, .int .i64 t26_5, .int .i64 t26_6]] h_2 fun v_1 h_3 =>
        ∃ (t27_0 : Bool), ∃ (t27_1 : Int), ∃ (t27_2 : Int), ∃ (t27_3 : ByteArray), ∃ (t27_4 : ByteArray), ∃ (t27_5 : Int), ∃ (t27_6 : Int), v_1 = .agg #[.bool t27_0, .int .u64 t27_1, .int .u64 t27_2, .string t27_3, .string t27_4, .int .i64 t27_5, .int .i64 t27_6] ∧
        heldL (a_1.add (Int.toNat i * 7)) [.bool t34_0, .int .u64 t34_1, .int .u64 t34_2, .string t34_3, .string t34_4, .int .i64 t34_5, .int .i64 t34_6] 0 h_3 ∧
        hcell h_3 ⟨x, 0, none⟩ = some (.slice t31_p t31_l t31_c) ∧
        ∃ (eq : Bool), EqV Tryd.prog T.ref22_Reg (.agg #[.bool t27_0, .int .u64 t27_1, .int .u64 t27_2, .string t27_3, .string t27_4, .int .i64 t27_5, .int .i64 t27_6]) (.agg #[.bool t34_0, .int .u64 t34_1, .int .u64 t34_2, .string t34_3, .string t34_4, .int .i64 t34_5, .int .i64 t34_6]) eq ∧
        if (!eq) = true then
          R (.bool false) h_3
        else
          (I (IntKind.wrap .i64 (i + 1)) h_3 ∧ mu (IntKind.wrap .i64 (i + 1)) h_3 < mu i h_2)
      else
        R (.bool true) h_2
theorem law22_Same.den_eq (t : Nat) (x : Nat) (h : Heap) (R : Value → Heap → Prop) : law22_Same.vc t x h R = den Tryd.prog Tryd.f15.ntmps (.seq .leaf (.seq .leaf (.seq (.seq .leaf (.cond (.seq .leaf .leaf) .leaf)) (.seq (.seq .leaf (.block (.loop [(6, .one (.int .i64))] (.seq (.seq .leaf (.cond .leaf .leaf)) (.seq (.block (.seq (.plan (.op 0 (.op 1 (.op 2 (.op 3 (.op 5 (.op 6 (.op 7 (.op 8 (.op 9 (.op 10 (.op 11 (.op 4 (.op 12 .done)))))))))))))) (.cond (.seq .leaf .leaf) .leaf))) .leaf))))) (.seq .leaf .leaf))))) none (bodyOf Tryd.f15) (retK Tryd.prog Tryd.f15.results R) (argEnv [.pointer (some ⟨t, 0, none⟩), .pointer (some ⟨x, 0, none⟩)]) h := by kernel_rfl
theorem law22_Same.walk {t : Nat} {x : Nat} {h : Heap} {R : Value → Heap → Prop} (hv : law22_Same.vc t x h R) : CallsH Tryd.prog F.law22_Same #[.pointer (some ⟨t, 0, none⟩), .pointer (some ⟨x, 0, none⟩)] h R :=
  callsH_of_body _ Tryd.func15 rfl rfl (Eq.mp (law22_Same.den_eq t x h R) hv)

def law22_RegsLives.vc (ops_p : Option Addr) (ops_l ops_c : Nat) (h : Heap) (R : Value → Heap → Prop) : Prop :=
  CallsH Tryd.prog F.regs_New #[] h fun v h_1 =>
  ∃ (t18 : Option Addr), v = .pointer t18 ∧
  NewP h_1 (.cells #[.slice none 0 0] T.ref22_Table) fun b h_2 =>
  ∃ (I : Int → Heap → Prop) (mu : Int → Heap → Nat), I 0 h_2 ∧ ∀ (i : Int) (h_3 : Heap), I i h_3 →
    JoinP (fun (t28 : Bool) (h_4 : Heap) =>
      if t28 = true then
        ((0 : Int) ≤ i ∧ i < ((ops_l : Nat) : Int)) ∧
        onSome ops_p fun a =>
        law22_Op.LD h_4 (a.add (Int.toNat i * 8)) fun t34_0 t34_1 t34_2 t34_3 t34_4 t34_5 t34_6 t34_7 =>
        NewP h_4 (.cells #[.int .i64 0, .int .i64 0, .int .i64 0, .bool false, .int .u64 0, .int .u64 0, .string (⟨#[]⟩ : ByteArray), .string (⟨#[]⟩ : ByteArray)] T.law22_Op) fun b_1 h_5 =>
        law22_Op.ST h_5 ⟨b_1, 0, none⟩ t34_0 t34_1 t34_2 t34_3 t34_4 t34_5 t34_6 t34_7 fun h_6 =>
        ∃ (t37 : ByteArray), hcell h_6 ⟨b_1, 6, none⟩ = some (.string t37) ∧
        ∃ (t41 : ByteArray), hcell h_6 ⟨b_1, 7, none⟩ = some (.string t41) ∧
        if (decide ((IntKind.wrap .i64 (((t37.size : Nat) : Int) + ((t41.size : Nat) : Int))) > 300)) = true then
          CallsH Tryd.prog F.law22_alive #[] h_6 fun v_1 h_7 =>
          ∃ (t45 : Bool), v_1 = .bool t45 ∧
          R (.bool t45) h_7
        else
          eid_Eid.LD h_6 ⟨b_1, 3, none⟩ fun t47_0 t47_1 t47_2 t47_3 t47_4 =>
          CallsH Tryd.prog F.law04_As #[.agg #[.bool t47_0, .int .u64 t47_1, .int .u64 t47_2, .string t47_3, .string t47_4]] h_6 fun v_2 h_8 =>
          ∃ (t48_0 : Bool), ∃ (t48_1 : Int), ∃ (t48_2 : Int), ∃ (t48_3 : ByteArray), ∃ (t48_4 : ByteArray), v_2 = .agg #[.bool t48_0, .int .u64 t48_1, .int .u64 t48_2, .string t48_3, .string t48_4] ∧
          NewP h_8 (.cells #[.bool false, .int .u64 0, .int .u64 0, .string (⟨#[]⟩ : ByteArray), .string (⟨#[]⟩ : ByteArray)] T.ref04_Eid) fun b_2 h_9 =>
          ref04_Eid.ST h_9 ⟨b_2, 0, none⟩ t48_0 t48_1 t48_2 t48_3 t48_4 fun h_10 =>
          ∃ (t50 : Int), hcell h_10 ⟨b_1, 0, none⟩ = some (.int .i64 t50) ∧
          JoinP (fun (fine : Bool) (h_11 : Heap) =>
            eid_Eid.LD h_11 ⟨b_1, 3, none⟩ fun t106_0 t106_1 t106_2 t106_3 t106_4 =>
            CallsH Tryd.prog F.regs_Table_Find #[.pointer t18, .agg #[.bool t106_0, .int .u64 t106_1, .int .u64 t106_2, .string t106_3, .string t106_4]] h_11 fun v_3 h_12 =>
            ∃ (t107_0_0 : Bool), ∃ (t107_0_1 : Int), ∃ (t107_0_2 : Int), ∃ (t107_0_3 : ByteArray), ∃ (t107_0_4 : ByteArray), ∃ (t107_0_5 : Int), ∃ (t107_0_6 : Int), ∃ (t107_1 : Bool), v_3 = .tuple #[.agg #[.bool t107_0_0, .int .u64 t107_0_1, .int .u64 t107_0_2, .string t107_0_3, .string t107_0_4, .int .i64 t107_0_5, .int .i64 t107_0_6], .bool t107_1] ∧
            NewP h_12 (.cells #[.bool false, .int .u64 0, .int .u64 0, .string (⟨#[]⟩ : ByteArray), .string (⟨#[]⟩ : ByteArray), .int .i64 0, .int .i64 0] T.regs_Reg) fun b_3 h_13 =>
            regs_Reg.ST h_13 ⟨b_3, 0, none⟩ t107_0_0 t107_0_1 t107_0_2 t107_0_3 t107_0_4 t107_0_5 t107_0_6 fun h_14 =>
            ref04_Eid.LD h_14 ⟨b_2, 0, none⟩ fun t111_0 t111_1 t111_2 t111_3 t111_4 =>
            CallsH Tryd.prog F.ref22_Table_Find #[.pointer (some ⟨b, 0, none⟩), .agg #[.bool t111_0, .int .u64 t111_1, .int .u64 t111_2, .string t111_3, .string t111_4]] h_14 fun v_4 h_15 =>
            ∃ (t112 : Int), v_4 = .int .i64 t112 ∧
            JoinP (fun (t150 : Bool) (h_16 : Heap) =>
              if t150 = true then
                R (.bool false) h_16
              else
                (I (IntKind.wrap .i64 (i + 1)) h_16 ∧ mu (IntKind.wrap .i64 (i + 1)) h_16 < mu i h_3))
            (fun J_2 =>
              if (!fine) = true then
                J_2 true h_15
              else
                CallsH Tryd.prog F.law22_Same #[.pointer t18, .pointer (some ⟨b, 0, none⟩)] h_15 fun v_5 h_17 =>
                ∃ (t118 : Bool), v_5 = .bool t118 ∧
                if (!t118) = true then
                  J_2 true h_17
                else
                  if (!(t107_1 == (decide (t112 ≥ 0)))) = true then
                    J_2 true h_17
                  else
                    if t107_1 = true then
                      regs_Reg.LD h_17 ⟨b_3, 0, none⟩ fun t130_0 t130_1 t130_2 t130_3 t130_4 t130_5 t130_6 =>
                      ∃ (t135_p : Option Addr) (t135_l t135_c : Nat), hcell h_17 ⟨b, 0, none⟩ = some (.slice t135_p t135_l t135_c) ∧
                      ((0 : Int) ≤ t112 ∧ t112 < ((t135_l : Nat) : Int)) ∧
                      onSome t135_p fun a_1 =>
                      ref22_Reg.LD h_17 (a_1.add (Int.toNat t112 * 7)) fun t138_0 t138_1 t138_2 t138_3 t138_4 t138_5 t138_6 =>
                      CallsH Tryd.prog F.law22_as #[.agg #[.bool t130_0, .int .u64 t130_1, .int .u64 t130_2, .string t130_3, .string t130_4, .int .i64 t130_5, .int .i64 t130_6]] h_17 fun v_6 h_18 =>
                      ∃ (t131_0 : Bool), ∃ (t131_1 : Int), ∃ (t131_2 : Int), ∃ (t131_3 : ByteArray), ∃ (t131_4 : ByteArray), ∃ (t131_5 : Int), ∃ (t131_6 : Int), v_6 = .agg #[.bool t131_0, .int .u64 t131_1, .int .u64 t131_2, .string t131_3, .string t131_4, .int .i64 t131_5, .int .i64 t131_6] ∧
                      heldL (a_1.add (Int.toNat t112 * 7)) [.bool t138_0, .int .u64 t138_1, .int .u64 t138_2, .string t138_3, .string t138_4, .int .i64 t138_5, .int .i64 t138_6] 0 h_18 ∧
                      hcell h_18 ⟨b, 0, none⟩ = some (.slice t135_p t135_l t135_c) ∧
                      ∃ (eq : Bool), EqV Tryd.prog T.ref22_Reg (.agg #[.bool t131_0, .int .u64 t131_1, .int .u64 t131_2, .string t131_3, .string t131_4, .int .i64 t131_5, .int .i64 t131_6]) (.agg #[.bool t138_0, .int .u64 t138_1, .int .u64 t138_2, .string t138_3, .string t138_4, .int .i64 t138_5, .int .i64 t138_6]) eq ∧
                      if (!eq) = true then
                        J_2 true h_18
                      else
                        if (!t107_1) = true then
                          regs_Reg.LD h_18 ⟨b_3, 0, none⟩ fun t146_0 t146_1 t146_2 t146_3 t146_4 t146_5 t146_6 =>
                          ∃ (eq_1 : Bool), EqV Tryd.prog T.regs_Reg (.agg #[.bool t146_0, .int .u64 t146_1, .int .u64 t146_2, .string t146_3, .string t146_4, .int .i64 t146_5, .int .i64 t146_6]) (.agg #[.bool false, .int .u64 0, .int .u64 0, .string (⟨#[]⟩ : ByteArray), .string (⟨#[]⟩ : ByteArray), .int .i64 0, .int .i64 0]) eq_1 ∧
                          J_2 (!eq_1) h_18
                        else
                          J_2 false h_18
                    else
                      if (!t107_1) = true then
                        regs_Reg.LD h_17 ⟨b_3, 0, none⟩ fun t146_0_1 t146_1_1 t146_2_1 t146_3_1 t146_4_1 t146_5_1 t146_6_1 =>
                        ∃ (eq_2 : Bool), EqV Tryd.prog T.regs_Reg (.agg #[.bool t146_0_1, .int .u64 t146_1_1, .int .u64 t146_2_1, .string t146_3_1, .string t146_4_1, .int .i64 t146_5_1, .int .i64 t146_6_1]) (.agg #[.bool false, .int .u64 0, .int .u64 0, .string (⟨#[]⟩ : ByteArray), .string (⟨#[]⟩ : ByteArray), .int .i64 0, .int .i64 0]) eq_2 ∧
                        J_2 (!eq_2) h_17
                      else
                        J_2 false h_17))
          (fun J_1 =>
            JoinP (fun (fine_1 : Bool) (h_19 : Heap) =>
              J_1 fine_1 h_19)
            (fun J_3 =>
              if (t50 == 0) = true then
                eid_Eid.LD h_10 ⟨b_1, 3, none⟩ fun t55_0 t55_1 t55_2 t55_3 t55_4 =>
                ∃ (t57 : Int), hcell h_10 ⟨b_1, 1, none⟩ = some (.int .i64 t57) ∧
                ∃ (t59 : Int), hcell h_10 ⟨b_1, 2, none⟩ = some (.int .i64 t59) ∧
                ref04_Eid.LD h_10 ⟨b_2, 0, none⟩ fun t63_0 t63_1 t63_2 t63_3 t63_4 =>
                ∃ (t65 : Int), hcell h_10 ⟨b_1, 1, none⟩ = some (.int .i64 t65) ∧
                ∃ (t67 : Int), hcell h_10 ⟨b_1, 2, none⟩ = some (.int .i64 t67) ∧
                CallsH Tryd.prog F.regs_Table_Add #[.pointer t18, .agg #[.bool t55_0, .int .u64 t55_1, .int .u64 t55_2, .string t55_3, .string t55_4, .int .i64 t57, .int .i64 t59]] h_10 fun v_7 h_20 =>
                ∃ (t61 : Int), v_7 = .int .i64 t61 ∧
                hcell h_20 ⟨b_1, 2, none⟩ = some (.int .i64 t67) ∧
                hcell h_20 ⟨b_1, 1, none⟩ = some (.int .i64 t65) ∧
                heldL ⟨b_2, 0, none⟩ [.bool t63_0, .int .u64 t63_1, .int .u64 t63_2, .string t63_3, .string t63_4] 0 h_20 ∧
                hcell h_20 ⟨b_1, 2, none⟩ = some (.int .i64 t59) ∧
                hcell h_20 ⟨b_1, 1, none⟩ = some (.int .i64 t57) ∧
                heldL ⟨b_1, 3, none⟩ [.bool t55_0, .int .u64 t55_1, .int .u64 t55_2, .string t55_3, .string t55_4] 0 h_20 ∧
                CallsH Tryd.prog F.ref22_Table_Add #[.pointer (some ⟨b, 0, none⟩), .agg #[.bool t63_0, .int .u64 t63_1, .int .u64 t63_2, .string t63_3, .string t63_4, .int .i64 t65, .int .i64 t67]] h_20 fun v_8 h_21 =>
                ∃ (t69 : Int), v_8 = .int .i64 t69 ∧
                hcell h_21 ⟨b_1, 2, none⟩ = some (.int .i64 t67) ∧
                hcell h_21 ⟨b_1, 1, none⟩ = some (.int .i64 t65) ∧
                heldL ⟨b_2, 0, none⟩ [.bool t63_0, .int .u64 t63_1, .int .u64 t63_2, .string t63_3, .string t63_4] 0 h_21 ∧
                hcell h_21 ⟨b_1, 2, none⟩ = some (.int .i64 t59) ∧
                hcell h_21 ⟨b_1, 1, none⟩ = some (.int .i64 t57) ∧
                heldL ⟨b_1, 3, none⟩ [.bool t55_0, .int .u64 t55_1, .int .u64 t55_2, .string t55_3, .string t55_4] 0 h_21 ∧
                J_3 (t61 == t69) h_21
              else
                JoinP (fun (fine_2 : Bool) (h_22 : Heap) =>
                  J_3 fine_2 h_22)
                (fun J_4 =>
                  if (t50 == 1) = true then
                    eid_Eid.LD h_10 ⟨b_1, 3, none⟩ fun t75_0 t75_1 t75_2 t75_3 t75_4 =>
                    ∃ (t77 : Int), hcell h_10 ⟨b_1, 2, none⟩ = some (.int .i64 t77) ∧
                    ref04_Eid.LD h_10 ⟨b_2, 0, none⟩ fun t80_0 t80_1 t80_2 t80_3 t80_4 =>
                    ∃ (t82 : Int), hcell h_10 ⟨b_1, 2, none⟩ = some (.int .i64 t82) ∧
                    CallsH Tryd.prog F.regs_Table_Remove #[.pointer t18, .agg #[.bool t75_0, .int .u64 t75_1, .int .u64 t75_2, .string t75_3, .string t75_4], .int .i64 t77] h_10 fun v_9 h_23 =>
                    ∃ (t78 : Int), v_9 = .int .i64 t78 ∧
                    hcell h_23 ⟨b_1, 2, none⟩ = some (.int .i64 t82) ∧
                    heldL ⟨b_2, 0, none⟩ [.bool t80_0, .int .u64 t80_1, .int .u64 t80_2, .string t80_3, .string t80_4] 0 h_23 ∧
                    CallsH Tryd.prog F.ref22_Table_Remove #[.pointer (some ⟨b, 0, none⟩), .agg #[.bool t80_0, .int .u64 t80_1, .int .u64 t80_2, .string t80_3, .string t80_4], .int .i64 t82] h_23 fun v_10 h_24 =>
                    ∃ (t83 : Int), v_10 = .int .i64 t83 ∧
                    J_4 (t78 == t83) h_24
                  else
                    JoinP (fun (fine_3 : Bool) (h_25 : Heap) =>
                      J_4 fine_3 h_25)
                    (fun J_5 =>
                      if (t50 == 2) = true then
                        eid_Eid.LD h_10 ⟨b_1, 3, none⟩ fun t89_0 t89_1 t89_2 t89_3 t89_4 =>
                        ∃ (t91 : Int), hcell h_10 ⟨b_1, 2, none⟩ = some (.int .i64 t91) ∧
                        ∃ (t93 : Int), hcell h_10 ⟨b_1, 1, none⟩ = some (.int .i64 t93) ∧
                        ref04_Eid.LD h_10 ⟨b_2, 0, none⟩ fun t96_0 t96_1 t96_2 t96_3 t96_4 =>
                        ∃ (t98 : Int), hcell h_10 ⟨b_1, 2, none⟩ = some (.int .i64 t98) ∧
                        ∃ (t100 : Int), hcell h_10 ⟨b_1, 1, none⟩ = some (.int .i64 t100) ∧
                        CallsH Tryd.prog F.regs_Table_Policy #[.pointer t18, .agg #[.bool t89_0, .int .u64 t89_1, .int .u64 t89_2, .string t89_3, .string t89_4], .int .i64 t91, .int .i64 t93] h_10 fun v_11 h_26 =>
                        ∃ (t94 : Int), v_11 = .int .i64 t94 ∧
                        hcell h_26 ⟨b_1, 1, none⟩ = some (.int .i64 t100) ∧
                        hcell h_26 ⟨b_1, 2, none⟩ = some (.int .i64 t98) ∧
                        heldL ⟨b_2, 0, none⟩ [.bool t96_0, .int .u64 t96_1, .int .u64 t96_2, .string t96_3, .string t96_4] 0 h_26 ∧
                        CallsH Tryd.prog F.ref22_Table_Policy #[.pointer (some ⟨b, 0, none⟩), .agg #[.bool t96_0, .int .u64 t96_1, .int .u64 t96_2, .string t96_3, .string t96_4], .int .i64 t98, .int .i64 t100] h_26 fun v_12 h_27 =>
                        ∃ (t101 : Int), v_12 = .int .i64 t101 ∧
                        J_5 (t94 == t101) h_27
                      else
                        J_5 true h_10))))
      else
        NewP h_4 (.cells #[.map none] T.regs_Table) fun b_4 h_28 =>
        CallsH Tryd.prog F.law22_home #[] h_28 fun v_13 h_29 =>
        ∃ (t153_0 : Bool), ∃ (t153_1 : Int), ∃ (t153_2 : Int), ∃ (t153_3 : ByteArray), ∃ (t153_4 : ByteArray), v_13 = .agg #[.bool t153_0, .int .u64 t153_1, .int .u64 t153_2, .string t153_3, .string t153_4] ∧
        CallsH Tryd.prog F.regs_Table_Find #[.pointer none, .agg #[.bool t153_0, .int .u64 t153_1, .int .u64 t153_2, .string t153_3, .string t153_4]] h_29 fun v_14 h_30 =>
        ∃ (t154_0_0 : Bool), ∃ (t154_0_1 : Int), ∃ (t154_0_2 : Int), ∃ (t154_0_3 : ByteArray), ∃ (t154_0_4 : ByteArray), ∃ (t154_0_5 : Int), ∃ (t154_0_6 : Int), ∃ (t154_1 : Bool), v_14 = .tuple #[.agg #[.bool t154_0_0, .int .u64 t154_0_1, .int .u64 t154_0_2, .string t154_0_3, .string t154_0_4, .int .i64 t154_0_5, .int .i64 t154_0_6], .bool t154_1] ∧
        NewP h_30 (.cells #[.bool false, .int .u64 0, .int .u64 0, .string (⟨#[]⟩ : ByteArray), .string (⟨#[]⟩ : ByteArray), .int .i64 0, .int .i64 0] T.regs_Reg) fun b_5 h_31 =>
        regs_Reg.ST h_31 ⟨b_5, 0, none⟩ t154_0_0 t154_0_1 t154_0_2 t154_0_3 t154_0_4 t154_0_5 t154_0_6 fun h_32 =>
        CallsH Tryd.prog F.law22_home #[] h_32 fun v_15 h_33 =>
        ∃ (t158_0 : Bool), ∃ (t158_1 : Int), ∃ (t158_2 : Int), ∃ (t158_3 : ByteArray), ∃ (t158_4 : ByteArray), v_15 = .agg #[.bool t158_0, .int .u64 t158_1, .int .u64 t158_2, .string t158_3, .string t158_4] ∧
        CallsH Tryd.prog F.regs_Table_Find #[.pointer (some ⟨b_4, 0, none⟩), .agg #[.bool t158_0, .int .u64 t158_1, .int .u64 t158_2, .string t158_3, .string t158_4]] h_33 fun v_16 h_34 =>
        ∃ (t159_0_0 : Bool), ∃ (t159_0_1 : Int), ∃ (t159_0_2 : Int), ∃ (t159_0_3 : ByteArray), ∃ (t159_0_4 : ByteArray), ∃ (t159_0_5 : Int), ∃ (t159_0_6 : Int), ∃ (t159_1 : Bool), v_16 = .tuple #[.agg #[.bool t159_0_0, .int .u64 t159_0_1, .int .u64 t159_0_2, .string t159_0_3, .string t159_0_4, .int .i64 t159_0_5, .int .i64 t159_0_6], .bool t159_1] ∧
        NewP h_34 (.cells #[.bool false, .int .u64 0, .int .u64 0, .string (⟨#[]⟩ : ByteArray), .string (⟨#[]⟩ : ByteArray), .int .i64 0, .int .i64 0] T.regs_Reg) fun b_6 h_35 =>
        regs_Reg.ST h_35 ⟨b_6, 0, none⟩ t159_0_0 t159_0_1 t159_0_2 t159_0_3 t159_0_4 t159_0_5 t159_0_6 fun h_36 =>
        CallsH Tryd.prog F.law22_alive #[] h_36 fun v_17 h_37 =>
        ∃ (t162 : Bool), v_17 = .bool t162 ∧
        if t162 = true then
          CallsH Tryd.prog F.regs_Table_Save #[.pointer t18] h_37 fun v_18 h_38 =>
          ∃ (t165_p : Option Addr) (t165_l t165_c : Nat), v_18 = .slice t165_p t165_l t165_c ∧
          CallsH Tryd.prog F.ref22_Table_Save #[.pointer (some ⟨b, 0, none⟩)] h_38 fun v_19 h_39 =>
          ∃ (t167_p : Option Addr) (t167_l t167_c : Nat), v_19 = .slice t167_p t167_l t167_c ∧
          CallsH Tryd.prog F.law19_Same #[.slice t165_p t165_l t165_c, .slice t167_p t167_l t167_c] h_39 fun v_20 h_40 =>
          ∃ (t168 : Bool), v_20 = .bool t168 ∧
          if t168 = true then
            if (!t154_1) = true then
              if (!t159_1) = true then
                CallsH Tryd.prog F.regs_Table_Add #[.pointer none, .agg #[.bool false, .int .u64 0, .int .u64 0, .string (⟨#[]⟩ : ByteArray), .string (⟨#[]⟩ : ByteArray), .int .i64 0, .int .i64 0]] h_40 fun v_21 h_41 =>
                ∃ (t181 : Int), v_21 = .int .i64 t181 ∧
                if (t181 == 6) = true then
                  CallsH Tryd.prog F.regs_Table_Add #[.pointer (some ⟨b_4, 0, none⟩), .agg #[.bool false, .int .u64 0, .int .u64 0, .string (⟨#[]⟩ : ByteArray), .string (⟨#[]⟩ : ByteArray), .int .i64 0, .int .i64 0]] h_41 fun v_22 h_42 =>
                  ∃ (t186 : Int), v_22 = .int .i64 t186 ∧
                  if (t186 == 6) = true then
                    CallsH Tryd.prog F.law22_home #[] h_42 fun v_23 h_43 =>
                    ∃ (t191_0 : Bool), ∃ (t191_1 : Int), ∃ (t191_2 : Int), ∃ (t191_3 : ByteArray), ∃ (t191_4 : ByteArray), v_23 = .agg #[.bool t191_0, .int .u64 t191_1, .int .u64 t191_2, .string t191_3, .string t191_4] ∧
                    CallsH Tryd.prog F.regs_Table_Remove #[.pointer none, .agg #[.bool t191_0, .int .u64 t191_1, .int .u64 t191_2, .string t191_3, .string t191_4], .int .i64 1] h_43 fun v_24 h_44 =>
                    ∃ (t192 : Int), v_24 = .int .i64 t192 ∧
                    if (t192 == 6) = true then
                      CallsH Tryd.prog F.law22_home #[] h_44 fun v_25 h_45 =>
                      ∃ (t196_0 : Bool), ∃ (t196_1 : Int), ∃ (t196_2 : Int), ∃ (t196_3 : ByteArray), ∃ (t196_4 : ByteArray), v_25 = .agg #[.bool t196_0, .int .u64 t196_1, .int .u64 t196_2, .string t196_3, .string t196_4] ∧
                      CallsH Tryd.prog F.regs_Table_Policy #[.pointer (some ⟨b_4, 0, none⟩), .agg #[.bool t196_0, .int .u64 t196_1, .int .u64 t196_2, .string t196_3, .string t196_4], .int .i64 1, .int .i64 9] h_45 fun v_26 h_46 =>
                      ∃ (t197 : Int), v_26 = .int .i64 t197 ∧
                      if (t197 == 6) = true then
                        CallsH Tryd.prog F.regs_Table_All #[.pointer none] h_46 fun v_27 h_47 =>
                        ∃ (t202_p : Option Addr) (t202_l t202_c : Nat), v_27 = .slice t202_p t202_l t202_c ∧
                        CallsH Tryd.prog F.regs_Table_Save #[.pointer (some ⟨b_4, 0, none⟩)] h_47 fun v_28 h_48 =>
                        ∃ (t204_p : Option Addr) (t204_l t204_c : Nat), v_28 = .slice t204_p t204_l t204_c ∧
                        R (.bool ((IntKind.wrap .i64 (((t202_l : Nat) : Int) + ((t204_l : Nat) : Int))) == 0)) h_48
                      else
                        R (.bool false) h_46
                    else
                      R (.bool false) h_44
                  else
                    R (.bool false) h_42
                else
                  R (.bool false) h_41
              else
                R (.bool false) h_40
            else
              R (.bool false) h_40
          else
            R (.bool false) h_40
        else
          R (.bool false) h_37)
    (fun J =>
      if (decide (i < ((ops_l : Nat) : Int))) = true then
        J (decide (i < 80)) h_3
      else
        J false h_3)
theorem law22_RegsLives.den_eq (ops_p : Option Addr) (ops_l ops_c : Nat) (h : Heap) (R : Value → Heap → Prop) : law22_RegsLives.vc ops_p ops_l ops_c h R = den Tryd.prog Tryd.f3.ntmps (.seq .leaf (.seq .leaf (.seq (.seq .leaf (.block (.loop [(5, .one (.int .i64))] (.seq (.seq (.join [(28, .one (.bool))] .leaf) (.cond .leaf .leaf)) (.seq (.block (.seq .leaf (.seq (.seq .leaf (.cond (.seq .leaf .leaf) .leaf)) (.seq .leaf (.seq .leaf (.seq (.seq .leaf (.join [(8, .one (.bool))] (.block (.seq .leaf (.join [(8, .one (.bool))] (.cond (.plan (.op 0 (.op 1 (.op 2 (.op 3 (.op 4 (.op 5 (.op 6 (.op 7 (.op 9 (.op 10 (.op 11 (.op 12 (.op 13 (.op 14 (.op 15 (.op 8 (.op 16 (.op 17 (.op 18 .done)))))))))))))))))))) (.seq .leaf (.join [(8, .one (.bool))] (.cond (.plan (.op 0 (.op 1 (.op 2 (.op 3 (.op 4 (.op 6 (.op 7 (.op 8 (.op 9 (.op 5 (.op 10 (.op 11 (.op 12 .done)))))))))))))) (.seq .leaf (.join [(8, .one (.bool))] (.cond (.plan (.op 0 (.op 1 (.op 2 (.op 3 (.op 4 (.op 5 (.op 6 (.op 8 (.op 9 (.op 10 (.op 11 (.op 12 (.op 13 (.op 7 (.op 14 (.op 15 (.op 16 .done)))))))))))))))))) .leaf)))))))))))) (.seq .leaf (.seq .leaf (.seq (.join [(150, .one (.bool))] (.plan (.op 0 (.op 1 (.op 2 (.op 3 (.op 4 (.op 5 (.op 6 (.op 7 (.op 8 (.op 9 (.op 10 (.op 11 (.op 12 (.op 13 (.op 14 (.op 15 (.op 16 (.op 17 (.op 19 (.op 20 (.op 21 (.op 22 (.op 23 (.op 24 (.op 25 (.op 18 (.op 26 (.op 27 (.op 28 (.op 29 (.op 30 (.op 31 (.op 32 (.op 33 (.op 34 (.op 35 (.op 36 (.op 37 .done)))))))))))))))))))))))))))))))))))))))) (.cond (.seq .leaf .leaf) .leaf)))))))))) .leaf))))) (.seq .leaf (.seq .leaf (.seq .leaf (.seq .leaf (.seq .leaf .leaf)))))))) none (bodyOf Tryd.f3) (retK Tryd.prog Tryd.f3.results R) (argEnv [.slice ops_p ops_l ops_c]) h := by kernel_rfl
theorem law22_RegsLives.walk {ops_p : Option Addr} {ops_l ops_c : Nat} {h : Heap} {R : Value → Heap → Prop} (hv : law22_RegsLives.vc ops_p ops_l ops_c h R) : CallsH Tryd.prog F.law22_RegsLives #[.slice ops_p ops_l ops_c] h R :=
  callsH_of_body _ Tryd.func3 rfl rfl (Eq.mp (law22_RegsLives.den_eq ops_p ops_l ops_c h R) hv)

end Go.Proofs.YtgccegnmggjkjaaDoor
