/-
  Printed by a program of this work (vc.py): the verification conditions of functions, and that each is enough for the call. No condition.
-/
import Derived.Test.YtgccegnmggjkjaaNames
set_option maxRecDepth 100000
set_option maxHeartbeats 4000000
namespace Go.Proofs.Ytgccegnmggjkjaa
open Go.Den
def law22_home.vc  (h : Heap) (R : Value → Heap → Prop) : Prop :=
  NewP h (.cells #[.bool false, .int .u64 0, .int .u64 0, .string (⟨#[]⟩ : ByteArray), .string (⟨#[]⟩ : ByteArray)] T.eid_Eid) fun b h_1 =>
  eid_Eid.ST h_1 ⟨b, 0, none⟩ true 7 1 (⟨#[]⟩ : ByteArray) (⟨#[]⟩ : ByteArray) fun h_2 =>
  eid_Eid.LD h_2 ⟨b, 0, none⟩ fun r_0 r_1 r_2 r_3 r_4 =>
  R (.agg #[.bool r_0, .int .u64 r_1, .int .u64 r_2, .string r_3, .string r_4]) h_2
theorem law22_home.den_eq  (h : Heap) (R : Value → Heap → Prop) : law22_home.vc h R = den Try.prog Try.f24.ntmps (.seq .leaf (.seq .leaf .leaf)) none (bodyOf Try.f24) (retK Try.prog Try.f24.results R) (argEnv []) h := by kernel_rfl
theorem law22_home.walk  {h : Heap} {R : Value → Heap → Prop} (hv : law22_home.vc h R) : CallsH Try.prog F.law22_home #[] h R :=
  callsH_of_body _ Try.func24 rfl rfl (Eq.mp (law22_home.den_eq h R) hv)

def law22_alive.vc  (h : Heap) (R : Value → Heap → Prop) : Prop :=
  CallsH Try.prog F.regs_New #[] h fun v h_1 =>
  ∃ (t9 : Option Addr), v = .pointer t9 ∧
  CallsH Try.prog F.law22_home #[] h_1 fun v_1 h_2 =>
  ∃ (t11_0 : Bool), ∃ (t11_1 : Int), ∃ (t11_2 : Int), ∃ (t11_3 : ByteArray), ∃ (t11_4 : ByteArray), v_1 = .agg #[.bool t11_0, .int .u64 t11_1, .int .u64 t11_2, .string t11_3, .string t11_4] ∧
  CallsH Try.prog F.regs_Table_Add #[.pointer t9, .agg #[.bool t11_0, .int .u64 t11_1, .int .u64 t11_2, .string t11_3, .string t11_4, .int .i64 1, .int .i64 3]] h_2 fun v_2 h_3 =>
  ∃ (t13 : Int), v_2 = .int .i64 t13 ∧
  CallsH Try.prog F.law22_home #[] h_3 fun v_3 h_4 =>
  ∃ (t15_0 : Bool), ∃ (t15_1 : Int), ∃ (t15_2 : Int), ∃ (t15_3 : ByteArray), ∃ (t15_4 : ByteArray), v_3 = .agg #[.bool t15_0, .int .u64 t15_1, .int .u64 t15_2, .string t15_3, .string t15_4] ∧
  CallsH Try.prog F.regs_Table_Add #[.pointer t9, .agg #[.bool t15_0, .int .u64 t15_1, .int .u64 t15_2, .string t15_3, .string t15_4, .int .i64 0, .int .i64 4]] h_4 fun v_4 h_5 =>
  ∃ (t17 : Int), v_4 = .int .i64 t17 ∧
  CallsH Try.prog F.law22_home #[] h_5 fun v_5 h_6 =>
  ∃ (t19_0 : Bool), ∃ (t19_1 : Int), ∃ (t19_2 : Int), ∃ (t19_3 : ByteArray), ∃ (t19_4 : ByteArray), v_5 = .agg #[.bool t19_0, .int .u64 t19_1, .int .u64 t19_2, .string t19_3, .string t19_4] ∧
  CallsH Try.prog F.regs_Table_Policy #[.pointer t9, .agg #[.bool t19_0, .int .u64 t19_1, .int .u64 t19_2, .string t19_3, .string t19_4], .int .i64 4, .int .i64 2] h_6 fun v_6 h_7 =>
  ∃ (t20 : Int), v_6 = .int .i64 t20 ∧
  CallsH Try.prog F.law22_home #[] h_7 fun v_7 h_8 =>
  ∃ (t22_0 : Bool), ∃ (t22_1 : Int), ∃ (t22_2 : Int), ∃ (t22_3 : ByteArray), ∃ (t22_4 : ByteArray), v_7 = .agg #[.bool t22_0, .int .u64 t22_1, .int .u64 t22_2, .string t22_3, .string t22_4] ∧
  CallsH Try.prog F.regs_Table_Policy #[.pointer t9, .agg #[.bool t22_0, .int .u64 t22_1, .int .u64 t22_2, .string t22_3, .string t22_4], .int .i64 3, .int .i64 2] h_8 fun v_8 h_9 =>
  ∃ (t23 : Int), v_8 = .int .i64 t23 ∧
  CallsH Try.prog F.law22_home #[] h_9 fun v_9 h_10 =>
  ∃ (t26_0 : Bool), ∃ (t26_1 : Int), ∃ (t26_2 : Int), ∃ (t26_3 : ByteArray), ∃ (t26_4 : ByteArray), v_9 = .agg #[.bool t26_0, .int .u64 t26_1, .int .u64 t26_2, .string t26_3, .string t26_4] ∧
  CallsH Try.prog F.regs_Table_Find #[.pointer t9, .agg #[.bool t26_0, .int .u64 t26_1, .int .u64 t26_2, .string t26_3, .string t26_4]] h_10 fun v_10 h_11 =>
  ∃ (t27_0_0 : Bool), ∃ (t27_0_1 : Int), ∃ (t27_0_2 : Int), ∃ (t27_0_3 : ByteArray), ∃ (t27_0_4 : ByteArray), ∃ (t27_0_5 : Int), ∃ (t27_0_6 : Int), ∃ (t27_1 : Bool), v_10 = .tuple #[.agg #[.bool t27_0_0, .int .u64 t27_0_1, .int .u64 t27_0_2, .string t27_0_3, .string t27_0_4, .int .i64 t27_0_5, .int .i64 t27_0_6], .bool t27_1] ∧
  NewP h_11 (.cells #[.bool false, .int .u64 0, .int .u64 0, .string (⟨#[]⟩ : ByteArray), .string (⟨#[]⟩ : ByteArray), .int .i64 0, .int .i64 0] T.regs_Reg) fun b h_12 =>
  regs_Reg.ST h_12 ⟨b, 0, none⟩ t27_0_0 t27_0_1 t27_0_2 t27_0_3 t27_0_4 t27_0_5 t27_0_6 fun h_13 =>
  CallsH Try.prog F.law22_home #[] h_13 fun v_11 h_14 =>
  ∃ (t31_0 : Bool), ∃ (t31_1 : Int), ∃ (t31_2 : Int), ∃ (t31_3 : ByteArray), ∃ (t31_4 : ByteArray), v_11 = .agg #[.bool t31_0, .int .u64 t31_1, .int .u64 t31_2, .string t31_3, .string t31_4] ∧
  CallsH Try.prog F.regs_Table_Remove #[.pointer t9, .agg #[.bool t31_0, .int .u64 t31_1, .int .u64 t31_2, .string t31_3, .string t31_4], .int .i64 3] h_14 fun v_12 h_15 =>
  ∃ (t32 : Int), v_12 = .int .i64 t32 ∧
  if (t13 == 0) = true then
    if (t17 == 11) = true then
      if (t20 == 13) = true then
        if (t23 == 0) = true then
          ∃ (t49 : Int), hcell h_15 ⟨b, 5, none⟩ = some (.int .i64 t49) ∧
          if (t49 == 2) = true then
            if t27_1 = true then
              if (t32 == 0) = true then
                CallsH Try.prog F.law22_home #[] h_15 fun v_13 h_16 =>
                ∃ (t61_0 : Bool), ∃ (t61_1 : Int), ∃ (t61_2 : Int), ∃ (t61_3 : ByteArray), ∃ (t61_4 : ByteArray), v_13 = .agg #[.bool t61_0, .int .u64 t61_1, .int .u64 t61_2, .string t61_3, .string t61_4] ∧
                CallsH Try.prog F.regs_Table_Remove #[.pointer t9, .agg #[.bool t61_0, .int .u64 t61_1, .int .u64 t61_2, .string t61_3, .string t61_4], .int .i64 3] h_16 fun v_14 h_17 =>
                ∃ (t62 : Int), v_14 = .int .i64 t62 ∧
                if (t62 == 4) = true then
                  CallsH Try.prog F.regs_Table_Add #[.pointer t9, .agg #[.bool false, .int .u64 0, .int .u64 0, .string (⟨#[]⟩ : ByteArray), .string (⟨#[]⟩ : ByteArray), .int .i64 0, .int .i64 0]] h_17 fun v_15 h_18 =>
                  ∃ (t68 : Int), v_15 = .int .i64 t68 ∧
                  R (.bool (t68 == 1)) h_18
                else
                  R (.bool false) h_17
              else
                R (.bool false) h_15
            else
              R (.bool false) h_15
          else
            R (.bool false) h_15
        else
          R (.bool false) h_15
      else
        R (.bool false) h_15
    else
      R (.bool false) h_15
  else
    R (.bool false) h_15
theorem law22_alive.den_eq  (h : Heap) (R : Value → Heap → Prop) : law22_alive.vc h R = den Try.prog Try.f7.ntmps (.seq .leaf (.seq .leaf (.seq .leaf (.seq .leaf (.seq .leaf (.seq .leaf (.seq .leaf (.seq .leaf (.seq .leaf .leaf))))))))) none (bodyOf Try.f7) (retK Try.prog Try.f7.results R) (argEnv []) h := by kernel_rfl
theorem law22_alive.walk  {h : Heap} {R : Value → Heap → Prop} (hv : law22_alive.vc h R) : CallsH Try.prog F.law22_alive #[] h R :=
  callsH_of_body _ Try.func7 rfl rfl (Eq.mp (law22_alive.den_eq h R) hv)

def law22_RegsFull.vc (owner : Int) (drop : Int) (h : Heap) (R : Value → Heap → Prop) : Prop :=
  CallsH Try.prog F.regs_New #[] h fun v h_1 =>
  ∃ (t15 : Option Addr), v = .pointer t15 ∧
  JoinP (fun (t21 : Bool) (h_2 : Heap) =>
    if t21 = true then
      CallsH Try.prog F.law22_alive #[] h_2 fun v_1 h_3 =>
      ∃ (t22 : Bool), v_1 = .bool t22 ∧
      R (.bool t22) h_3
    else
      ∃ (I : Int → Heap → Prop) (mu : Int → Heap → Nat), I 0 h_2 ∧ ∀ (i : Int) (h_4 : Heap), I i h_4 →
        if (decide (i < 8)) = true then
          CallsH Try.prog F.regs_Table_Add #[.pointer t15, .agg #[.bool true, .int .u64 (IntKind.wrap .u64 (IntKind.wrap .i64 (10 + i))), .int .u64 0, .string (⟨#[]⟩ : ByteArray), .string (⟨#[]⟩ : ByteArray), .int .i64 0, .int .i64 owner]] h_4 fun v_2 h_5 =>
          ∃ (t34 : Int), v_2 = .int .i64 t34 ∧
          if (t34 != 0) = true then
            R (.bool false) h_5
          else
            (I (IntKind.wrap .i64 (i + 1)) h_5 ∧ mu (IntKind.wrap .i64 (i + 1)) h_5 < mu i h_4)
        else
          NewP h_4 (.cells #[.bool false, .int .u64 0, .int .u64 0, .string (⟨#[]⟩ : ByteArray), .string (⟨#[]⟩ : ByteArray)] T.eid_Eid) fun b h_6 =>
          eid_Eid.ST h_6 ⟨b, 0, none⟩ true (IntKind.wrap .u64 (10 + (Int.tmod (IntKind.wrap .u64 drop) 8))) 0 (⟨#[]⟩ : ByteArray) (⟨#[]⟩ : ByteArray) fun h_7 =>
          NewP h_7 (.cells #[.bool false, .int .u64 0, .int .u64 0, .string (⟨#[]⟩ : ByteArray), .string (⟨#[]⟩ : ByteArray)] T.eid_Eid) fun b_1 h_8 =>
          eid_Eid.ST h_8 ⟨b_1, 0, none⟩ true 99 0 (⟨#[]⟩ : ByteArray) (⟨#[]⟩ : ByteArray) fun h_9 =>
          eid_Eid.LD h_9 ⟨b_1, 0, none⟩ fun t43_0 t43_1 t43_2 t43_3 t43_4 =>
          CallsH Try.prog F.regs_Table_Add #[.pointer t15, .agg #[.bool t43_0, .int .u64 t43_1, .int .u64 t43_2, .string t43_3, .string t43_4, .int .i64 0, .int .i64 owner]] h_9 fun v_3 h_10 =>
          ∃ (t46 : Int), v_3 = .int .i64 t46 ∧
          eid_Eid.LD h_10 ⟨b, 0, none⟩ fun t48_0 t48_1 t48_2 t48_3 t48_4 =>
          CallsH Try.prog F.regs_Table_Policy #[.pointer t15, .agg #[.bool t48_0, .int .u64 t48_1, .int .u64 t48_2, .string t48_3, .string t48_4], .int .i64 owner, .int .i64 2] h_10 fun v_4 h_11 =>
          ∃ (t50 : Int), v_4 = .int .i64 t50 ∧
          eid_Eid.LD h_11 ⟨b, 0, none⟩ fun t53_0 t53_1 t53_2 t53_3 t53_4 =>
          CallsH Try.prog F.regs_Table_Find #[.pointer t15, .agg #[.bool t53_0, .int .u64 t53_1, .int .u64 t53_2, .string t53_3, .string t53_4]] h_11 fun v_5 h_12 =>
          ∃ (t54_0_0 : Bool), ∃ (t54_0_1 : Int), ∃ (t54_0_2 : Int), ∃ (t54_0_3 : ByteArray), ∃ (t54_0_4 : ByteArray), ∃ (t54_0_5 : Int), ∃ (t54_0_6 : Int), ∃ (t54_1 : Bool), v_5 = .tuple #[.agg #[.bool t54_0_0, .int .u64 t54_0_1, .int .u64 t54_0_2, .string t54_0_3, .string t54_0_4, .int .i64 t54_0_5, .int .i64 t54_0_6], .bool t54_1] ∧
          NewP h_12 (.cells #[.bool false, .int .u64 0, .int .u64 0, .string (⟨#[]⟩ : ByteArray), .string (⟨#[]⟩ : ByteArray), .int .i64 0, .int .i64 0] T.regs_Reg) fun b_2 h_13 =>
          regs_Reg.ST h_13 ⟨b_2, 0, none⟩ t54_0_0 t54_0_1 t54_0_2 t54_0_3 t54_0_4 t54_0_5 t54_0_6 fun h_14 =>
          eid_Eid.LD h_14 ⟨b, 0, none⟩ fun t58_0 t58_1 t58_2 t58_3 t58_4 =>
          CallsH Try.prog F.regs_Table_Remove #[.pointer t15, .agg #[.bool t58_0, .int .u64 t58_1, .int .u64 t58_2, .string t58_3, .string t58_4], .int .i64 owner] h_14 fun v_6 h_15 =>
          ∃ (t60 : Int), v_6 = .int .i64 t60 ∧
          eid_Eid.LD h_15 ⟨b_1, 0, none⟩ fun t62_0 t62_1 t62_2 t62_3 t62_4 =>
          CallsH Try.prog F.regs_Table_Add #[.pointer t15, .agg #[.bool t62_0, .int .u64 t62_1, .int .u64 t62_2, .string t62_3, .string t62_4, .int .i64 0, .int .i64 owner]] h_15 fun v_7 h_16 =>
          ∃ (t65 : Int), v_7 = .int .i64 t65 ∧
          CallsH Try.prog F.law22_alive #[] h_16 fun v_8 h_17 =>
          ∃ (t66 : Bool), v_8 = .bool t66 ∧
          if t66 = true then
            if (t46 == 15) = true then
              if (t50 == 0) = true then
                ∃ (t77 : Int), hcell h_17 ⟨b_2, 5, none⟩ = some (.int .i64 t77) ∧
                if (t77 == 2) = true then
                  if (t60 == 0) = true then
                    if (t65 == 0) = true then
                      CallsH Try.prog F.regs_Table_All #[.pointer t15] h_17 fun v_9 h_18 =>
                      ∃ (t90_p : Option Addr) (t90_l t90_c : Nat), v_9 = .slice t90_p t90_l t90_c ∧
                      R (.bool (((t90_l : Nat) : Int) == 8)) h_18
                    else
                      R (.bool false) h_17
                  else
                    R (.bool false) h_17
                else
                  R (.bool false) h_17
              else
                R (.bool false) h_17
            else
              R (.bool false) h_17
          else
            R (.bool false) h_17)
  (fun J =>
    if (decide (owner < 1)) = true then
      J true h_1
    else
      J (decide (owner > 1099511627776)) h_1)
theorem law22_RegsFull.den_eq (owner : Int) (drop : Int) (h : Heap) (R : Value → Heap → Prop) : law22_RegsFull.vc owner drop h R = den Try.prog Try.f3.ntmps (.seq .leaf (.seq .leaf (.seq (.seq (.join [(21, .one (.bool))] .leaf) (.cond (.seq .leaf .leaf) .leaf)) (.seq (.seq .leaf (.block (.loop [(6, .one (.int .i64))] (.seq (.seq .leaf (.cond .leaf .leaf)) (.seq (.block (.seq .leaf (.cond (.seq .leaf .leaf) .leaf))) .leaf))))) (.seq .leaf (.seq .leaf (.seq .leaf (.seq .leaf (.seq .leaf (.seq .leaf (.seq .leaf (.seq .leaf .leaf)))))))))))) none (bodyOf Try.f3) (retK Try.prog Try.f3.results R) (argEnv [.int .i64 owner, .int .u8 drop]) h := by kernel_rfl
theorem law22_RegsFull.walk {owner : Int} {drop : Int} {h : Heap} {R : Value → Heap → Prop} (hv : law22_RegsFull.vc owner drop h R) : CallsH Try.prog F.law22_RegsFull #[.int .i64 owner, .int .u8 drop] h R :=
  callsH_of_body _ Try.func3 rfl rfl (Eq.mp (law22_RegsFull.den_eq owner drop h R) hv)

end Go.Proofs.Ytgccegnmggjkjaa
