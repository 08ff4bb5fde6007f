/-
  Printed by a program of this work (vc.py): the verification conditions of functions, and that each is enough for the call. No condition.
-/
import Derived.Test.YtgccegnmggjkjaaNames
set_option maxRecDepth 100000
set_option maxHeartbeats 4000000
namespace Go.Proofs.Ytgccegnmggjkjaa
open Go.Den
def law21_home.vc  (h : Heap) (R : Value → Heap → Prop) : Prop :=
  NewP h (.cells #[.bool false, .int .u64 0, .int .u64 0, .string (⟨#[]⟩ : ByteArray), .string (⟨#[]⟩ : ByteArray)] T.eid_Eid) fun b h_1 =>
  eid_Eid.ST h_1 ⟨b, 0, none⟩ true 7 1 (⟨#[]⟩ : ByteArray) (⟨#[]⟩ : ByteArray) fun h_2 =>
  eid_Eid.LD h_2 ⟨b, 0, none⟩ fun r_0 r_1 r_2 r_3 r_4 =>
  R (.agg #[.bool r_0, .int .u64 r_1, .int .u64 r_2, .string r_3, .string r_4]) h_2
theorem law21_home.den_eq  (h : Heap) (R : Value → Heap → Prop) : law21_home.vc h R = den Try.prog Try.f15.ntmps (.seq .leaf (.seq .leaf .leaf)) none (bodyOf Try.f15) (retK Try.prog Try.f15.results R) (argEnv []) h := by kernel_rfl
theorem law21_home.walk  {h : Heap} {R : Value → Heap → Prop} (hv : law21_home.vc h R) : CallsH Try.prog F.law21_home #[] h R :=
  callsH_of_body _ Try.func15 rfl rfl (Eq.mp (law21_home.den_eq h R) hv)

def law21_Great.vc (o_0 : Int) (o_1 : Int) (o_2 : Int) (o_3 : Bool) (o_4 : Int) (o_5 : Int) (o_6 : ByteArray) (o_7 : ByteArray) (o_8_p : Option Addr) (o_8_l o_8_c : Nat) (o_9 : Int) (h : Heap) (R : Value → Heap → Prop) : Prop :=
  NewP h (.cells #[.int .i64 o_0, .int .i64 o_1, .int .i64 o_2, .bool o_3, .int .u64 o_4, .int .u64 o_5, .string o_6, .string o_7, .slice o_8_p o_8_l o_8_c, .int .u64 o_9] T.law21_Op) fun b h_1 =>
  ∃ (t4_p : Option Addr) (t4_l t4_c : Nat), hcell h_1 ⟨b, 8, none⟩ = some (.slice t4_p t4_l t4_c) ∧
  if (decide (((t4_l : Nat) : Int) > 700)) = true then
    R (.bool true) h_1
  else
    ∃ (t10 : ByteArray), hcell h_1 ⟨b, 6, none⟩ = some (.string t10) ∧
    ∃ (t14 : ByteArray), hcell h_1 ⟨b, 7, none⟩ = some (.string t14) ∧
    R (.bool (decide ((IntKind.wrap .i64 (((t10.size : Nat) : Int) + ((t14.size : Nat) : Int))) > 300))) h_1
theorem law21_Great.den_eq (o_0 : Int) (o_1 : Int) (o_2 : Int) (o_3 : Bool) (o_4 : Int) (o_5 : Int) (o_6 : ByteArray) (o_7 : ByteArray) (o_8_p : Option Addr) (o_8_l o_8_c : Nat) (o_9 : Int) (h : Heap) (R : Value → Heap → Prop) : law21_Great.vc o_0 o_1 o_2 o_3 o_4 o_5 o_6 o_7 o_8_p o_8_l o_8_c o_9 h R = den Try.prog Try.f20.ntmps (.seq .leaf (.seq .leaf .leaf)) none (bodyOf Try.f20) (retK Try.prog Try.f20.results R) (argEnv [.agg #[.int .i64 o_0, .int .i64 o_1, .int .i64 o_2, .bool o_3, .int .u64 o_4, .int .u64 o_5, .string o_6, .string o_7, .slice o_8_p o_8_l o_8_c, .int .u64 o_9]]) h := by kernel_rfl
theorem law21_Great.walk {o_0 : Int} {o_1 : Int} {o_2 : Int} {o_3 : Bool} {o_4 : Int} {o_5 : Int} {o_6 : ByteArray} {o_7 : ByteArray} {o_8_p : Option Addr} {o_8_l o_8_c : Nat} {o_9 : Int} {h : Heap} {R : Value → Heap → Prop} (hv : law21_Great.vc o_0 o_1 o_2 o_3 o_4 o_5 o_6 o_7 o_8_p o_8_l o_8_c o_9 h R) : CallsH Try.prog F.law21_Great #[.agg #[.int .i64 o_0, .int .i64 o_1, .int .i64 o_2, .bool o_3, .int .u64 o_4, .int .u64 o_5, .string o_6, .string o_7, .slice o_8_p o_8_l o_8_c, .int .u64 o_9]] h R :=
  callsH_of_body _ Try.func20 rfl rfl (Eq.mp (law21_Great.den_eq o_0 o_1 o_2 o_3 o_4 o_5 o_6 o_7 o_8_p o_8_l o_8_c o_9 h R) hv)

def law21_alive.vc  (h : Heap) (R : Value → Heap → Prop) : Prop :=
  CallsH Try.prog F.copies_New #[] h fun v h_1 =>
  ∃ (t12 : Option Addr), v = .pointer t12 ∧
  CallsH Try.prog F.law21_home #[] h_1 fun v_1 h_2 =>
  ∃ (t15_0 : Bool), ∃ (t15_1 : Int), ∃ (t15_2 : Int), ∃ (t15_3 : ByteArray), ∃ (t15_4 : ByteArray), v_1 = .agg #[.bool t15_0, .int .u64 t15_1, .int .u64 t15_2, .string t15_3, .string t15_4] ∧
  NewP h_2 (.cells #[.int .u8 97] T.uint8) fun b h_3 =>
  denSem Try.prog (convert T.s_uint8 T.s_uint8 (.slice (some ⟨b, 0, none⟩) 1 1)) h_3 fun v_2 h_4 =>
  ∃ (t17_p : Option Addr) (t17_l t17_c : Nat), v_2 = .slice t17_p t17_l t17_c ∧
  CallsH Try.prog F.copies_Table_Add #[.pointer t12, .agg #[.bool t15_0, .int .u64 t15_1, .int .u64 t15_2, .string t15_3, .string t15_4], .slice t17_p t17_l t17_c, .int .u64 50] h_4 fun v_3 h_5 =>
  ∃ (t18_0 : Int), ∃ (t18_1 : Int), v_3 = .tuple #[.int .i64 t18_0, .int .i64 t18_1] ∧
  CallsH Try.prog F.law21_home #[] h_5 fun v_4 h_6 =>
  ∃ (t22_0 : Bool), ∃ (t22_1 : Int), ∃ (t22_2 : Int), ∃ (t22_3 : ByteArray), ∃ (t22_4 : ByteArray), v_4 = .agg #[.bool t22_0, .int .u64 t22_1, .int .u64 t22_2, .string t22_3, .string t22_4] ∧
  NewP h_6 (.cells #[.int .u8 98] T.uint8) fun b_1 h_7 =>
  denSem Try.prog (convert T.s_uint8 T.s_uint8 (.slice (some ⟨b_1, 0, none⟩) 1 1)) h_7 fun v_5 h_8 =>
  ∃ (t24_p : Option Addr) (t24_l t24_c : Nat), v_5 = .slice t24_p t24_l t24_c ∧
  CallsH Try.prog F.copies_Table_Add #[.pointer t12, .agg #[.bool t22_0, .int .u64 t22_1, .int .u64 t22_2, .string t22_3, .string t22_4], .slice t24_p t24_l t24_c, .int .u64 9] h_8 fun v_6 h_9 =>
  ∃ (t25_0 : Int), ∃ (t25_1 : Int), v_6 = .tuple #[.int .i64 t25_0, .int .i64 t25_1] ∧
  CallsH Try.prog F.law21_home #[] h_9 fun v_7 h_10 =>
  ∃ (t28_0 : Bool), ∃ (t28_1 : Int), ∃ (t28_2 : Int), ∃ (t28_3 : ByteArray), ∃ (t28_4 : ByteArray), v_7 = .agg #[.bool t28_0, .int .u64 t28_1, .int .u64 t28_2, .string t28_3, .string t28_4] ∧
  CallsH Try.prog F.copies_Table_Lease #[.pointer t12, .agg #[.bool t28_0, .int .u64 t28_1, .int .u64 t28_2, .string t28_3, .string t28_4], .int .i64 3, .int .u64 20] h_10 fun v_8 h_11 =>
  ∃ (t29_0_0 : Int), ∃ (t29_0_1 : Bool), ∃ (t29_0_2 : Int), ∃ (t29_0_3 : Int), ∃ (t29_0_4 : ByteArray), ∃ (t29_0_5 : ByteArray), ∃ (t29_0_6_p : Option Addr) (t29_0_6_l t29_0_6_c : Nat), ∃ (t29_0_7 : Int), ∃ (t29_0_8 : Int), ∃ (t29_0_9 : Int), ∃ (t29_1 : Int), v_8 = .tuple #[.agg #[.int .i64 t29_0_0, .bool t29_0_1, .int .u64 t29_0_2, .int .u64 t29_0_3, .string t29_0_4, .string t29_0_5, .slice t29_0_6_p t29_0_6_l t29_0_6_c, .int .u64 t29_0_7, .int .i64 t29_0_8, .int .u64 t29_0_9], .int .i64 t29_1] ∧
  NewP h_11 (.cells #[.int .i64 0, .bool false, .int .u64 0, .int .u64 0, .string (⟨#[]⟩ : ByteArray), .string (⟨#[]⟩ : ByteArray), .slice none 0 0, .int .u64 0, .int .i64 0, .int .u64 0] T.copies_Copy) fun b_2 h_12 =>
  copies_Copy.ST h_12 ⟨b_2, 0, none⟩ t29_0_0 t29_0_1 t29_0_2 t29_0_3 t29_0_4 t29_0_5 t29_0_6_p t29_0_6_l t29_0_6_c t29_0_7 t29_0_8 t29_0_9 fun h_13 =>
  CallsH Try.prog F.copies_Table_Ack #[.pointer t12, .int .i64 1, .int .i64 4] h_13 fun v_9 h_14 =>
  ∃ (t33 : Int), v_9 = .int .i64 t33 ∧
  CallsH Try.prog F.copies_Table_Release #[.pointer t12, .int .i64 1, .int .i64 3] h_14 fun v_10 h_15 =>
  ∃ (t35 : Int), v_10 = .int .i64 t35 ∧
  CallsH Try.prog F.law21_home #[] h_15 fun v_11 h_16 =>
  ∃ (t38_0 : Bool), ∃ (t38_1 : Int), ∃ (t38_2 : Int), ∃ (t38_3 : ByteArray), ∃ (t38_4 : ByteArray), v_11 = .agg #[.bool t38_0, .int .u64 t38_1, .int .u64 t38_2, .string t38_3, .string t38_4] ∧
  CallsH Try.prog F.copies_Table_Lease #[.pointer t12, .agg #[.bool t38_0, .int .u64 t38_1, .int .u64 t38_2, .string t38_3, .string t38_4], .int .i64 4, .int .u64 5] h_16 fun v_12 h_17 =>
  ∃ (t39_0_0 : Int), ∃ (t39_0_1 : Bool), ∃ (t39_0_2 : Int), ∃ (t39_0_3 : Int), ∃ (t39_0_4 : ByteArray), ∃ (t39_0_5 : ByteArray), ∃ (t39_0_6_p : Option Addr) (t39_0_6_l t39_0_6_c : Nat), ∃ (t39_0_7 : Int), ∃ (t39_0_8 : Int), ∃ (t39_0_9 : Int), ∃ (t39_1 : Int), v_12 = .tuple #[.agg #[.int .i64 t39_0_0, .bool t39_0_1, .int .u64 t39_0_2, .int .u64 t39_0_3, .string t39_0_4, .string t39_0_5, .slice t39_0_6_p t39_0_6_l t39_0_6_c, .int .u64 t39_0_7, .int .i64 t39_0_8, .int .u64 t39_0_9], .int .i64 t39_1] ∧
  NewP h_17 (.cells #[.int .i64 0, .bool false, .int .u64 0, .int .u64 0, .string (⟨#[]⟩ : ByteArray), .string (⟨#[]⟩ : ByteArray), .slice none 0 0, .int .u64 0, .int .i64 0, .int .u64 0] T.copies_Copy) fun b_3 h_18 =>
  copies_Copy.ST h_18 ⟨b_3, 0, none⟩ t39_0_0 t39_0_1 t39_0_2 t39_0_3 t39_0_4 t39_0_5 t39_0_6_p t39_0_6_l t39_0_6_c t39_0_7 t39_0_8 t39_0_9 fun h_19 =>
  CallsH Try.prog F.copies_Table_Pass #[.pointer t12, .int .u64 9] h_19 fun v_13 h_20 =>
  ∃ (t43_p : Option Addr) (t43_l t43_c : Nat), v_13 = .slice t43_p t43_l t43_c ∧
  CallsH Try.prog F.copies_Table_Ack #[.pointer t12, .int .i64 1, .int .i64 4] h_20 fun v_14 h_21 =>
  ∃ (t45 : Int), v_14 = .int .i64 t45 ∧
  if (t18_0 == 1) = true then
    if (t18_1 == 0) = true then
      ∃ (t54_p : Option Addr) (t54_l t54_c : Nat), hcell h_21 ⟨b_2, 6, none⟩ = some (.slice t54_p t54_l t54_c) ∧
      ∃ (t55 : ByteArray), ConvV Try.prog T.s_uint8 T.string (.slice t54_p t54_l t54_c) h_21 t55 ∧
      if (t55.toList == (⟨#[97]⟩ : ByteArray).toList) = true then
        if (t29_1 == 0) = true then
          if (t33 == 14) = true then
            if (t35 == 0) = true then
              ∃ (t72 : Int), hcell h_21 ⟨b_3, 0, none⟩ = some (.int .i64 t72) ∧
              if (t72 == 1) = true then
                if (t39_1 == 0) = true then
                  if (((t43_l : Nat) : Int) == 1) = true then
                    ((0 : Int) ≤ 0 ∧ 0 < ((t43_l : Nat) : Int)) ∧
                    onSome t43_p fun a =>
                    ∃ (t87 : Int), hcell h_21 (a.add (Int.toNat 0 * 1)) = some (.int .i64 t87) ∧
                    if (t87 == 2) = true then
                      if (t45 == 14) = true then
                        CallsH Try.prog F.copies_Table_Counts #[.pointer t12] h_21 fun v_15 h_22 =>
                        ∃ (t96_0 : Int), ∃ (t96_1 : Int), ∃ (t96_2 : Int), ∃ (t96_3 : Int), ∃ (t96_4 : Int), ∃ (t96_5 : Int), v_15 = .agg #[.int .i64 t96_0, .int .i64 t96_1, .int .i64 t96_2, .int .i64 t96_3, .int .i64 t96_4, .int .i64 t96_5] ∧
                        ∃ (eq : Bool), EqV Try.prog T.a6_int (.agg #[.int .i64 t96_0, .int .i64 t96_1, .int .i64 t96_2, .int .i64 t96_3, .int .i64 t96_4, .int .i64 t96_5]) (.agg #[.int .i64 2, .int .i64 1, .int .i64 0, .int .i64 0, .int .i64 1, .int .i64 0]) eq ∧
                        R (.bool eq) h_22
                      else
                        R (.bool false) h_21
                    else
                      R (.bool false) h_21
                  else
                    R (.bool false) h_21
                else
                  R (.bool false) h_21
              else
                R (.bool false) h_21
            else
              R (.bool false) h_21
          else
            R (.bool false) h_21
        else
          R (.bool false) h_21
      else
        R (.bool false) h_21
    else
      R (.bool false) h_21
  else
    R (.bool false) h_21
theorem law21_alive.den_eq  (h : Heap) (R : Value → Heap → Prop) : law21_alive.vc h R = den Try.prog Try.f19.ntmps (.seq .leaf (.seq .leaf (.seq .leaf (.seq .leaf (.seq .leaf (.seq .leaf (.seq .leaf (.seq .leaf (.seq .leaf (.seq .leaf (.seq .leaf .leaf))))))))))) none (bodyOf Try.f19) (retK Try.prog Try.f19.results R) (argEnv []) h := by kernel_rfl
theorem law21_alive.walk  {h : Heap} {R : Value → Heap → Prop} (hv : law21_alive.vc h R) : CallsH Try.prog F.law21_alive #[] h R :=
  callsH_of_body _ Try.func19 rfl rfl (Eq.mp (law21_alive.den_eq h R) hv)

def law21_CopiesPlace.vc (n : Int) (back : Int) (passes : Bool) (h : Heap) (R : Value → Heap → Prop) : Prop :=
  CallsH Try.prog F.copies_New #[] h fun v h_1 =>
  ∃ (t22 : Option Addr), v = .pointer t22 ∧
  ∃ (I : Int → Heap → Prop) (mu : Int → Heap → Nat), I 0 h_1 ∧ ∀ (i : Int) (h_2 : Heap), I i h_2 →
    if (decide (i < (IntKind.wrap .i64 (1 + (Int.tmod (IntKind.wrap .i64 n) 16))))) = true then
      CallsH Try.prog F.law21_home #[] h_2 fun v_1 h_3 =>
      ∃ (t34_0 : Bool), ∃ (t34_1 : Int), ∃ (t34_2 : Int), ∃ (t34_3 : ByteArray), ∃ (t34_4 : ByteArray), v_1 = .agg #[.bool t34_0, .int .u64 t34_1, .int .u64 t34_2, .string t34_3, .string t34_4] ∧
      NewP h_3 (.cells #[.int .u8 (IntKind.wrap .u8 i)] T.uint8) fun b h_4 =>
      CallsH Try.prog F.copies_Table_Add #[.pointer t22, .agg #[.bool t34_0, .int .u64 t34_1, .int .u64 t34_2, .string t34_3, .string t34_4], .slice (some ⟨b, 0, none⟩) 1 1, .int .u64 500] h_4 fun v_2 h_5 =>
      ∃ (t38_0 : Int), ∃ (t38_1 : Int), v_2 = .tuple #[.int .i64 t38_0, .int .i64 t38_1] ∧
      JoinP (fun (t48 : Bool) (h_6 : Heap) =>
        if t48 = true then
          R (.bool false) h_6
        else
          (I (IntKind.wrap .i64 (i + 1)) h_6 ∧ mu (IntKind.wrap .i64 (i + 1)) h_6 < mu i h_2))
      (fun J =>
        if (t38_1 != 0) = true then
          J true h_5
        else
          J (t38_0 != (IntKind.wrap .i64 (i + 1))) h_5)
    else
      CallsH Try.prog F.law21_home #[] h_2 fun v_3 h_7 =>
      ∃ (t51_0 : Bool), ∃ (t51_1 : Int), ∃ (t51_2 : Int), ∃ (t51_3 : ByteArray), ∃ (t51_4 : ByteArray), v_3 = .agg #[.bool t51_0, .int .u64 t51_1, .int .u64 t51_2, .string t51_3, .string t51_4] ∧
      NewP h_7 (.cells #[.int .u8 1] T.uint8) fun b_1 h_8 =>
      CallsH Try.prog F.copies_Table_Add #[.pointer t22, .agg #[.bool t51_0, .int .u64 t51_1, .int .u64 t51_2, .string t51_3, .string t51_4], .slice (some ⟨b_1, 0, none⟩) 1 1, .int .u64 500] h_8 fun v_4 h_9 =>
      ∃ (t53_0 : Int), ∃ (t53_1 : Int), v_4 = .tuple #[.int .i64 t53_0, .int .i64 t53_1] ∧
      ∃ (I_1 : Int → Heap → Prop) (mu_1 : Int → Heap → Nat), I_1 0 h_9 ∧ ∀ (i_1 : Int) (h_10 : Heap), I_1 i_1 h_10 →
        if (decide (i_1 < (IntKind.wrap .i64 (1 + (Int.tmod (IntKind.wrap .i64 n) 16))))) = true then
          CallsH Try.prog F.law21_home #[] h_10 fun v_5 h_11 =>
          ∃ (t63_0 : Bool), ∃ (t63_1 : Int), ∃ (t63_2 : Int), ∃ (t63_3 : ByteArray), ∃ (t63_4 : ByteArray), v_5 = .agg #[.bool t63_0, .int .u64 t63_1, .int .u64 t63_2, .string t63_3, .string t63_4] ∧
          CallsH Try.prog F.copies_Table_Lease #[.pointer t22, .agg #[.bool t63_0, .int .u64 t63_1, .int .u64 t63_2, .string t63_3, .string t63_4], .int .i64 7, .int .u64 (IntKind.wrap .u64 (IntKind.wrap .i64 (100 + i_1)))] h_11 fun v_6 h_12 =>
          ∃ (t67_0_0 : Int), ∃ (t67_0_1 : Bool), ∃ (t67_0_2 : Int), ∃ (t67_0_3 : Int), ∃ (t67_0_4 : ByteArray), ∃ (t67_0_5 : ByteArray), ∃ (t67_0_6_p : Option Addr) (t67_0_6_l t67_0_6_c : Nat), ∃ (t67_0_7 : Int), ∃ (t67_0_8 : Int), ∃ (t67_0_9 : Int), ∃ (t67_1 : Int), v_6 = .tuple #[.agg #[.int .i64 t67_0_0, .bool t67_0_1, .int .u64 t67_0_2, .int .u64 t67_0_3, .string t67_0_4, .string t67_0_5, .slice t67_0_6_p t67_0_6_l t67_0_6_c, .int .u64 t67_0_7, .int .i64 t67_0_8, .int .u64 t67_0_9], .int .i64 t67_1] ∧
          NewP h_12 (.cells #[.int .i64 0, .bool false, .int .u64 0, .int .u64 0, .string (⟨#[]⟩ : ByteArray), .string (⟨#[]⟩ : ByteArray), .slice none 0 0, .int .u64 0, .int .i64 0, .int .u64 0] T.copies_Copy) fun b_2 h_13 =>
          copies_Copy.ST h_13 ⟨b_2, 0, none⟩ t67_0_0 t67_0_1 t67_0_2 t67_0_3 t67_0_4 t67_0_5 t67_0_6_p t67_0_6_l t67_0_6_c t67_0_7 t67_0_8 t67_0_9 fun h_14 =>
          JoinP (fun (t78 : Bool) (h_15 : Heap) =>
            if t78 = true then
              R (.bool false) h_15
            else
              (I_1 (IntKind.wrap .i64 (i_1 + 1)) h_15 ∧ mu_1 (IntKind.wrap .i64 (i_1 + 1)) h_15 < mu_1 i_1 h_10))
          (fun J_1 =>
            if (t67_1 != 0) = true then
              J_1 true h_14
            else
              ∃ (t74 : Int), hcell h_14 ⟨b_2, 0, none⟩ = some (.int .i64 t74) ∧
              J_1 (t74 != (IntKind.wrap .i64 (i_1 + 1))) h_14)
        else
          CallsH Try.prog F.law21_home #[] h_10 fun v_7 h_16 =>
          ∃ (t81_0 : Bool), ∃ (t81_1 : Int), ∃ (t81_2 : Int), ∃ (t81_3 : ByteArray), ∃ (t81_4 : ByteArray), v_7 = .agg #[.bool t81_0, .int .u64 t81_1, .int .u64 t81_2, .string t81_3, .string t81_4] ∧
          CallsH Try.prog F.copies_Table_Lease #[.pointer t22, .agg #[.bool t81_0, .int .u64 t81_1, .int .u64 t81_2, .string t81_3, .string t81_4], .int .i64 7, .int .u64 200] h_16 fun v_8 h_17 =>
          ∃ (t82_0_0 : Int), ∃ (t82_0_1 : Bool), ∃ (t82_0_2 : Int), ∃ (t82_0_3 : Int), ∃ (t82_0_4 : ByteArray), ∃ (t82_0_5 : ByteArray), ∃ (t82_0_6_p : Option Addr) (t82_0_6_l t82_0_6_c : Nat), ∃ (t82_0_7 : Int), ∃ (t82_0_8 : Int), ∃ (t82_0_9 : Int), ∃ (t82_1 : Int), v_8 = .tuple #[.agg #[.int .i64 t82_0_0, .bool t82_0_1, .int .u64 t82_0_2, .int .u64 t82_0_3, .string t82_0_4, .string t82_0_5, .slice t82_0_6_p t82_0_6_l t82_0_6_c, .int .u64 t82_0_7, .int .i64 t82_0_8, .int .u64 t82_0_9], .int .i64 t82_1] ∧
          NewP h_17 (.cells #[.int .i64 0, .bool false, .int .u64 0, .int .u64 0, .string (⟨#[]⟩ : ByteArray), .string (⟨#[]⟩ : ByteArray), .slice none 0 0, .int .u64 0, .int .i64 0, .int .u64 0] T.copies_Copy) fun b_3 h_18 =>
          copies_Copy.ST h_18 ⟨b_3, 0, none⟩ t82_0_0 t82_0_1 t82_0_2 t82_0_3 t82_0_4 t82_0_5 t82_0_6_p t82_0_6_l t82_0_6_c t82_0_7 t82_0_8 t82_0_9 fun h_19 =>
          if IntKind.wrap .i64 (1 + (Int.tmod (IntKind.wrap .i64 n) 16)) = 0 then False else
          JoinP (fun (v_at : Int) (h_20 : Heap) =>
            CallsH Try.prog F.law21_home #[] h_20 fun v_9 h_21 =>
            ∃ (t102_0 : Bool), ∃ (t102_1 : Int), ∃ (t102_2 : Int), ∃ (t102_3 : ByteArray), ∃ (t102_4 : ByteArray), v_9 = .agg #[.bool t102_0, .int .u64 t102_1, .int .u64 t102_2, .string t102_3, .string t102_4] ∧
            CallsH Try.prog F.copies_Table_Lease #[.pointer t22, .agg #[.bool t102_0, .int .u64 t102_1, .int .u64 t102_2, .string t102_3, .string t102_4], .int .i64 8, .int .u64 300] h_21 fun v_10 h_22 =>
            ∃ (t103_0_0 : Int), ∃ (t103_0_1 : Bool), ∃ (t103_0_2 : Int), ∃ (t103_0_3 : Int), ∃ (t103_0_4 : ByteArray), ∃ (t103_0_5 : ByteArray), ∃ (t103_0_6_p : Option Addr) (t103_0_6_l t103_0_6_c : Nat), ∃ (t103_0_7 : Int), ∃ (t103_0_8 : Int), ∃ (t103_0_9 : Int), ∃ (t103_1 : Int), v_10 = .tuple #[.agg #[.int .i64 t103_0_0, .bool t103_0_1, .int .u64 t103_0_2, .int .u64 t103_0_3, .string t103_0_4, .string t103_0_5, .slice t103_0_6_p t103_0_6_l t103_0_6_c, .int .u64 t103_0_7, .int .i64 t103_0_8, .int .u64 t103_0_9], .int .i64 t103_1] ∧
            NewP h_22 (.cells #[.int .i64 0, .bool false, .int .u64 0, .int .u64 0, .string (⟨#[]⟩ : ByteArray), .string (⟨#[]⟩ : ByteArray), .slice none 0 0, .int .u64 0, .int .i64 0, .int .u64 0] T.copies_Copy) fun b_4 h_23 =>
            copies_Copy.ST h_23 ⟨b_4, 0, none⟩ t103_0_0 t103_0_1 t103_0_2 t103_0_3 t103_0_4 t103_0_5 t103_0_6_p t103_0_6_l t103_0_6_c t103_0_7 t103_0_8 t103_0_9 fun h_24 =>
            CallsH Try.prog F.law21_alive #[] h_24 fun v_11 h_25 =>
            ∃ (t106 : Bool), v_11 = .bool t106 ∧
            if t106 = true then
              if (t103_1 == 0) = true then
                ∃ (t113 : Int), hcell h_25 ⟨b_4, 0, none⟩ = some (.int .i64 t113) ∧
                if (t113 == v_at) = true then
                  ∃ (t119 : Int), hcell h_25 ⟨b_4, 8, none⟩ = some (.int .i64 t119) ∧
                  if (t119 == 8) = true then
                    if ((t53_1 == 15) == ((IntKind.wrap .i64 (1 + (Int.tmod (IntKind.wrap .i64 n) 16))) == 16)) = true then
                      if (decide ((IntKind.wrap .i64 (1 + (Int.tmod (IntKind.wrap .i64 n) 16))) < 16)) = true then
                        R (.bool true) h_25
                      else
                        R (.bool (t82_1 == 4)) h_25
                    else
                      R (.bool false) h_25
                  else
                    R (.bool false) h_25
                else
                  R (.bool false) h_25
              else
                R (.bool false) h_25
            else
              R (.bool false) h_25)
          (fun J_2 =>
            if passes = true then
              CallsH Try.prog F.copies_Table_Pass #[.pointer t22, .int .u64 (IntKind.wrap .u64 (IntKind.wrap .i64 (99 + (IntKind.wrap .i64 (1 + (Int.tmod (IntKind.wrap .i64 back) (IntKind.wrap .i64 (1 + (Int.tmod (IntKind.wrap .i64 n) 16)))))))))] h_19 fun v_12 h_26 =>
              ∃ (t95_p : Option Addr) (t95_l t95_c : Nat), v_12 = .slice t95_p t95_l t95_c ∧
              J_2 1 h_26
            else
              CallsH Try.prog F.copies_Table_Release #[.pointer t22, .int .i64 (IntKind.wrap .i64 (1 + (Int.tmod (IntKind.wrap .i64 back) (IntKind.wrap .i64 (1 + (Int.tmod (IntKind.wrap .i64 n) 16)))))), .int .i64 7] h_19 fun v_13 h_27 =>
              ∃ (t98 : Int), v_13 = .int .i64 t98 ∧
              if (t98 != 0) = true then
                R (.bool false) h_27
              else
                J_2 (IntKind.wrap .i64 (1 + (Int.tmod (IntKind.wrap .i64 back) (IntKind.wrap .i64 (1 + (Int.tmod (IntKind.wrap .i64 n) 16)))))) h_27)
theorem law21_CopiesPlace.den_eq (n : Int) (back : Int) (passes : Bool) (h : Heap) (R : Value → Heap → Prop) : law21_CopiesPlace.vc n back passes h R = den Try.prog Try.f4.ntmps (.seq .leaf (.seq .leaf (.seq .leaf (.seq (.seq .leaf (.block (.loop [(9, .one (.int .i64))] (.seq (.seq .leaf (.cond .leaf .leaf)) (.seq (.block (.seq .leaf (.seq (.join [(48, .one (.bool))] .leaf) (.cond (.seq .leaf .leaf) .leaf)))) .leaf))))) (.seq .leaf (.seq (.seq .leaf (.block (.loop [(14, .one (.int .i64))] (.seq (.seq .leaf (.cond .leaf .leaf)) (.seq (.block (.seq .leaf (.seq (.join [(78, .one (.bool))] .leaf) (.cond (.seq .leaf .leaf) .leaf)))) .leaf))))) (.seq .leaf (.seq .leaf (.seq (.seq .leaf (.join [(19, .one (.int .i64))] (.cond (.seq .leaf .leaf) (.seq .leaf (.cond (.seq .leaf .leaf) .leaf))))) (.seq .leaf (.seq .leaf .leaf))))))))))) none (bodyOf Try.f4) (retK Try.prog Try.f4.results R) (argEnv [.int .u8 n, .int .u8 back, .bool passes]) h := by kernel_rfl
theorem law21_CopiesPlace.walk {n : Int} {back : Int} {passes : Bool} {h : Heap} {R : Value → Heap → Prop} (hv : law21_CopiesPlace.vc n back passes h R) : CallsH Try.prog F.law21_CopiesPlace #[.int .u8 n, .int .u8 back, .bool passes] h R :=
  callsH_of_body _ Try.func4 rfl rfl (Eq.mp (law21_CopiesPlace.den_eq n back passes h R) hv)

def law21_CopiesOnce.vc (ops_p : Option Addr) (ops_l ops_c : Nat) (h : Heap) (R : Value → Heap → Prop) : Prop :=
  CallsH Try.prog F.copies_New #[] h fun v h_1 =>
  ∃ (t19 : Option Addr), v = .pointer t19 ∧
  ∃ (I : Option Addr → Nat → Nat → Option Addr → Nat → Nat → Option Addr → Nat → Nat → Int → Heap → Prop) (mu : Option Addr → Nat → Nat → Option Addr → Nat → Nat → Option Addr → Nat → Nat → Int → Heap → Nat), I none 0 0 none 0 0 none 0 0 0 h_1 ∧ ∀ (holder_p : Option Addr) (holder_l holder_c : Nat) (fate_p : Option Addr) (fate_l fate_c : Nat) (until_p : Option Addr) (until_l until_c : Nat) (i : Int) (h_2 : Heap), I holder_p holder_l holder_c fate_p fate_l fate_c until_p until_l until_c i h_2 →
    JoinP (fun (t27 : Bool) (h_3 : Heap) =>
      if t27 = true then
        ((0 : Int) ≤ i ∧ i < ((ops_l : Nat) : Int)) ∧
        onSome ops_p fun a =>
        law21_Op.LD h_3 (a.add (Int.toNat i * 10)) fun t33_0 t33_1 t33_2 t33_3 t33_4 t33_5 t33_6 t33_7 t33_8_p t33_8_l t33_8_c t33_9 =>
        NewP h_3 (.cells #[.int .i64 0, .int .i64 0, .int .i64 0, .bool false, .int .u64 0, .int .u64 0, .string (⟨#[]⟩ : ByteArray), .string (⟨#[]⟩ : ByteArray), .slice none 0 0, .int .u64 0] T.law21_Op) fun b h_4 =>
        law21_Op.ST h_4 ⟨b, 0, none⟩ t33_0 t33_1 t33_2 t33_3 t33_4 t33_5 t33_6 t33_7 t33_8_p t33_8_l t33_8_c t33_9 fun h_5 =>
        law21_Op.LD h_5 ⟨b, 0, none⟩ fun t34_0 t34_1 t34_2 t34_3 t34_4 t34_5 t34_6 t34_7 t34_8_p t34_8_l t34_8_c t34_9 =>
        CallsH Try.prog F.law21_Great #[.agg #[.int .i64 t34_0, .int .i64 t34_1, .int .i64 t34_2, .bool t34_3, .int .u64 t34_4, .int .u64 t34_5, .string t34_6, .string t34_7, .slice t34_8_p t34_8_l t34_8_c, .int .u64 t34_9]] h_5 fun v_1 h_6 =>
        ∃ (t35 : Bool), v_1 = .bool t35 ∧
        if t35 = true then
          CallsH Try.prog F.law21_alive #[] h_6 fun v_2 h_7 =>
          ∃ (t36 : Bool), v_2 = .bool t36 ∧
          R (.bool t36) h_7
        else
          ∃ (t38 : Int), hcell h_6 ⟨b, 0, none⟩ = some (.int .i64 t38) ∧
          JoinP (fun (holder_p_1 : Option Addr) (holder_l_1 holder_c_1 : Nat) (fate_p_1 : Option Addr) (fate_l_1 fate_c_1 : Nat) (until_p_1 : Option Addr) (until_l_1 until_c_1 : Nat) (gone_p : Option Addr) (gone_l gone_c : Nat) (h_8 : Heap) =>
            ∃ (I_1 : Int → Heap → Prop) (mu_1 : Int → Heap → Nat), I_1 0 h_8 ∧ ∀ (k : Int) (h_9 : Heap), I_1 k h_9 →
              if (decide (k < ((gone_l : Nat) : Int))) = true then
                JoinP (fun (t268 : Bool) (h_10 : Heap) =>
                  if t268 = true then
                    R (.bool false) h_10
                  else
                    ((0 : Int) ≤ k ∧ k < ((gone_l : Nat) : Int)) ∧
                    onSome gone_p fun a_1 =>
                    ∃ (t273 : Int), hcell h_10 (a_1.add (Int.toNat k * 1)) = some (.int .i64 t273) ∧
                    ((0 : Int) ≤ k ∧ k < ((gone_l : Nat) : Int)) ∧
                    onSome gone_p fun a_2 =>
                    ∃ (t279 : Int), hcell h_10 (a_2.add (Int.toNat k * 1)) = some (.int .i64 t279) ∧
                    ((0 : Int) ≤ IntKind.wrap .i64 (t273 - 1) ∧ IntKind.wrap .i64 (t273 - 1) < ((fate_l_1 : Nat) : Int)) ∧
                    onSome fate_p_1 fun a_3 =>
                    StoreP h_10 (a_3.add (Int.toNat (IntKind.wrap .i64 (t273 - 1)) * 1)) (.int .i64 2) fun h_11 =>
                    ((0 : Int) ≤ IntKind.wrap .i64 (t279 - 1) ∧ IntKind.wrap .i64 (t279 - 1) < ((holder_l_1 : Nat) : Int)) ∧
                    onSome holder_p_1 fun a_4 =>
                    StoreP h_11 (a_4.add (Int.toNat (IntKind.wrap .i64 (t279 - 1)) * 1)) (.int .i64 0) fun h_12 =>
                    (I_1 (IntKind.wrap .i64 (k + 1)) h_12 ∧ mu_1 (IntKind.wrap .i64 (k + 1)) h_12 < mu_1 k h_9))
                (fun J_2 =>
                  ((0 : Int) ≤ k ∧ k < ((gone_l : Nat) : Int)) ∧
                  onSome gone_p fun a_5 =>
                  ∃ (t247 : Int), hcell h_9 (a_5.add (Int.toNat k * 1)) = some (.int .i64 t247) ∧
                  if (decide (t247 < 1)) = true then
                    J_2 true h_9
                  else
                    ((0 : Int) ≤ k ∧ k < ((gone_l : Nat) : Int)) ∧
                    onSome gone_p fun a_6 =>
                    ∃ (t253 : Int), hcell h_9 (a_6.add (Int.toNat k * 1)) = some (.int .i64 t253) ∧
                    if (decide (t253 > ((fate_l_1 : Nat) : Int))) = true then
                      J_2 true h_9
                    else
                      ((0 : Int) ≤ k ∧ k < ((gone_l : Nat) : Int)) ∧
                      onSome gone_p fun a_7 =>
                      ∃ (t263 : Int), hcell h_9 (a_7.add (Int.toNat k * 1)) = some (.int .i64 t263) ∧
                      ((0 : Int) ≤ IntKind.wrap .i64 (t263 - 1) ∧ IntKind.wrap .i64 (t263 - 1) < ((fate_l_1 : Nat) : Int)) ∧
                      onSome fate_p_1 fun a_8 =>
                      ∃ (t266 : Int), hcell h_9 (a_8.add (Int.toNat (IntKind.wrap .i64 (t263 - 1)) * 1)) = some (.int .i64 t266) ∧
                      J_2 (t266 != 0) h_9)
              else
                CallsH Try.prog F.copies_Table_Counts #[.pointer t19] h_9 fun v_3 h_13 =>
                ∃ (t284_0 : Int), ∃ (t284_1 : Int), ∃ (t284_2 : Int), ∃ (t284_3 : Int), ∃ (t284_4 : Int), ∃ (t284_5 : Int), v_3 = .agg #[.int .i64 t284_0, .int .i64 t284_1, .int .i64 t284_2, .int .i64 t284_3, .int .i64 t284_4, .int .i64 t284_5] ∧
                NewP h_13 (.cells #[.int .i64 0, .int .i64 0, .int .i64 0, .int .i64 0, .int .i64 0, .int .i64 0] T.a6_int) fun b_1 h_14 =>
                a6_int.ST h_14 ⟨b_1, 0, none⟩ t284_0 t284_1 t284_2 t284_3 t284_4 t284_5 fun h_15 =>
                JoinP (fun (t308 : Bool) (h_16 : Heap) =>
                  if t308 = true then
                    R (.bool false) h_16
                  else
                    (I holder_p_1 holder_l_1 holder_c_1 fate_p_1 fate_l_1 fate_c_1 until_p_1 until_l_1 until_c_1 (IntKind.wrap .i64 (i + 1)) h_16 ∧ mu holder_p_1 holder_l_1 holder_c_1 fate_p_1 fate_l_1 fate_c_1 until_p_1 until_l_1 until_c_1 (IntKind.wrap .i64 (i + 1)) h_16 < mu holder_p holder_l holder_c fate_p fate_l fate_c until_p until_l until_c i h_2))
                (fun J_3 =>
                  ((0 : Int) ≤ 0 ∧ 0 < ((6 : Nat) : Int)) ∧
                  ∃ (t286 : Int), hcell h_15 ((⟨b_1, 0, none⟩ : Addr).add (Int.toNat 0 * 1)) = some (.int .i64 t286) ∧
                  if (t286 != ((fate_l_1 : Nat) : Int)) = true then
                    J_3 true h_15
                  else
                    ((0 : Int) ≤ 0 ∧ 0 < ((6 : Nat) : Int)) ∧
                    ∃ (t292 : Int), hcell h_15 ((⟨b_1, 0, none⟩ : Addr).add (Int.toNat 0 * 1)) = some (.int .i64 t292) ∧
                    ((0 : Int) ≤ 1 ∧ 1 < ((6 : Nat) : Int)) ∧
                    ∃ (t294 : Int), hcell h_15 ((⟨b_1, 0, none⟩ : Addr).add (Int.toNat 1 * 1)) = some (.int .i64 t294) ∧
                    ((0 : Int) ≤ 2 ∧ 2 < ((6 : Nat) : Int)) ∧
                    ∃ (t296 : Int), hcell h_15 ((⟨b_1, 0, none⟩ : Addr).add (Int.toNat 2 * 1)) = some (.int .i64 t296) ∧
                    ((0 : Int) ≤ 3 ∧ 3 < ((6 : Nat) : Int)) ∧
                    ∃ (t299 : Int), hcell h_15 ((⟨b_1, 0, none⟩ : Addr).add (Int.toNat 3 * 1)) = some (.int .i64 t299) ∧
                    ((0 : Int) ≤ 4 ∧ 4 < ((6 : Nat) : Int)) ∧
                    ∃ (t302 : Int), hcell h_15 ((⟨b_1, 0, none⟩ : Addr).add (Int.toNat 4 * 1)) = some (.int .i64 t302) ∧
                    ((0 : Int) ≤ 5 ∧ 5 < ((6 : Nat) : Int)) ∧
                    ∃ (t305 : Int), hcell h_15 ((⟨b_1, 0, none⟩ : Addr).add (Int.toNat 5 * 1)) = some (.int .i64 t305) ∧
                    J_3 (t292 != (IntKind.wrap .i64 ((IntKind.wrap .i64 ((IntKind.wrap .i64 ((IntKind.wrap .i64 (t294 + t296)) + t299)) + t302)) + t305))) h_15))
          (fun J_1 =>
            JoinP (fun (holder_p_2 : Option Addr) (holder_l_2 holder_c_2 : Nat) (fate_p_2 : Option Addr) (fate_l_2 fate_c_2 : Nat) (until_p_2 : Option Addr) (until_l_2 until_c_2 : Nat) (gone_p_1 : Option Addr) (gone_l_1 gone_c_1 : Nat) (h_17 : Heap) =>
              J_1 holder_p_2 holder_l_2 holder_c_2 fate_p_2 fate_l_2 fate_c_2 until_p_2 until_l_2 until_c_2 gone_p_1 gone_l_1 gone_c_1 h_17)
            (fun J_4 =>
              if (t38 == 0) = true then
                eid_Eid.LD h_6 ⟨b, 3, none⟩ fun t44_0 t44_1 t44_2 t44_3 t44_4 =>
                ∃ (t46_p : Option Addr) (t46_l t46_c : Nat), hcell h_6 ⟨b, 8, none⟩ = some (.slice t46_p t46_l t46_c) ∧
                ∃ (t48 : Int), hcell h_6 ⟨b, 9, none⟩ = some (.int .u64 t48) ∧
                CallsH Try.prog F.copies_Table_Add #[.pointer t19, .agg #[.bool t44_0, .int .u64 t44_1, .int .u64 t44_2, .string t44_3, .string t44_4], .slice t46_p t46_l t46_c, .int .u64 t48] h_6 fun v_4 h_18 =>
                ∃ (t49_0 : Int), ∃ (t49_1 : Int), v_4 = .tuple #[.int .i64 t49_0, .int .i64 t49_1] ∧
                JoinP (fun (holder_p_3 : Option Addr) (holder_l_3 holder_c_3 : Nat) (fate_p_3 : Option Addr) (fate_l_3 fate_c_3 : Nat) (until_p_3 : Option Addr) (until_l_3 until_c_3 : Nat) (h_19 : Heap) =>
                  J_4 holder_p_3 holder_l_3 holder_c_3 fate_p_3 fate_l_3 fate_c_3 until_p_3 until_l_3 until_c_3 none 0 0 h_19)
                (fun J_5 =>
                  if (t49_1 == 0) = true then
                    if (t49_0 != (IntKind.wrap .i64 (((fate_l : Nat) : Int) + 1))) = true then
                      R (.bool false) h_18
                    else
                      NewP h_18 (.cells #[.int .i64 0] T.int) fun b_2 h_20 =>
                      denSem Try.prog (Builtin.append_ #[T.s_int, T.s_int] T.s_int #[.slice holder_p holder_l holder_c, .slice (some ⟨b_2, 0, none⟩) 1 1]) h_20 fun v_5 h_21 =>
                      ∃ (t61_p : Option Addr) (t61_l t61_c : Nat), v_5 = .slice t61_p t61_l t61_c ∧
                      NewP h_21 (.cells #[.int .i64 0] T.int) fun b_3 h_22 =>
                      denSem Try.prog (Builtin.append_ #[T.s_int, T.s_int] T.s_int #[.slice fate_p fate_l fate_c, .slice (some ⟨b_3, 0, none⟩) 1 1]) h_22 fun v_6 h_23 =>
                      ∃ (t64_p : Option Addr) (t64_l t64_c : Nat), v_6 = .slice t64_p t64_l t64_c ∧
                      NewP h_23 (.cells #[.int .u64 0] T.uint64) fun b_4 h_24 =>
                      denSem Try.prog (Builtin.append_ #[T.s_uint64, T.s_uint64] T.s_uint64 #[.slice until_p until_l until_c, .slice (some ⟨b_4, 0, none⟩) 1 1]) h_24 fun v_7 h_25 =>
                      ∃ (t67_p : Option Addr) (t67_l t67_c : Nat), v_7 = .slice t67_p t67_l t67_c ∧
                      J_5 t61_p t61_l t61_c t64_p t64_l t64_c t67_p t67_l t67_c h_25
                  else
                    J_5 holder_p holder_l holder_c fate_p fate_l fate_c until_p until_l until_c h_18)
              else
                JoinP (fun (gone_p_2 : Option Addr) (gone_l_2 gone_c_2 : Nat) (h_26 : Heap) =>
                  J_4 holder_p holder_l holder_c fate_p fate_l fate_c until_p until_l until_c gone_p_2 gone_l_2 gone_c_2 h_26)
                (fun J_6 =>
                  if (t38 == 1) = true then
                    eid_Eid.LD h_6 ⟨b, 3, none⟩ fun t73_0 t73_1 t73_2 t73_3 t73_4 =>
                    ∃ (t75 : Int), hcell h_6 ⟨b, 2, none⟩ = some (.int .i64 t75) ∧
                    ∃ (t77 : Int), hcell h_6 ⟨b, 9, none⟩ = some (.int .u64 t77) ∧
                    CallsH Try.prog F.copies_Table_Lease #[.pointer t19, .agg #[.bool t73_0, .int .u64 t73_1, .int .u64 t73_2, .string t73_3, .string t73_4], .int .i64 t75, .int .u64 t77] h_6 fun v_8 h_27 =>
                    ∃ (t78_0_0 : Int), ∃ (t78_0_1 : Bool), ∃ (t78_0_2 : Int), ∃ (t78_0_3 : Int), ∃ (t78_0_4 : ByteArray), ∃ (t78_0_5 : ByteArray), ∃ (t78_0_6_p : Option Addr) (t78_0_6_l t78_0_6_c : Nat), ∃ (t78_0_7 : Int), ∃ (t78_0_8 : Int), ∃ (t78_0_9 : Int), ∃ (t78_1 : Int), v_8 = .tuple #[.agg #[.int .i64 t78_0_0, .bool t78_0_1, .int .u64 t78_0_2, .int .u64 t78_0_3, .string t78_0_4, .string t78_0_5, .slice t78_0_6_p t78_0_6_l t78_0_6_c, .int .u64 t78_0_7, .int .i64 t78_0_8, .int .u64 t78_0_9], .int .i64 t78_1] ∧
                    NewP h_27 (.cells #[.int .i64 0, .bool false, .int .u64 0, .int .u64 0, .string (⟨#[]⟩ : ByteArray), .string (⟨#[]⟩ : ByteArray), .slice none 0 0, .int .u64 0, .int .i64 0, .int .u64 0] T.copies_Copy) fun b_5 h_28 =>
                    copies_Copy.ST h_28 ⟨b_5, 0, none⟩ t78_0_0 t78_0_1 t78_0_2 t78_0_3 t78_0_4 t78_0_5 t78_0_6_p t78_0_6_l t78_0_6_c t78_0_7 t78_0_8 t78_0_9 fun h_29 =>
                    JoinP (fun (h_30 : Heap) =>
                      J_6 none 0 0 h_30)
                    (fun J_7 =>
                      if (t78_1 == 0) = true then
                        JoinP (fun (t117 : Bool) (h_31 : Heap) =>
                          if t117 = true then
                            R (.bool false) h_31
                          else
                            ∃ (t120 : Int), hcell h_31 ⟨b_5, 0, none⟩ = some (.int .i64 t120) ∧
                            ∃ (t124 : Int), hcell h_31 ⟨b_5, 0, none⟩ = some (.int .i64 t124) ∧
                            ∃ (t127 : Int), hcell h_31 ⟨b, 2, none⟩ = some (.int .i64 t127) ∧
                            ∃ (t129 : Int), hcell h_31 ⟨b, 9, none⟩ = some (.int .u64 t129) ∧
                            ((0 : Int) ≤ IntKind.wrap .i64 (t120 - 1) ∧ IntKind.wrap .i64 (t120 - 1) < ((holder_l : Nat) : Int)) ∧
                            onSome holder_p fun a_9 =>
                            StoreP h_31 (a_9.add (Int.toNat (IntKind.wrap .i64 (t120 - 1)) * 1)) (.int .i64 t127) fun h_32 =>
                            hcell h_32 ⟨b, 9, none⟩ = some (.int .u64 t129) ∧
                            hcell h_32 ⟨b_5, 0, none⟩ = some (.int .i64 t124) ∧
                            ((0 : Int) ≤ IntKind.wrap .i64 (t124 - 1) ∧ IntKind.wrap .i64 (t124 - 1) < ((until_l : Nat) : Int)) ∧
                            onSome until_p fun a_10 =>
                            StoreP h_32 (a_10.add (Int.toNat (IntKind.wrap .i64 (t124 - 1)) * 1)) (.int .u64 t129) fun h_33 =>
                            J_7 h_33)
                        (fun J_8 =>
                          ∃ (t84 : Int), hcell h_29 ⟨b_5, 0, none⟩ = some (.int .i64 t84) ∧
                          if (decide (t84 < 1)) = true then
                            J_8 true h_29
                          else
                            ∃ (t88 : Int), hcell h_29 ⟨b_5, 0, none⟩ = some (.int .i64 t88) ∧
                            if (decide (t88 > ((fate_l : Nat) : Int))) = true then
                              J_8 true h_29
                            else
                              ∃ (t96 : Int), hcell h_29 ⟨b_5, 0, none⟩ = some (.int .i64 t96) ∧
                              ((0 : Int) ≤ IntKind.wrap .i64 (t96 - 1) ∧ IntKind.wrap .i64 (t96 - 1) < ((holder_l : Nat) : Int)) ∧
                              onSome holder_p fun a_11 =>
                              ∃ (t99 : Int), hcell h_29 (a_11.add (Int.toNat (IntKind.wrap .i64 (t96 - 1)) * 1)) = some (.int .i64 t99) ∧
                              if (t99 != 0) = true then
                                J_8 true h_29
                              else
                                ∃ (t105 : Int), hcell h_29 ⟨b_5, 0, none⟩ = some (.int .i64 t105) ∧
                                ((0 : Int) ≤ IntKind.wrap .i64 (t105 - 1) ∧ IntKind.wrap .i64 (t105 - 1) < ((fate_l : Nat) : Int)) ∧
                                onSome fate_p fun a_12 =>
                                ∃ (t108 : Int), hcell h_29 (a_12.add (Int.toNat (IntKind.wrap .i64 (t105 - 1)) * 1)) = some (.int .i64 t108) ∧
                                if (t108 != 0) = true then
                                  J_8 true h_29
                                else
                                  eid_Eid.LD h_29 ⟨b_5, 1, none⟩ fun t113_0 t113_1 t113_2 t113_3 t113_4 =>
                                  eid_Eid.LD h_29 ⟨b, 3, none⟩ fun t115_0 t115_1 t115_2 t115_3 t115_4 =>
                                  ∃ (eq : Bool), EqV Try.prog T.eid_Eid (.agg #[.bool t113_0, .int .u64 t113_1, .int .u64 t113_2, .string t113_3, .string t113_4]) (.agg #[.bool t115_0, .int .u64 t115_1, .int .u64 t115_2, .string t115_3, .string t115_4]) eq ∧
                                  J_8 (!eq) h_29)
                      else
                        J_7 h_29)
                  else
                    JoinP (fun (t132 : Bool) (h_34 : Heap) =>
                      JoinP (fun (gone_p_3 : Option Addr) (gone_l_3 gone_c_3 : Nat) (h_35 : Heap) =>
                        J_6 gone_p_3 gone_l_3 gone_c_3 h_35)
                      (fun J_10 =>
                        if t132 = true then
                          JoinP (fun (held : Bool) (h_36 : Heap) =>
                            ∃ (t171 : Int), hcell h_36 ⟨b, 0, none⟩ = some (.int .i64 t171) ∧
                            JoinP (fun (e : Int) (h_37 : Heap) =>
                              if (!((e == 0) == held)) = true then
                                R (.bool false) h_37
                              else
                                JoinP (fun (h_38 : Heap) =>
                                  J_10 none 0 0 h_38)
                                (fun J_13 =>
                                  if held = true then
                                    ∃ (t192 : Int), hcell h_37 ⟨b, 1, none⟩ = some (.int .i64 t192) ∧
                                    ((0 : Int) ≤ IntKind.wrap .i64 (t192 - 1) ∧ IntKind.wrap .i64 (t192 - 1) < ((holder_l : Nat) : Int)) ∧
                                    onSome holder_p fun a_13 =>
                                    StoreP h_37 (a_13.add (Int.toNat (IntKind.wrap .i64 (t192 - 1)) * 1)) (.int .i64 0) fun h_39 =>
                                    ∃ (t196 : Int), hcell h_39 ⟨b, 0, none⟩ = some (.int .i64 t196) ∧
                                    JoinP (fun (h_40 : Heap) =>
                                      J_13 h_40)
                                    (fun J_14 =>
                                      if (t196 == 2) = true then
                                        ∃ (t200 : Int), hcell h_39 ⟨b, 1, none⟩ = some (.int .i64 t200) ∧
                                        ((0 : Int) ≤ IntKind.wrap .i64 (t200 - 1) ∧ IntKind.wrap .i64 (t200 - 1) < ((fate_l : Nat) : Int)) ∧
                                        onSome fate_p fun a_14 =>
                                        StoreP h_39 (a_14.add (Int.toNat (IntKind.wrap .i64 (t200 - 1)) * 1)) (.int .i64 1) fun h_41 =>
                                        J_14 h_41
                                      else
                                        J_14 h_39)
                                  else
                                    J_13 h_37))
                            (fun J_12 =>
                              if (t171 == 2) = true then
                                ∃ (t175 : Int), hcell h_36 ⟨b, 1, none⟩ = some (.int .i64 t175) ∧
                                ∃ (t177 : Int), hcell h_36 ⟨b, 2, none⟩ = some (.int .i64 t177) ∧
                                CallsH Try.prog F.copies_Table_Ack #[.pointer t19, .int .i64 t175, .int .i64 t177] h_36 fun v_9 h_42 =>
                                ∃ (t178 : Int), v_9 = .int .i64 t178 ∧
                                J_12 t178 h_42
                              else
                                ∃ (t181 : Int), hcell h_36 ⟨b, 1, none⟩ = some (.int .i64 t181) ∧
                                ∃ (t183 : Int), hcell h_36 ⟨b, 2, none⟩ = some (.int .i64 t183) ∧
                                CallsH Try.prog F.copies_Table_Release #[.pointer t19, .int .i64 t181, .int .i64 t183] h_36 fun v_10 h_43 =>
                                ∃ (t184 : Int), v_10 = .int .i64 t184 ∧
                                J_12 t184 h_43))
                          (fun J_11 =>
                            ∃ (t136 : Int), hcell h_34 ⟨b, 1, none⟩ = some (.int .i64 t136) ∧
                            if (decide (t136 ≥ 1)) = true then
                              ∃ (t140 : Int), hcell h_34 ⟨b, 1, none⟩ = some (.int .i64 t140) ∧
                              if (decide (t140 ≤ ((fate_l : Nat) : Int))) = true then
                                ∃ (t148 : Int), hcell h_34 ⟨b, 1, none⟩ = some (.int .i64 t148) ∧
                                ((0 : Int) ≤ IntKind.wrap .i64 (t148 - 1) ∧ IntKind.wrap .i64 (t148 - 1) < ((fate_l : Nat) : Int)) ∧
                                onSome fate_p fun a_15 =>
                                ∃ (t151 : Int), hcell h_34 (a_15.add (Int.toNat (IntKind.wrap .i64 (t148 - 1)) * 1)) = some (.int .i64 t151) ∧
                                if (t151 == 0) = true then
                                  ∃ (t157 : Int), hcell h_34 ⟨b, 1, none⟩ = some (.int .i64 t157) ∧
                                  ((0 : Int) ≤ IntKind.wrap .i64 (t157 - 1) ∧ IntKind.wrap .i64 (t157 - 1) < ((holder_l : Nat) : Int)) ∧
                                  onSome holder_p fun a_16 =>
                                  ∃ (t160 : Int), hcell h_34 (a_16.add (Int.toNat (IntKind.wrap .i64 (t157 - 1)) * 1)) = some (.int .i64 t160) ∧
                                  ∃ (t162 : Int), hcell h_34 ⟨b, 2, none⟩ = some (.int .i64 t162) ∧
                                  if (t160 == t162) = true then
                                    ∃ (t167 : Int), hcell h_34 ⟨b, 2, none⟩ = some (.int .i64 t167) ∧
                                    J_11 (decide (t167 > 0)) h_34
                                  else
                                    J_11 false h_34
                                else
                                  J_11 false h_34
                              else
                                J_11 false h_34
                            else
                              J_11 false h_34)
                        else
                          JoinP (fun (gone_p_4 : Option Addr) (gone_l_4 gone_c_4 : Nat) (h_44 : Heap) =>
                            J_10 gone_p_4 gone_l_4 gone_c_4 h_44)
                          (fun J_15 =>
                            if (t38 == 4) = true then
                              ∃ (t207 : Int), hcell h_34 ⟨b, 9, none⟩ = some (.int .u64 t207) ∧
                              CallsH Try.prog F.copies_Table_Pass #[.pointer t19, .int .u64 t207] h_34 fun v_11 h_45 =>
                              ∃ (t208_p : Option Addr) (t208_l t208_c : Nat), v_11 = .slice t208_p t208_l t208_c ∧
                              ∃ (I_2 : Int → Heap → Prop) (mu_2 : Int → Heap → Nat), I_2 0 h_45 ∧ ∀ (k_1 : Int) (h_46 : Heap), I_2 k_1 h_46 →
                                if (decide (k_1 < ((fate_l : Nat) : Int))) = true then
                                  JoinP (fun (h_47 : Heap) =>
                                    (I_2 (IntKind.wrap .i64 (k_1 + 1)) h_47 ∧ mu_2 (IntKind.wrap .i64 (k_1 + 1)) h_47 < mu_2 k_1 h_46))
                                  (fun J_16 =>
                                    JoinP (fun (t228 : Bool) (h_48 : Heap) =>
                                      JoinP (fun (h_49 : Heap) =>
                                        J_16 h_49)
                                      (fun J_18 =>
                                        if t228 = true then
                                          ((0 : Int) ≤ k_1 ∧ k_1 < ((holder_l : Nat) : Int)) ∧
                                          onSome holder_p fun a_17 =>
                                          StoreP h_48 (a_17.add (Int.toNat k_1 * 1)) (.int .i64 0) fun h_50 =>
                                          J_18 h_50
                                        else
                                          J_18 h_48))
                                    (fun J_17 =>
                                      ((0 : Int) ≤ k_1 ∧ k_1 < ((holder_l : Nat) : Int)) ∧
                                      onSome holder_p fun a_18 =>
                                      ∃ (t218 : Int), hcell h_46 (a_18.add (Int.toNat k_1 * 1)) = some (.int .i64 t218) ∧
                                      if (t218 != 0) = true then
                                        ((0 : Int) ≤ k_1 ∧ k_1 < ((until_l : Nat) : Int)) ∧
                                        onSome until_p fun a_19 =>
                                        ∃ (t224 : Int), hcell h_46 (a_19.add (Int.toNat k_1 * 1)) = some (.int .u64 t224) ∧
                                        ∃ (t226 : Int), hcell h_46 ⟨b, 9, none⟩ = some (.int .u64 t226) ∧
                                        J_17 (decide (t224 ≤ t226)) h_46
                                      else
                                        J_17 false h_46))
                                else
                                  J_15 t208_p t208_l t208_c h_46
                            else
                              JoinP (fun (gone_p_5 : Option Addr) (gone_l_5 gone_c_5 : Nat) (h_51 : Heap) =>
                                J_15 gone_p_5 gone_l_5 gone_c_5 h_51)
                              (fun J_19 =>
                                if (t38 == 5) = true then
                                  eid_Eid.LD h_34 ⟨b, 3, none⟩ fun t236_0 t236_1 t236_2 t236_3 t236_4 =>
                                  CallsH Try.prog F.copies_Table_Drop #[.pointer t19, .agg #[.bool t236_0, .int .u64 t236_1, .int .u64 t236_2, .string t236_3, .string t236_4]] h_34 fun v_12 h_52 =>
                                  ∃ (t237_p : Option Addr) (t237_l t237_c : Nat), v_12 = .slice t237_p t237_l t237_c ∧
                                  J_19 t237_p t237_l t237_c h_52
                                else
                                  J_19 none 0 0 h_34))))
                    (fun J_9 =>
                      if (t38 == 2) = true then
                        J_9 (t38 == 2) h_6
                      else
                        J_9 (t38 == 3) h_6))))
      else
        CallsH Try.prog F.law21_alive #[] h_3 fun v_13 h_53 =>
        ∃ (t309 : Bool), v_13 = .bool t309 ∧
        R (.bool t309) h_53)
    (fun J =>
      if (decide (i < ((ops_l : Nat) : Int))) = true then
        J (decide (i < 80)) h_2
      else
        J false h_2)
theorem law21_CopiesOnce.den_eq (ops_p : Option Addr) (ops_l ops_c : Nat) (h : Heap) (R : Value → Heap → Prop) : law21_CopiesOnce.vc ops_p ops_l ops_c h R = den Try.prog Try.f5.ntmps (.seq .leaf (.seq .leaf (.seq .leaf (.seq .leaf (.seq (.seq .leaf (.block (.loop [(4, .one (.slice)), (5, .one (.slice)), (6, .one (.slice)), (7, .one (.int .i64))] (.seq (.seq (.join [(27, .one (.bool))] .leaf) (.cond .leaf .leaf)) (.seq (.block (.seq .leaf (.seq (.seq .leaf (.cond (.seq .leaf .leaf) .leaf)) (.seq .leaf (.seq (.seq .leaf (.join [(4, .one (.slice)), (5, .one (.slice)), (6, .one (.slice)), (9, .one (.slice))] (.block (.seq .leaf (.join [(4, .one (.slice)), (5, .one (.slice)), (6, .one (.slice)), (9, .one (.slice))] (.cond (.seq .leaf (.seq .leaf (.join [(4, .one (.slice)), (5, .one (.slice)), (6, .one (.slice))] (.cond (.seq (.seq .leaf (.cond (.seq .leaf .leaf) .leaf)) .leaf) .leaf)))) (.seq .leaf (.join [(9, .one (.slice))] (.cond (.seq .leaf (.seq .leaf (.join [] (.cond (.seq (.seq (.join [(117, .one (.bool))] .leaf) (.cond (.seq .leaf .leaf) .leaf)) (.plan (.op 0 (.op 1 (.op 2 (.op 3 (.op 4 (.op 5 (.op 6 (.op 7 (.op 8 (.op 9 (.op 10 (.op 11 (.op 12 (.op 13 (.op 14 (.op 15 .done)))))))))))))))))) .leaf)))) (.seq (.seq .leaf (.join [(132, .one (.bool))] (.cond .leaf .leaf))) (.join [(9, .one (.slice))] (.cond (.seq (.join [(14, .one (.bool))] (.plan (.op 0 (.op 1 (.op 2 (.op 3 (.op 4 (.op 5 (.op 6 (.op 7 (.op 8 (.op 9 (.op 10 (.op 11 (.op 12 (.op 13 (.op 14 (.op 15 (.op 16 (.op 17 (.op 18 (.op 19 (.op 20 (.op 21 (.op 22 (.op 23 (.op 24 (.op 25 (.op 26 (.op 27 (.op 28 (.op 29 (.op 30 (.op 31 (.op 32 (.op 33 (.op 34 (.op 35 .done)))))))))))))))))))))))))))))))))))))) (.seq .leaf (.seq (.seq .leaf (.join [(15, .one (.int .i64))] (.cond .leaf .leaf))) (.seq (.seq .leaf (.cond (.seq .leaf .leaf) .leaf)) (.seq .leaf (.join [] (.cond (.seq .leaf (.seq .leaf (.join [] (.cond .leaf .leaf)))) .leaf))))))) (.seq .leaf (.join [(9, .one (.slice))] (.cond (.seq .leaf (.seq .leaf (.block (.loop [(16, .one (.int .i64))] (.seq (.seq .leaf (.cond .leaf .leaf)) (.seq (.join [] (.block (.seq (.join [(228, .one (.bool))] (.plan (.op 0 (.op 1 (.op 2 (.op 3 (.op 4 (.op 5 (.op 6 (.op 7 (.op 8 (.op 9 (.op 10 (.op 11 (.op 12 (.op 13 .done)))))))))))))))) (.join [] (.cond .leaf .leaf))))) .leaf)))))) (.seq .leaf (.join [(9, .one (.slice))] (.cond .leaf .leaf)))))))))))))))))) (.seq (.seq .leaf (.block (.loop [(17, .one (.int .i64))] (.seq (.seq .leaf (.cond .leaf .leaf)) (.seq (.block (.seq (.seq (.join [(268, .one (.bool))] .leaf) (.cond (.seq .leaf .leaf) .leaf)) (.plan (.op 0 (.op 1 (.op 2 (.op 3 (.op 4 (.op 5 (.op 6 (.op 7 (.op 8 (.op 9 (.op 10 (.op 11 (.op 12 (.op 13 (.op 14 (.op 15 .done))))))))))))))))))) .leaf))))) (.seq .leaf (.seq (.join [(308, .one (.bool))] .leaf) (.cond (.seq .leaf .leaf) .leaf))))))))) .leaf))))) (.seq .leaf .leaf)))))) none (bodyOf Try.f5) (retK Try.prog Try.f5.results R) (argEnv [.slice ops_p ops_l ops_c]) h := by kernel_rfl
theorem law21_CopiesOnce.walk {ops_p : Option Addr} {ops_l ops_c : Nat} {h : Heap} {R : Value → Heap → Prop} (hv : law21_CopiesOnce.vc ops_p ops_l ops_c h R) : CallsH Try.prog F.law21_CopiesOnce #[.slice ops_p ops_l ops_c] h R :=
  callsH_of_body _ Try.func5 rfl rfl (Eq.mp (law21_CopiesOnce.den_eq ops_p ops_l ops_c h R) hv)

end Go.Proofs.Ytgccegnmggjkjaa
