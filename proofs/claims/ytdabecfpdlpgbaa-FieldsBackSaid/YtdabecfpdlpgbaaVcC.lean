/-
  Printed by a program of this work (vc.py): the verification conditions of functions, and that each is enough for the call. No condition.
-/
import Derived.Test.YtdabecfpdlpgbaaNames
set_option maxRecDepth 100000
set_option maxHeartbeats 4000000
namespace Go.Proofs.Ytdabecfpdlpgbaa
open Go.Den
def law15_alive.vc  (h : Heap) (R : Value → Heap → Prop) : Prop :=
  CallsH Try.prog F.fields_New #[] h fun v h_1 =>
  ∃ (t8 : Option Addr), v = .pointer t8 ∧
  if t8.isNone = true then
    R (.bool false) h_1
  else
    CallsH Try.prog F.fields_Writer_Num #[.pointer t8, .int .u64 300] h_1 fun v_1 h_2 =>
    ∃ (t12 : Option Addr), v_1 = .pointer t12 ∧
    NewP h_2 (.cells #[.int .u8 97, .int .u8 98] T.uint8) fun b h_3 =>
    denSem Try.prog (convert T.s_uint8 T.s_uint8 (.slice (some ⟨b, 0, none⟩) 2 2)) h_3 fun v_2 h_4 =>
    ∃ (t15_p : Option Addr) (t15_l t15_c : Nat), v_2 = .slice t15_p t15_l t15_c ∧
    CallsH Try.prog F.fields_Writer_Text #[.pointer t8, .slice t15_p t15_l t15_c] h_4 fun v_3 h_5 =>
    ∃ (t16 : Option Addr), v_3 = .pointer t16 ∧
    CallsH Try.prog F.fields_Writer_Bool #[.pointer t8, .bool true] h_5 fun v_4 h_6 =>
    ∃ (t18 : Option Addr), v_4 = .pointer t18 ∧
    CallsH Try.prog F.fields_Writer_Bytes #[.pointer t8] h_6 fun v_5 h_7 =>
    ∃ (t20_p : Option Addr) (t20_l t20_c : Nat), v_5 = .slice t20_p t20_l t20_c ∧
    CallsH Try.prog F.fields_Read #[.slice t20_p t20_l t20_c] h_7 fun v_6 h_8 =>
    ∃ (t21 : Option Addr), v_6 = .pointer t21 ∧
    CallsH Try.prog F.fields_Reader_Num #[.pointer t21] h_8 fun v_7 h_9 =>
    ∃ (t23 : Int), v_7 = .int .u64 t23 ∧
    CallsH Try.prog F.fields_Reader_Text #[.pointer t21] h_9 fun v_8 h_10 =>
    ∃ (t25_p : Option Addr) (t25_l t25_c : Nat), v_8 = .slice t25_p t25_l t25_c ∧
    CallsH Try.prog F.fields_Reader_Bool #[.pointer t21] h_10 fun v_9 h_11 =>
    ∃ (t27 : Bool), v_9 = .bool t27 ∧
    NewP h_11 (.cells #[.int .u8 128] T.uint8) fun b_1 h_12 =>
    CallsH Try.prog F.fields_Read #[.slice (some ⟨b_1, 0, none⟩) 1 1] h_12 fun v_10 h_13 =>
    ∃ (t29 : Option Addr), v_10 = .pointer t29 ∧
    CallsH Try.prog F.fields_Reader_Num #[.pointer t29] h_13 fun v_11 h_14 =>
    ∃ (t31 : Int), v_11 = .int .u64 t31 ∧
    NewP h_14 (.cells #[.int .u8 128, .int .u8 0] T.uint8) fun b_2 h_15 =>
    CallsH Try.prog F.fields_Read #[.slice (some ⟨b_2, 0, none⟩) 2 2] h_15 fun v_12 h_16 =>
    ∃ (t33 : Option Addr), v_12 = .pointer t33 ∧
    CallsH Try.prog F.fields_Reader_Num #[.pointer t33] h_16 fun v_13 h_17 =>
    ∃ (t35 : Int), v_13 = .int .u64 t35 ∧
    CallsH Try.prog F.fields_Writer_Bytes #[.pointer t8] h_17 fun v_14 h_18 =>
    ∃ (t37_p : Option Addr) (t37_l t37_c : Nat), v_14 = .slice t37_p t37_l t37_c ∧
    ∃ (t38 : ByteArray), ConvV Try.prog T.s_uint8 T.string (.slice t37_p t37_l t37_c) h_18 t38 ∧
    if (t38.toList == (⟨#[172, 2, 2, 97, 98, 1]⟩ : ByteArray).toList) = true then
      if (t23 == 300) = true then
        ∃ (t46 : ByteArray), ConvV Try.prog T.s_uint8 T.string (.slice t25_p t25_l t25_c) h_18 t46 ∧
        if (t46.toList == (⟨#[97, 98]⟩ : ByteArray).toList) = true then
          if t27 = true then
            CallsH Try.prog F.fields_Reader_End #[.pointer t21] h_18 fun v_15 h_19 =>
            ∃ (t54 : Int), v_15 = .int .i64 t54 ∧
            if (t54 == 0) = true then
              CallsH Try.prog F.fields_Reader_End #[.pointer t29] h_19 fun v_16 h_20 =>
              ∃ (t59 : Int), v_16 = .int .i64 t59 ∧
              if (t59 == 8) = true then
                CallsH Try.prog F.fields_Reader_End #[.pointer t33] h_20 fun v_17 h_21 =>
                ∃ (t64 : Int), v_17 = .int .i64 t64 ∧
                R (.bool (t64 == 3)) h_21
              else
                R (.bool false) h_20
            else
              R (.bool false) h_19
          else
            R (.bool false) h_18
        else
          R (.bool false) h_18
      else
        R (.bool false) h_18
    else
      R (.bool false) h_18
theorem law15_alive.den_eq  (h : Heap) (R : Value → Heap → Prop) : law15_alive.vc h R = den Try.prog Try.f9.ntmps (.seq .leaf (.seq .leaf (.seq (.seq .leaf (.cond (.seq .leaf .leaf) .leaf)) (.seq .leaf (.seq .leaf (.seq .leaf (.seq .leaf (.seq .leaf (.seq .leaf (.seq .leaf (.seq .leaf (.seq .leaf (.seq .leaf .leaf))))))))))))) none (bodyOf Try.f9) (retK Try.prog Try.f9.results R) (argEnv []) h := by kernel_rfl
theorem law15_alive.walk  {h : Heap} {R : Value → Heap → Prop} (hv : law15_alive.vc h R) : CallsH Try.prog F.law15_alive #[] h R :=
  callsH_of_body _ Try.func9 rfl rfl (Eq.mp (law15_alive.den_eq h R) hv)

def law15_FieldsSizes.vc (n : Int) (m : Int) (h : Heap) (R : Value → Heap → Prop) : Prop :=
  CallsH Try.prog F.fields_New #[] h fun v h_1 =>
  ∃ (t9 : Option Addr), v = .pointer t9 ∧
  CallsH Try.prog F.fields_Writer_Num #[.pointer t9, .int .u64 n] h_1 fun v_1 h_2 =>
  ∃ (t11 : Option Addr), v_1 = .pointer t11 ∧
  CallsH Try.prog F.fields_Writer_Bytes #[.pointer t11] h_2 fun v_2 h_3 =>
  ∃ (t12_p : Option Addr) (t12_l t12_c : Nat), v_2 = .slice t12_p t12_l t12_c ∧
  CallsH Try.prog F.fields_New #[] h_3 fun v_3 h_4 =>
  ∃ (t13 : Option Addr), v_3 = .pointer t13 ∧
  CallsH Try.prog F.fields_Writer_Num #[.pointer t13, .int .u64 m] h_4 fun v_4 h_5 =>
  ∃ (t15 : Option Addr), v_4 = .pointer t15 ∧
  CallsH Try.prog F.fields_Writer_Bytes #[.pointer t15] h_5 fun v_5 h_6 =>
  ∃ (t16_p : Option Addr) (t16_l t16_c : Nat), v_5 = .slice t16_p t16_l t16_c ∧
  ∃ (I : Int → Int → Heap → Prop) (mu : Int → Int → Heap → Nat), I 1 n h_6 ∧ ∀ (k : Int) (x : Int) (h_7 : Heap), I k x h_7 →
    if (decide (x > 127)) = true then
      (I (IntKind.wrap .i64 (k + 1)) (IntKind.wrap .u64 (Int.tdiv x 128)) h_7 ∧ mu (IntKind.wrap .i64 (k + 1)) (IntKind.wrap .u64 (Int.tdiv x 128)) h_7 < mu k x h_7)
    else
      CallsH Try.prog F.law15_alive #[] h_7 fun v_6 h_8 =>
      ∃ (t24 : Bool), v_6 = .bool t24 ∧
      if t24 = true then
        if (((t12_l : Nat) : Int) == k) = true then
          if (decide (n > m)) = true then
            ∃ (t45 : ByteArray), ConvV Try.prog T.s_uint8 T.string (.slice t12_p t12_l t12_c) h_8 t45 ∧
            ∃ (t47 : ByteArray), ConvV Try.prog T.s_uint8 T.string (.slice t16_p t16_l t16_c) h_8 t47 ∧
            R (.bool ((t45.toList == t47.toList) == (n == m))) h_8
          else
            if (decide (((t12_l : Nat) : Int) ≤ ((t16_l : Nat) : Int))) = true then
              ∃ (t45_1 : ByteArray), ConvV Try.prog T.s_uint8 T.string (.slice t12_p t12_l t12_c) h_8 t45_1 ∧
              ∃ (t47_1 : ByteArray), ConvV Try.prog T.s_uint8 T.string (.slice t16_p t16_l t16_c) h_8 t47_1 ∧
              R (.bool ((t45_1.toList == t47_1.toList) == (n == m))) h_8
            else
              R (.bool false) h_8
        else
          R (.bool false) h_8
      else
        R (.bool false) h_8
theorem law15_FieldsSizes.den_eq (n : Int) (m : Int) (h : Heap) (R : Value → Heap → Prop) : law15_FieldsSizes.vc n m h R = den Try.prog Try.f3.ntmps (.seq .leaf (.seq .leaf (.seq .leaf (.seq (.block (.loop [(7, .one (.int .i64)), (8, .one (.int .u64))] (.seq (.seq .leaf (.cond .leaf .leaf)) (.block (.seq .leaf .leaf))))) (.seq .leaf .leaf))))) none (bodyOf Try.f3) (retK Try.prog Try.f3.results R) (argEnv [.int .u64 n, .int .u64 m]) h := by kernel_rfl
theorem law15_FieldsSizes.walk {n : Int} {m : Int} {h : Heap} {R : Value → Heap → Prop} (hv : law15_FieldsSizes.vc n m h R) : CallsH Try.prog F.law15_FieldsSizes #[.int .u64 n, .int .u64 m] h R :=
  callsH_of_body _ Try.func3 rfl rfl (Eq.mp (law15_FieldsSizes.den_eq n m h R) hv)

def law15_FieldsWrite.vc (l_p : Option Addr) (l_l l_c : Nat) (h : Heap) (R : Value → Heap → Prop) : Prop :=
  CallsH Try.prog F.fields_New #[] h fun v h_1 =>
  ∃ (t11 : Option Addr), v = .pointer t11 ∧
  NewP h_1 (.cells #[.bool false, .slice none 0 0] T.fields_Writer) fun b h_2 =>
  if t11.isNone = true then
    R (.bool false) h_2
  else
    ∃ (I : Option Addr → Nat → Nat → Int → Heap → Prop) (mu : Option Addr → Nat → Nat → Int → Heap → Nat), I none 0 0 0 h_2 ∧ ∀ (want_p : Option Addr) (want_l want_c : Nat) (i : Int) (h_3 : Heap), I want_p want_l want_c i h_3 →
      JoinP (fun (t21 : Bool) (h_4 : Heap) =>
        if t21 = true then
          ((0 : Int) ≤ i ∧ i < ((l_l : Nat) : Int)) ∧
          onSome l_p fun a =>
          ∃ (t27_0 : Int), hcell h_4 (a.add (Int.toNat i * 5)) = some (.int .i64 t27_0) ∧ ∃ (t27_1 : Int), hcell h_4 ((a.add (Int.toNat i * 5)).add 1) = some (.int .u64 t27_1) ∧ ∃ (t27_2 : Int), hcell h_4 ((a.add (Int.toNat i * 5)).add 2) = some (.int .i64 t27_2) ∧ ∃ (t27_3 : Bool), hcell h_4 ((a.add (Int.toNat i * 5)).add 3) = some (.bool t27_3) ∧ ∃ (t27_4_p : Option Addr) (t27_4_l t27_4_c : Nat), hcell h_4 ((a.add (Int.toNat i * 5)).add 4) = some (.slice t27_4_p t27_4_l t27_4_c) ∧ 
          NewP h_4 (.cells #[.int .i64 0, .int .u64 0, .int .i64 0, .bool false, .slice none 0 0] T.law15_Field) fun b_1 h_5 =>
          StoreP h_5 ⟨b_1, 0, none⟩ (.int .i64 t27_0) fun h_6 =>
          StoreP h_6 ⟨b_1, 1, none⟩ (.int .u64 t27_1) fun h_7 =>
          StoreP h_7 ⟨b_1, 2, none⟩ (.int .i64 t27_2) fun h_8 =>
          StoreP h_8 ⟨b_1, 3, none⟩ (.bool t27_3) fun h_9 =>
          StoreP h_9 ⟨b_1, 4, none⟩ (.slice t27_4_p t27_4_l t27_4_c) fun h_10 =>
          ∃ (t29_p : Option Addr) (t29_l t29_c : Nat), hcell h_10 ⟨b_1, 4, none⟩ = some (.slice t29_p t29_l t29_c) ∧
          if (decide (((t29_l : Nat) : Int) > 300)) = true then
            CallsH Try.prog F.law15_alive #[] h_10 fun v_1 h_11 =>
            ∃ (t32 : Bool), v_1 = .bool t32 ∧
            R (.bool t32) h_11
          else
            ∃ (t34 : Int), hcell h_10 ⟨b_1, 0, none⟩ = some (.int .i64 t34) ∧
            JoinP (fun (want_p_1 : Option Addr) (want_l_1 want_c_1 : Nat) (told : Bool) (h_12 : Heap) =>
              if (!told) = true then
                R (.bool false) h_12
              else
                (I want_p_1 want_l_1 want_c_1 (IntKind.wrap .i64 (i + 1)) h_12 ∧ mu want_p_1 want_l_1 want_c_1 (IntKind.wrap .i64 (i + 1)) h_12 < mu want_p want_l want_c i h_3))
            (fun J_1 =>
              JoinP (fun (want_p_2 : Option Addr) (want_l_2 want_c_2 : Nat) (told_1 : Bool) (h_13 : Heap) =>
                J_1 want_p_2 want_l_2 want_c_2 told_1 h_13)
              (fun J_2 =>
                if (t34 == 0) = true then
                  JoinP (fun (told_2 : Bool) (h_14 : Heap) =>
                    ∃ (t52 : Int), hcell h_14 ⟨b_1, 1, none⟩ = some (.int .u64 t52) ∧
                    CallsH Try.prog F.ref15_Num #[.int .u64 t52] h_14 fun v_2 h_15 =>
                    ∃ (t53_p : Option Addr) (t53_l t53_c : Nat), v_2 = .slice t53_p t53_l t53_c ∧
                    denSem Try.prog (Builtin.append_ #[T.s_uint8, T.s_uint8] T.s_uint8 #[.slice want_p want_l want_c, .slice t53_p t53_l t53_c]) h_15 fun v_3 h_16 =>
                    ∃ (t54_p : Option Addr) (t54_l t54_c : Nat), v_3 = .slice t54_p t54_l t54_c ∧
                    J_2 t54_p t54_l t54_c told_2 h_16)
                  (fun J_3 =>
                    ∃ (t39 : Int), hcell h_10 ⟨b_1, 1, none⟩ = some (.int .u64 t39) ∧
                    CallsH Try.prog F.fields_Writer_Num #[.pointer t11, .int .u64 t39] h_10 fun v_4 h_17 =>
                    ∃ (t40 : Option Addr), v_4 = .pointer t40 ∧
                    ∃ (eq : Bool), EqV Try.prog T.p_fields_Writer (.pointer t40) (.pointer t11) eq ∧
                    if eq = true then
                      ∃ (t46 : Int), hcell h_17 ⟨b_1, 1, none⟩ = some (.int .u64 t46) ∧
                      CallsH Try.prog F.fields_Writer_Num #[.pointer none, .int .u64 t46] h_17 fun v_5 h_18 =>
                      ∃ (t47 : Option Addr), v_5 = .pointer t47 ∧
                      J_3 t47.isNone h_18
                    else
                      J_3 false h_17)
                else
                  JoinP (fun (want_p_3 : Option Addr) (want_l_3 want_c_3 : Nat) (told_3 : Bool) (h_19 : Heap) =>
                    J_2 want_p_3 want_l_3 want_c_3 told_3 h_19)
                  (fun J_4 =>
                    if (t34 == 1) = true then
                      JoinP (fun (told_4 : Bool) (h_20 : Heap) =>
                        ∃ (t71 : Int), hcell h_20 ⟨b_1, 2, none⟩ = some (.int .i64 t71) ∧
                        JoinP (fun (h_21 : Heap) =>
                          ∃ (t76 : Int), hcell h_21 ⟨b_1, 2, none⟩ = some (.int .i64 t76) ∧
                          CallsH Try.prog F.ref15_Num #[.int .u64 (IntKind.wrap .u64 t76)] h_21 fun v_6 h_22 =>
                          ∃ (t78_p : Option Addr) (t78_l t78_c : Nat), v_6 = .slice t78_p t78_l t78_c ∧
                          denSem Try.prog (Builtin.append_ #[T.s_uint8, T.s_uint8] T.s_uint8 #[.slice want_p want_l want_c, .slice t78_p t78_l t78_c]) h_22 fun v_7 h_23 =>
                          ∃ (t79_p : Option Addr) (t79_l t79_c : Nat), v_7 = .slice t79_p t79_l t79_c ∧
                          J_4 t79_p t79_l t79_c told_4 h_23)
                        (fun J_6 =>
                          if (decide (t71 < 0)) = true then
                            StoreP h_20 ⟨b_1, 2, none⟩ (.int .i64 0) fun h_24 =>
                            J_6 h_24
                          else
                            J_6 h_20))
                      (fun J_5 =>
                        ∃ (t59 : Int), hcell h_10 ⟨b_1, 2, none⟩ = some (.int .i64 t59) ∧
                        CallsH Try.prog F.fields_Writer_Int #[.pointer t11, .int .i64 t59] h_10 fun v_8 h_25 =>
                        ∃ (t60 : Option Addr), v_8 = .pointer t60 ∧
                        ∃ (eq_1 : Bool), EqV Try.prog T.p_fields_Writer (.pointer t60) (.pointer t11) eq_1 ∧
                        if eq_1 = true then
                          ∃ (t66 : Int), hcell h_25 ⟨b_1, 2, none⟩ = some (.int .i64 t66) ∧
                          CallsH Try.prog F.fields_Writer_Int #[.pointer none, .int .i64 t66] h_25 fun v_9 h_26 =>
                          ∃ (t67 : Option Addr), v_9 = .pointer t67 ∧
                          J_5 t67.isNone h_26
                        else
                          J_5 false h_25)
                    else
                      JoinP (fun (want_p_4 : Option Addr) (want_l_4 want_c_4 : Nat) (told_5 : Bool) (h_27 : Heap) =>
                        J_4 want_p_4 want_l_4 want_c_4 told_5 h_27)
                      (fun J_7 =>
                        if (t34 == 2) = true then
                          JoinP (fun (told_6 : Bool) (h_28 : Heap) =>
                            ∃ (t96 : Bool), hcell h_28 ⟨b_1, 3, none⟩ = some (.bool t96) ∧
                            JoinP (fun (n : Int) (h_29 : Heap) =>
                              CallsH Try.prog F.ref15_Num #[.int .u64 n] h_29 fun v_10 h_30 =>
                              ∃ (t99_p : Option Addr) (t99_l t99_c : Nat), v_10 = .slice t99_p t99_l t99_c ∧
                              denSem Try.prog (Builtin.append_ #[T.s_uint8, T.s_uint8] T.s_uint8 #[.slice want_p want_l want_c, .slice t99_p t99_l t99_c]) h_30 fun v_11 h_31 =>
                              ∃ (t100_p : Option Addr) (t100_l t100_c : Nat), v_11 = .slice t100_p t100_l t100_c ∧
                              J_7 t100_p t100_l t100_c told_6 h_31)
                            (fun J_9 =>
                              if t96 = true then
                                J_9 1 h_28
                              else
                                J_9 0 h_28))
                          (fun J_8 =>
                            ∃ (t84 : Bool), hcell h_10 ⟨b_1, 3, none⟩ = some (.bool t84) ∧
                            CallsH Try.prog F.fields_Writer_Bool #[.pointer t11, .bool t84] h_10 fun v_12 h_32 =>
                            ∃ (t85 : Option Addr), v_12 = .pointer t85 ∧
                            ∃ (eq_2 : Bool), EqV Try.prog T.p_fields_Writer (.pointer t85) (.pointer t11) eq_2 ∧
                            if eq_2 = true then
                              ∃ (t91 : Bool), hcell h_32 ⟨b_1, 3, none⟩ = some (.bool t91) ∧
                              CallsH Try.prog F.fields_Writer_Bool #[.pointer none, .bool t91] h_32 fun v_13 h_33 =>
                              ∃ (t92 : Option Addr), v_13 = .pointer t92 ∧
                              J_8 t92.isNone h_33
                            else
                              J_8 false h_32)
                        else
                          JoinP (fun (want_p_5 : Option Addr) (want_l_5 want_c_5 : Nat) (told_7 : Bool) (h_34 : Heap) =>
                            J_7 want_p_5 want_l_5 want_c_5 told_7 h_34)
                          (fun J_10 =>
                            if (t34 == 3) = true then
                              JoinP (fun (told_8 : Bool) (h_35 : Heap) =>
                                ∃ (t117_p : Option Addr) (t117_l t117_c : Nat), hcell h_35 ⟨b_1, 4, none⟩ = some (.slice t117_p t117_l t117_c) ∧
                                CallsH Try.prog F.fields_Writer_Text #[.pointer (some ⟨b, 0, none⟩), .slice t117_p t117_l t117_c] h_35 fun v_14 h_36 =>
                                ∃ (t118 : Option Addr), v_14 = .pointer t118 ∧
                                ∃ (t121_p : Option Addr) (t121_l t121_c : Nat), hcell h_36 ⟨b_1, 4, none⟩ = some (.slice t121_p t121_l t121_c) ∧
                                CallsH Try.prog F.ref15_Text #[.slice t121_p t121_l t121_c] h_36 fun v_15 h_37 =>
                                ∃ (t122_p : Option Addr) (t122_l t122_c : Nat), v_15 = .slice t122_p t122_l t122_c ∧
                                denSem Try.prog (Builtin.append_ #[T.s_uint8, T.s_uint8] T.s_uint8 #[.slice want_p want_l want_c, .slice t122_p t122_l t122_c]) h_37 fun v_16 h_38 =>
                                ∃ (t123_p : Option Addr) (t123_l t123_c : Nat), v_16 = .slice t123_p t123_l t123_c ∧
                                J_10 t123_p t123_l t123_c told_8 h_38)
                              (fun J_11 =>
                                ∃ (t105_p : Option Addr) (t105_l t105_c : Nat), hcell h_10 ⟨b_1, 4, none⟩ = some (.slice t105_p t105_l t105_c) ∧
                                CallsH Try.prog F.fields_Writer_Text #[.pointer t11, .slice t105_p t105_l t105_c] h_10 fun v_17 h_39 =>
                                ∃ (t106 : Option Addr), v_17 = .pointer t106 ∧
                                ∃ (eq_3 : Bool), EqV Try.prog T.p_fields_Writer (.pointer t106) (.pointer t11) eq_3 ∧
                                if eq_3 = true then
                                  ∃ (t112_p : Option Addr) (t112_l t112_c : Nat), hcell h_39 ⟨b_1, 4, none⟩ = some (.slice t112_p t112_l t112_c) ∧
                                  CallsH Try.prog F.fields_Writer_Text #[.pointer none, .slice t112_p t112_l t112_c] h_39 fun v_18 h_40 =>
                                  ∃ (t113 : Option Addr), v_18 = .pointer t113 ∧
                                  J_11 t113.isNone h_40
                                else
                                  J_11 false h_39)
                            else
                              J_10 want_p want_l want_c true h_10)))))
        else
          CallsH Try.prog F.law15_alive #[] h_4 fun v_19 h_41 =>
          ∃ (t126 : Bool), v_19 = .bool t126 ∧
          if t126 = true then
            ∃ (t132 : ByteArray), ConvV Try.prog T.s_uint8 T.string (.slice want_p want_l want_c) h_41 t132 ∧
            CallsH Try.prog F.fields_Writer_Bytes #[.pointer t11] h_41 fun v_20 h_42 =>
            ∃ (t129_p : Option Addr) (t129_l t129_c : Nat), v_20 = .slice t129_p t129_l t129_c ∧
            ConvV Try.prog T.s_uint8 T.string (.slice want_p want_l want_c) h_42 t132 ∧
            ∃ (t130 : ByteArray), ConvV Try.prog T.s_uint8 T.string (.slice t129_p t129_l t129_c) h_42 t130 ∧
            if (t130.toList == t132.toList) = true then
              CallsH Try.prog F.fields_Writer_Bytes #[.pointer none] h_42 fun v_21 h_43 =>
              ∃ (t137_p : Option Addr) (t137_l t137_c : Nat), v_21 = .slice t137_p t137_l t137_c ∧
              ConvV Try.prog T.s_uint8 T.string (.slice t129_p t129_l t129_c) h_43 t130 ∧
              ConvV Try.prog T.s_uint8 T.string (.slice want_p want_l want_c) h_43 t132 ∧
              CallsH Try.prog F.fields_Writer_Bytes #[.pointer (some ⟨b, 0, none⟩)] h_43 fun v_22 h_44 =>
              ∃ (t139_p : Option Addr) (t139_l t139_c : Nat), v_22 = .slice t139_p t139_l t139_c ∧
              ConvV Try.prog T.s_uint8 T.string (.slice t129_p t129_l t129_c) h_44 t130 ∧
              ConvV Try.prog T.s_uint8 T.string (.slice want_p want_l want_c) h_44 t132 ∧
              R (.bool ((IntKind.wrap .i64 (((t137_l : Nat) : Int) + ((t139_l : Nat) : Int))) == 0)) h_44
            else
              R (.bool false) h_42
          else
            R (.bool false) h_41)
      (fun J =>
        if (decide (i < ((l_l : Nat) : Int))) = true then
          J (decide (i < 60)) h_3
        else
          J false h_3)
theorem law15_FieldsWrite.den_eq (l_p : Option Addr) (l_l l_c : Nat) (h : Heap) (R : Value → Heap → Prop) : law15_FieldsWrite.vc l_p l_l l_c h R = den Try.prog Try.f4.ntmps (.seq .leaf (.seq .leaf (.seq .leaf (.seq .leaf (.seq .leaf (.seq (.seq .leaf (.cond (.seq .leaf .leaf) .leaf)) (.seq (.seq .leaf (.block (.loop [(6, .one (.slice)), (7, .one (.int .i64))] (.seq (.seq (.join [(21, .one (.bool))] .leaf) (.cond .leaf .leaf)) (.seq (.block (.seq .leaf (.seq (.seq .leaf (.cond (.seq .leaf .leaf) .leaf)) (.seq .leaf (.seq (.seq .leaf (.join [(6, .one (.slice)), (9, .one (.bool))] (.block (.seq .leaf (.join [(6, .one (.slice)), (9, .one (.bool))] (.cond (.seq (.join [(9, .one (.bool))] .leaf) .leaf) (.seq .leaf (.join [(6, .one (.slice)), (9, .one (.bool))] (.cond (.seq (.join [(9, .one (.bool))] .leaf) (.seq (.seq .leaf (.join [] (.cond .leaf .leaf))) .leaf)) (.seq .leaf (.join [(6, .one (.slice)), (9, .one (.bool))] (.cond (.seq (.join [(9, .one (.bool))] .leaf) (.seq .leaf (.seq (.seq .leaf (.join [(10, .one (.int .u64))] (.cond .leaf .leaf))) .leaf))) (.seq .leaf (.join [(6, .one (.slice)), (9, .one (.bool))] (.cond (.seq (.join [(9, .one (.bool))] .leaf) (.seq .leaf .leaf)) .leaf))))))))))))))) (.seq .leaf (.cond (.seq .leaf .leaf) .leaf))))))) .leaf))))) (.seq (.plan (.op 0 (.op 1 (.op 2 (.op 5 (.op 6 (.op 3 (.op 4 (.op 7 (.op 8 (.op 9 (.op 10 (.op 11 (.op 12 (.op 13 (.op 14 (.op 15 (.op 16 (.op 17 (.op 18 .done)))))))))))))))))))) .leaf)))))))) none (bodyOf Try.f4) (retK Try.prog Try.f4.results R) (argEnv [.slice l_p l_l l_c]) h := by kernel_rfl
theorem law15_FieldsWrite.walk {l_p : Option Addr} {l_l l_c : Nat} {h : Heap} {R : Value → Heap → Prop} (hv : law15_FieldsWrite.vc l_p l_l l_c h R) : CallsH Try.prog F.law15_FieldsWrite #[.slice l_p l_l l_c] h R :=
  callsH_of_body _ Try.func4 rfl rfl (Eq.mp (law15_FieldsWrite.den_eq l_p l_l l_c h R) hv)

def law15_FieldsBack.vc (l_p : Option Addr) (l_l l_c : Nat) (cut : Int) (h : Heap) (R : Value → Heap → Prop) : Prop :=
  CallsH Try.prog F.fields_New #[] h fun v h_1 =>
  ∃ (t14 : Option Addr), v = .pointer t14 ∧
  ∃ (I : Int → Heap → Prop) (mu : Int → Heap → Nat), I 0 h_1 ∧ ∀ (i : Int) (h_2 : Heap), I i h_2 →
    JoinP (fun (t22 : Bool) (h_3 : Heap) =>
      if t22 = true then
        JoinP (fun (h_4 : Heap) =>
          (I (IntKind.wrap .i64 (i + 1)) h_4 ∧ mu (IntKind.wrap .i64 (i + 1)) h_4 < mu i h_2))
        (fun J_1 =>
          ((0 : Int) ≤ i ∧ i < ((l_l : Nat) : Int)) ∧
          onSome l_p fun a =>
          ∃ (t28_0 : Int), hcell h_3 (a.add (Int.toNat i * 5)) = some (.int .i64 t28_0) ∧ ∃ (t28_1 : Int), hcell h_3 ((a.add (Int.toNat i * 5)).add 1) = some (.int .u64 t28_1) ∧ ∃ (t28_2 : Int), hcell h_3 ((a.add (Int.toNat i * 5)).add 2) = some (.int .i64 t28_2) ∧ ∃ (t28_3 : Bool), hcell h_3 ((a.add (Int.toNat i * 5)).add 3) = some (.bool t28_3) ∧ ∃ (t28_4_p : Option Addr) (t28_4_l t28_4_c : Nat), hcell h_3 ((a.add (Int.toNat i * 5)).add 4) = some (.slice t28_4_p t28_4_l t28_4_c) ∧ 
          NewP h_3 (.cells #[.int .i64 0, .int .u64 0, .int .i64 0, .bool false, .slice none 0 0] T.law15_Field) fun b h_5 =>
          StoreP h_5 ⟨b, 0, none⟩ (.int .i64 t28_0) fun h_6 =>
          StoreP h_6 ⟨b, 1, none⟩ (.int .u64 t28_1) fun h_7 =>
          StoreP h_7 ⟨b, 2, none⟩ (.int .i64 t28_2) fun h_8 =>
          StoreP h_8 ⟨b, 3, none⟩ (.bool t28_3) fun h_9 =>
          StoreP h_9 ⟨b, 4, none⟩ (.slice t28_4_p t28_4_l t28_4_c) fun h_10 =>
          JoinP (fun (t47 : Bool) (h_11 : Heap) =>
            if t47 = true then
              CallsH Try.prog F.law15_alive #[] h_11 fun v_1 h_12 =>
              ∃ (t48 : Bool), v_1 = .bool t48 ∧
              R (.bool t48) h_12
            else
              ∃ (t50 : Int), hcell h_11 ⟨b, 0, none⟩ = some (.int .i64 t50) ∧
              JoinP (fun (h_13 : Heap) =>
                J_1 h_13)
              (fun J_3 =>
                JoinP (fun (h_14 : Heap) =>
                  J_3 h_14)
                (fun J_4 =>
                  if (t50 == 0) = true then
                    ∃ (t55 : Int), hcell h_11 ⟨b, 1, none⟩ = some (.int .u64 t55) ∧
                    CallsH Try.prog F.fields_Writer_Num #[.pointer t14, .int .u64 t55] h_11 fun v_2 h_15 =>
                    ∃ (t56 : Option Addr), v_2 = .pointer t56 ∧
                    J_4 h_15
                  else
                    JoinP (fun (h_16 : Heap) =>
                      J_4 h_16)
                    (fun J_5 =>
                      if (t50 == 1) = true then
                        ∃ (t61 : Int), hcell h_11 ⟨b, 2, none⟩ = some (.int .i64 t61) ∧
                        CallsH Try.prog F.fields_Writer_Int #[.pointer t14, .int .i64 t61] h_11 fun v_3 h_17 =>
                        ∃ (t62 : Option Addr), v_3 = .pointer t62 ∧
                        J_5 h_17
                      else
                        JoinP (fun (h_18 : Heap) =>
                          J_5 h_18)
                        (fun J_6 =>
                          if (t50 == 2) = true then
                            ∃ (t67 : Bool), hcell h_11 ⟨b, 3, none⟩ = some (.bool t67) ∧
                            CallsH Try.prog F.fields_Writer_Bool #[.pointer t14, .bool t67] h_11 fun v_4 h_19 =>
                            ∃ (t68 : Option Addr), v_4 = .pointer t68 ∧
                            J_6 h_19
                          else
                            JoinP (fun (h_20 : Heap) =>
                              J_6 h_20)
                            (fun J_7 =>
                              if (t50 == 3) = true then
                                ∃ (t73_p : Option Addr) (t73_l t73_c : Nat), hcell h_11 ⟨b, 4, none⟩ = some (.slice t73_p t73_l t73_c) ∧
                                CallsH Try.prog F.fields_Writer_Text #[.pointer t14, .slice t73_p t73_l t73_c] h_11 fun v_5 h_21 =>
                                ∃ (t74 : Option Addr), v_5 = .pointer t74 ∧
                                J_7 h_21
                              else
                                J_7 h_11))))))
          (fun J_2 =>
            ∃ (t30_p : Option Addr) (t30_l t30_c : Nat), hcell h_10 ⟨b, 4, none⟩ = some (.slice t30_p t30_l t30_c) ∧
            if (decide (((t30_l : Nat) : Int) > 300)) = true then
              J_2 true h_10
            else
              ∃ (t35 : Int), hcell h_10 ⟨b, 0, none⟩ = some (.int .i64 t35) ∧
              if (t35 == 1) = true then
                ∃ (t39 : Int), hcell h_10 ⟨b, 2, none⟩ = some (.int .i64 t39) ∧
                if (decide (t39 < 0)) = true then
                  J_2 true h_10
                else
                  ∃ (t43 : Int), hcell h_10 ⟨b, 2, none⟩ = some (.int .i64 t43) ∧
                  J_2 (decide (t43 > 1099511627776)) h_10
              else
                J_2 false h_10))
      else
        CallsH Try.prog F.fields_Writer_Bytes #[.pointer t14] h_3 fun v_6 h_22 =>
        ∃ (t76_p : Option Addr) (t76_l t76_c : Nat), v_6 = .slice t76_p t76_l t76_c ∧
        CallsH Try.prog F.fields_Read #[.slice t76_p t76_l t76_c] h_22 fun v_7 h_23 =>
        ∃ (t78 : Option Addr), v_7 = .pointer t78 ∧
        CallsH Try.prog F.fields_Read #[.slice none 0 0] h_23 fun v_8 h_24 =>
        ∃ (t79 : Option Addr), v_8 = .pointer t79 ∧
        JoinP (fun (t87 : Bool) (h_25 : Heap) =>
          JoinP (fun (short : Option Addr) (h_26 : Heap) =>
            ∃ (I_1 : Int → Heap → Prop) (mu_1 : Int → Heap → Nat), I_1 0 h_26 ∧ ∀ (i_1 : Int) (h_27 : Heap), I_1 i_1 h_27 →
              JoinP (fun (t99 : Bool) (h_28 : Heap) =>
                if t99 = true then
                  ((0 : Int) ≤ i_1 ∧ i_1 < ((l_l : Nat) : Int)) ∧
                  onSome l_p fun a_1 =>
                  ∃ (t105_0 : Int), hcell h_28 (a_1.add (Int.toNat i_1 * 5)) = some (.int .i64 t105_0) ∧ ∃ (t105_1 : Int), hcell h_28 ((a_1.add (Int.toNat i_1 * 5)).add 1) = some (.int .u64 t105_1) ∧ ∃ (t105_2 : Int), hcell h_28 ((a_1.add (Int.toNat i_1 * 5)).add 2) = some (.int .i64 t105_2) ∧ ∃ (t105_3 : Bool), hcell h_28 ((a_1.add (Int.toNat i_1 * 5)).add 3) = some (.bool t105_3) ∧ ∃ (t105_4_p : Option Addr) (t105_4_l t105_4_c : Nat), hcell h_28 ((a_1.add (Int.toNat i_1 * 5)).add 4) = some (.slice t105_4_p t105_4_l t105_4_c) ∧ 
                  NewP h_28 (.cells #[.int .i64 0, .int .u64 0, .int .i64 0, .bool false, .slice none 0 0] T.law15_Field) fun b_1 h_29 =>
                  StoreP h_29 ⟨b_1, 0, none⟩ (.int .i64 t105_0) fun h_30 =>
                  StoreP h_30 ⟨b_1, 1, none⟩ (.int .u64 t105_1) fun h_31 =>
                  StoreP h_31 ⟨b_1, 2, none⟩ (.int .i64 t105_2) fun h_32 =>
                  StoreP h_32 ⟨b_1, 3, none⟩ (.bool t105_3) fun h_33 =>
                  StoreP h_33 ⟨b_1, 4, none⟩ (.slice t105_4_p t105_4_l t105_4_c) fun h_34 =>
                  ∃ (t107 : Int), hcell h_34 ⟨b_1, 0, none⟩ = some (.int .i64 t107) ∧
                  JoinP (fun (fine : Bool) (h_35 : Heap) =>
                    if (!fine) = true then
                      R (.bool false) h_35
                    else
                      (I_1 (IntKind.wrap .i64 (i_1 + 1)) h_35 ∧ mu_1 (IntKind.wrap .i64 (i_1 + 1)) h_35 < mu_1 i_1 h_27))
                  (fun J_11 =>
                    JoinP (fun (fine_1 : Bool) (h_36 : Heap) =>
                      J_11 fine_1 h_36)
                    (fun J_12 =>
                      if (t107 == 0) = true then
                        ∃ (t113 : Int), hcell h_34 ⟨b_1, 1, none⟩ = some (.int .u64 t113) ∧
                        CallsH Try.prog F.fields_Reader_Num #[.pointer t78] h_34 fun v_9 h_37 =>
                        ∃ (t111 : Int), v_9 = .int .u64 t111 ∧
                        hcell h_37 ⟨b_1, 1, none⟩ = some (.int .u64 t113) ∧
                        CallsH Try.prog F.fields_Reader_Num #[.pointer short] h_37 fun v_10 h_38 =>
                        ∃ (t116 : Int), v_10 = .int .u64 t116 ∧
                        J_12 (t111 == t113) h_38
                      else
                        JoinP (fun (fine_2 : Bool) (h_39 : Heap) =>
                          J_12 fine_2 h_39)
                        (fun J_13 =>
                          if (t107 == 1) = true then
                            ∃ (t122 : Int), hcell h_34 ⟨b_1, 2, none⟩ = some (.int .i64 t122) ∧
                            CallsH Try.prog F.fields_Reader_Int #[.pointer t78] h_34 fun v_11 h_40 =>
                            ∃ (t120 : Int), v_11 = .int .i64 t120 ∧
                            hcell h_40 ⟨b_1, 2, none⟩ = some (.int .i64 t122) ∧
                            CallsH Try.prog F.fields_Reader_Int #[.pointer short] h_40 fun v_12 h_41 =>
                            ∃ (t125 : Int), v_12 = .int .i64 t125 ∧
                            J_13 (t120 == t122) h_41
                          else
                            JoinP (fun (fine_3 : Bool) (h_42 : Heap) =>
                              J_13 fine_3 h_42)
                            (fun J_14 =>
                              if (t107 == 2) = true then
                                ∃ (t131 : Bool), hcell h_34 ⟨b_1, 3, none⟩ = some (.bool t131) ∧
                                CallsH Try.prog F.fields_Reader_Bool #[.pointer t78] h_34 fun v_13 h_43 =>
                                ∃ (t129 : Bool), v_13 = .bool t129 ∧
                                hcell h_43 ⟨b_1, 3, none⟩ = some (.bool t131) ∧
                                CallsH Try.prog F.fields_Reader_Bool #[.pointer short] h_43 fun v_14 h_44 =>
                                ∃ (t134 : Bool), v_14 = .bool t134 ∧
                                J_14 (t129 == t131) h_44
                              else
                                JoinP (fun (fine_4 : Bool) (h_45 : Heap) =>
                                  J_14 fine_4 h_45)
                                (fun J_15 =>
                                  if (t107 == 3) = true then
                                    ∃ (t141_p : Option Addr) (t141_l t141_c : Nat), hcell h_34 ⟨b_1, 4, none⟩ = some (.slice t141_p t141_l t141_c) ∧
                                    ∃ (t142 : ByteArray), ConvV Try.prog T.s_uint8 T.string (.slice t141_p t141_l t141_c) h_34 t142 ∧
                                    CallsH Try.prog F.fields_Reader_Text #[.pointer t78] h_34 fun v_15 h_46 =>
                                    ∃ (t138_p : Option Addr) (t138_l t138_c : Nat), v_15 = .slice t138_p t138_l t138_c ∧
                                    ConvV Try.prog T.s_uint8 T.string (.slice t141_p t141_l t141_c) h_46 t142 ∧
                                    hcell h_46 ⟨b_1, 4, none⟩ = some (.slice t141_p t141_l t141_c) ∧
                                    ∃ (t139 : ByteArray), ConvV Try.prog T.s_uint8 T.string (.slice t138_p t138_l t138_c) h_46 t139 ∧
                                    CallsH Try.prog F.fields_Reader_Text #[.pointer short] h_46 fun v_16 h_47 =>
                                    ∃ (t145_p : Option Addr) (t145_l t145_c : Nat), v_16 = .slice t145_p t145_l t145_c ∧
                                    J_15 (t139.toList == t142.toList) h_47
                                  else
                                    J_15 true h_34)))))
                else
                  CallsH Try.prog F.law15_alive #[] h_28 fun v_17 h_48 =>
                  ∃ (t148 : Bool), v_17 = .bool t148 ∧
                  if t148 = true then
                    CallsH Try.prog F.fields_Reader_End #[.pointer t78] h_48 fun v_18 h_49 =>
                    ∃ (t151 : Int), v_18 = .int .i64 t151 ∧
                    if (t151 == 0) = true then
                      if (((t76_l : Nat) : Int) == 0) = true then
                        R (.bool true) h_49
                      else
                        CallsH Try.prog F.fields_Reader_End #[.pointer short] h_49 fun v_19 h_50 =>
                        ∃ (t160 : Int), v_19 = .int .i64 t160 ∧
                        R (.bool (t160 == 8)) h_50
                    else
                      R (.bool false) h_49
                  else
                    R (.bool false) h_48)
              (fun J_10 =>
                if (decide (i_1 < ((l_l : Nat) : Int))) = true then
                  J_10 (decide (i_1 < 60)) h_27
                else
                  J_10 false h_27))
          (fun J_9 =>
            if t87 = true then
              ((0 : Int) ≤ cut ∧ cut ≤ ((t76_c : Nat) : Int)) ∧ 
              CallsH Try.prog F.fields_Read #[.slice (slBase t76_p t76_c 0 1) ((Int.toNat cut) - 0) (t76_c - 0)] h_25 fun v_20 h_51 =>
              ∃ (t91 : Option Addr), v_20 = .pointer t91 ∧
              J_9 t91 h_51
            else
              J_9 t79 h_25))
        (fun J_8 =>
          if (decide (cut ≥ 0)) = true then
            J_8 (decide (cut < ((t76_l : Nat) : Int))) h_24
          else
            J_8 false h_24))
    (fun J =>
      if (decide (i < ((l_l : Nat) : Int))) = true then
        J (decide (i < 60)) h_2
      else
        J false h_2)
theorem law15_FieldsBack.den_eq (l_p : Option Addr) (l_l l_c : Nat) (cut : Int) (h : Heap) (R : Value → Heap → Prop) : law15_FieldsBack.vc l_p l_l l_c cut h R = den Try.prog Try.f5.ntmps (.seq .leaf (.seq .leaf (.seq (.seq .leaf (.block (.loop [(6, .one (.int .i64))] (.seq (.seq (.join [(22, .one (.bool))] .leaf) (.cond .leaf .leaf)) (.seq (.join [] (.block (.seq .leaf (.seq (.seq (.join [(47, .one (.bool))] .leaf) (.cond (.seq .leaf .leaf) .leaf)) (.seq .leaf (.join [] (.block (.seq .leaf (.join [] (.cond .leaf (.seq .leaf (.join [] (.cond .leaf (.seq .leaf (.join [] (.cond .leaf (.seq .leaf (.join [] (.cond .leaf .leaf))))))))))))))))))) .leaf))))) (.seq .leaf (.seq .leaf (.seq .leaf (.seq (.seq (.join [(87, .one (.bool))] .leaf) (.join [(10, .one (.ptr))] (.cond .leaf .leaf))) (.seq (.seq .leaf (.block (.loop [(11, .one (.int .i64))] (.seq (.seq (.join [(99, .one (.bool))] .leaf) (.cond .leaf .leaf)) (.seq (.block (.seq .leaf (.seq .leaf (.seq (.seq .leaf (.join [(13, .one (.bool))] (.block (.seq .leaf (.join [(13, .one (.bool))] (.cond (.seq (.plan (.op 0 (.op 2 (.op 3 (.op 1 (.op 4 (.op 5 .done))))))) .leaf) (.seq .leaf (.join [(13, .one (.bool))] (.cond (.seq (.plan (.op 0 (.op 2 (.op 3 (.op 1 (.op 4 (.op 5 .done))))))) .leaf) (.seq .leaf (.join [(13, .one (.bool))] (.cond (.seq (.plan (.op 0 (.op 2 (.op 3 (.op 1 (.op 4 (.op 5 .done))))))) .leaf) (.seq .leaf (.join [(13, .one (.bool))] (.cond (.seq (.plan (.op 0 (.op 3 (.op 4 (.op 5 (.op 1 (.op 2 (.op 6 (.op 7 .done))))))))) .leaf) .leaf))))))))))))))) (.seq .leaf (.cond (.seq .leaf .leaf) .leaf)))))) .leaf))))) (.seq .leaf .leaf))))))))) none (bodyOf Try.f5) (retK Try.prog Try.f5.results R) (argEnv [.slice l_p l_l l_c, .int .i64 cut]) h := by kernel_rfl
theorem law15_FieldsBack.walk {l_p : Option Addr} {l_l l_c : Nat} {cut : Int} {h : Heap} {R : Value → Heap → Prop} (hv : law15_FieldsBack.vc l_p l_l l_c cut h R) : CallsH Try.prog F.law15_FieldsBack #[.slice l_p l_l l_c, .int .i64 cut] h R :=
  callsH_of_body _ Try.func5 rfl rfl (Eq.mp (law15_FieldsBack.den_eq l_p l_l l_c cut h R) hv)

end Go.Proofs.Ytdabecfpdlpgbaa
