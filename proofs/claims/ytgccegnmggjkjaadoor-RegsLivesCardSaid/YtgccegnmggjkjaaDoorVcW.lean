/-
  Printed by a program of this work (vc.py): the verification conditions of functions, and that each is enough for the call. No condition.
-/
import Derived.Test.YtgccegnmggjkjaaDoorNames
set_option maxRecDepth 100000
set_option maxHeartbeats 4000000
namespace Go.Proofs.YtgccegnmggjkjaaDoor
open Go.Den
def regs_Table_Save.vc (t : Nat) (h : Heap) (R : Value → Heap → Prop) : Prop :=
  CallsH Tryd.prog F.regs_Table_All #[.pointer (some ⟨t, 0, none⟩)] h fun v h_1 =>
  ∃ (t7_p : Option Addr) (t7_l t7_c : Nat), v = .slice t7_p t7_l t7_c ∧
  ∃ (I : Option Addr → Nat → Nat → Int → Heap → Prop) (mu : Option Addr → Nat → Nat → Int → Heap → Nat), I none 0 0 0 h_1 ∧ ∀ (out_p : Option Addr) (out_l out_c : Nat) (t9 : Int) (h_2 : Heap), I out_p out_l out_c t9 h_2 →
    if (decide (t9 < ((t7_l : Nat) : Int))) = true then
      ((0 : Int) ≤ t9 ∧ t9 < ((t7_l : Nat) : Int)) ∧
      onSome t7_p fun a =>
      regs_Reg.LD h_2 (a.add (Int.toNat t9 * 7)) fun t12_0 t12_1 t12_2 t12_3 t12_4 t12_5 t12_6 =>
      NewP h_2 (.cells #[.bool false, .int .u64 0, .int .u64 0, .string (⟨#[]⟩ : ByteArray), .string (⟨#[]⟩ : ByteArray), .int .i64 0, .int .i64 0] T.regs_Reg) fun b h_3 =>
      regs_Reg.ST h_3 ⟨b, 0, none⟩ t12_0 t12_1 t12_2 t12_3 t12_4 t12_5 t12_6 fun h_4 =>
      regs_Reg.LD h_4 ⟨b, 0, none⟩ fun t14_0 t14_1 t14_2 t14_3 t14_4 t14_5 t14_6 =>
      CallsH Tryd.prog F.regs_record #[.agg #[.bool t14_0, .int .u64 t14_1, .int .u64 t14_2, .string t14_3, .string t14_4, .int .i64 t14_5, .int .i64 t14_6]] h_4 fun v_1 h_5 =>
      ∃ (t15_p : Option Addr) (t15_l t15_c : Nat), v_1 = .slice t15_p t15_l t15_c ∧
      NewP h_5 (.cells #[.slice t15_p t15_l t15_c] T.s_uint8) fun b_1 h_6 =>
      denSem Tryd.prog (Builtin.append_ #[T.s_s_uint8, T.s_s_uint8] T.s_s_uint8 #[.slice out_p out_l out_c, .slice (some ⟨b_1, 0, none⟩) 1 1]) h_6 fun v_2 h_7 =>
      ∃ (t17_p : Option Addr) (t17_l t17_c : Nat), v_2 = .slice t17_p t17_l t17_c ∧
      (I t17_p t17_l t17_c (IntKind.wrap .i64 (t9 + 1)) h_7 ∧ mu t17_p t17_l t17_c (IntKind.wrap .i64 (t9 + 1)) h_7 < mu out_p out_l out_c t9 h_2)
    else
      R (.slice out_p out_l out_c) h_2
theorem regs_Table_Save.den_eq (t : Nat) (h : Heap) (R : Value → Heap → Prop) : regs_Table_Save.vc t h R = den Tryd.prog Tryd.f19.ntmps (.seq .leaf (.seq .leaf (.seq (.seq .leaf (.block (.loop [(3, .one (.slice)), (9, .one (.int .i64))] (.seq .leaf (.seq (.cond .leaf .leaf) (.seq (.block (.seq .leaf .leaf)) .leaf)))))) (.seq .leaf .leaf)))) none (bodyOf Tryd.f19) (retK Tryd.prog Tryd.f19.results R) (argEnv [.pointer (some ⟨t, 0, none⟩)]) h := by kernel_rfl
theorem regs_Table_Save.walk {t : Nat} {h : Heap} {R : Value → Heap → Prop} (hv : regs_Table_Save.vc t h R) : CallsH Tryd.prog F.regs_Table_Save #[.pointer (some ⟨t, 0, none⟩)] h R :=
  callsH_of_body _ Tryd.func19 rfl rfl (Eq.mp (regs_Table_Save.den_eq t h R) hv)

def regs_record.vc (r_0 : Bool) (r_1 : Int) (r_2 : Int) (r_3 : ByteArray) (r_4 : ByteArray) (r_5 : Int) (r_6 : Int) (h : Heap) (R : Value → Heap → Prop) : Prop :=
  NewP h (.cells #[.bool r_0, .int .u64 r_1, .int .u64 r_2, .string r_3, .string r_4, .int .i64 r_5, .int .i64 r_6] T.regs_Reg) fun b h_1 =>
  eid_Eid.LD h_1 ⟨b, 0, none⟩ fun t7_0 t7_1 t7_2 t7_3 t7_4 =>
  CallsH Tryd.prog F.eid_Text #[.agg #[.bool t7_0, .int .u64 t7_1, .int .u64 t7_2, .string t7_3, .string t7_4]] h_1 fun v h_2 =>
  ∃ (t8_0 : ByteArray), ∃ (t8_1 : Int), v = .tuple #[.string t8_0, .int .i64 t8_1] ∧
  ∃ (t16 : Int), hcell h_2 ⟨b, 5, none⟩ = some (.int .i64 t16) ∧
  ∃ (t19 : Int), hcell h_2 ⟨b, 6, none⟩ = some (.int .i64 t19) ∧
  (CallsH Tryd.prog F.fields_New #[] h_2 fun v_1 h_3 =>
  ∃ (t11 : Option Addr), v_1 = .pointer t11 ∧
  hcell h_3 ⟨b, 6, none⟩ = some (.int .i64 t19) ∧
  hcell h_3 ⟨b, 5, none⟩ = some (.int .i64 t16) ∧
  denSem Tryd.prog (convert T.string T.s_uint8 (.string t8_0)) h_3 fun v_2 h_4 =>
  ∃ (t13_p : Option Addr) (t13_l t13_c : Nat), v_2 = .slice t13_p t13_l t13_c ∧
  hcell h_4 ⟨b, 6, none⟩ = some (.int .i64 t19) ∧
  hcell h_4 ⟨b, 5, none⟩ = some (.int .i64 t16) ∧
  CallsH Tryd.prog F.fields_Writer_Text #[.pointer t11, .slice t13_p t13_l t13_c] h_4 fun v_3 h_5 =>
  ∃ (t14 : Option Addr), v_3 = .pointer t14 ∧
  hcell h_5 ⟨b, 6, none⟩ = some (.int .i64 t19) ∧
  hcell h_5 ⟨b, 5, none⟩ = some (.int .i64 t16) ∧
  CallsH Tryd.prog F.fields_Writer_Int #[.pointer t14, .int .i64 t16] h_5 fun v_4 h_6 =>
  ∃ (t17 : Option Addr), v_4 = .pointer t17 ∧
  hcell h_6 ⟨b, 6, none⟩ = some (.int .i64 t19) ∧
  CallsH Tryd.prog F.fields_Writer_Int #[.pointer t17, .int .i64 t19] h_6 fun v_5 h_7 =>
  ∃ (t20 : Option Addr), v_5 = .pointer t20 ∧
  CallsH Tryd.prog F.fields_Writer_Bytes #[.pointer t20] h_7 fun v_6 h_8 =>
  ∃ (t21_p : Option Addr) (t21_l t21_c : Nat), v_6 = .slice t21_p t21_l t21_c ∧
  R (.slice t21_p t21_l t21_c) h_8) ∧
  (denSem Tryd.prog (convert T.string T.s_uint8 (.string t8_0)) h_2 fun v_7 h_9 =>
  ∃ (t13_p_1 : Option Addr) (t13_l_1 t13_c_1 : Nat), v_7 = .slice t13_p_1 t13_l_1 t13_c_1 ∧
  hcell h_9 ⟨b, 6, none⟩ = some (.int .i64 t19) ∧
  hcell h_9 ⟨b, 5, none⟩ = some (.int .i64 t16) ∧
  CallsH Tryd.prog F.fields_New #[] h_9 fun v_8 h_10 =>
  ∃ (t11_1 : Option Addr), v_8 = .pointer t11_1 ∧
  hcell h_10 ⟨b, 6, none⟩ = some (.int .i64 t19) ∧
  hcell h_10 ⟨b, 5, none⟩ = some (.int .i64 t16) ∧
  CallsH Tryd.prog F.fields_Writer_Text #[.pointer t11_1, .slice t13_p_1 t13_l_1 t13_c_1] h_10 fun v_9 h_11 =>
  ∃ (t14_1 : Option Addr), v_9 = .pointer t14_1 ∧
  hcell h_11 ⟨b, 6, none⟩ = some (.int .i64 t19) ∧
  hcell h_11 ⟨b, 5, none⟩ = some (.int .i64 t16) ∧
  CallsH Tryd.prog F.fields_Writer_Int #[.pointer t14_1, .int .i64 t16] h_11 fun v_10 h_12 =>
  ∃ (t17_1 : Option Addr), v_10 = .pointer t17_1 ∧
  hcell h_12 ⟨b, 6, none⟩ = some (.int .i64 t19) ∧
  CallsH Tryd.prog F.fields_Writer_Int #[.pointer t17_1, .int .i64 t19] h_12 fun v_11 h_13 =>
  ∃ (t20_1 : Option Addr), v_11 = .pointer t20_1 ∧
  CallsH Tryd.prog F.fields_Writer_Bytes #[.pointer t20_1] h_13 fun v_12 h_14 =>
  ∃ (t21_p_1 : Option Addr) (t21_l_1 t21_c_1 : Nat), v_12 = .slice t21_p_1 t21_l_1 t21_c_1 ∧
  R (.slice t21_p_1 t21_l_1 t21_c_1) h_14) ∧
  True
theorem regs_record.den_eq (r_0 : Bool) (r_1 : Int) (r_2 : Int) (r_3 : ByteArray) (r_4 : ByteArray) (r_5 : Int) (r_6 : Int) (h : Heap) (R : Value → Heap → Prop) : regs_record.vc r_0 r_1 r_2 r_3 r_4 r_5 r_6 h R = den Tryd.prog Tryd.f29.ntmps (.seq .leaf (.seq .leaf (.seq (.plan (.op 1 (.op 4 (.op 5 (.op 7 (.op 8 (.alts (.fork 0 (.op 2 (.op 3 (.op 6 (.op 9 (.op 10 (.op 11 .done)))))) (.fork 2 (.op 0 (.op 3 (.op 6 (.op 9 (.op 10 (.op 11 .done)))))) .noalt))))))))) .leaf))) none (bodyOf Tryd.f29) (retK Tryd.prog Tryd.f29.results R) (argEnv [.agg #[.bool r_0, .int .u64 r_1, .int .u64 r_2, .string r_3, .string r_4, .int .i64 r_5, .int .i64 r_6]]) h := by kernel_rfl
theorem regs_record.walk {r_0 : Bool} {r_1 : Int} {r_2 : Int} {r_3 : ByteArray} {r_4 : ByteArray} {r_5 : Int} {r_6 : Int} {h : Heap} {R : Value → Heap → Prop} (hv : regs_record.vc r_0 r_1 r_2 r_3 r_4 r_5 r_6 h R) : CallsH Tryd.prog F.regs_record #[.agg #[.bool r_0, .int .u64 r_1, .int .u64 r_2, .string r_3, .string r_4, .int .i64 r_5, .int .i64 r_6]] h R :=
  callsH_of_body _ Tryd.func29 rfl rfl (Eq.mp (regs_record.den_eq r_0 r_1 r_2 r_3 r_4 r_5 r_6 h R) hv)

def ref22_Table_Add.vc (t : Nat) (r_0 : Bool) (r_1 : Int) (r_2 : Int) (r_3 : ByteArray) (r_4 : ByteArray) (r_5 : Int) (r_6 : Int) (h : Heap) (R : Value → Heap → Prop) : Prop :=
  NewP h (.cells #[.bool r_0, .int .u64 r_1, .int .u64 r_2, .string r_3, .string r_4, .int .i64 r_5, .int .i64 r_6] T.ref22_Reg) fun b h_1 =>
  JoinP (fun (t30 : Bool) (h_2 : Heap) =>
    if t30 = true then
      R (.int .i64 1) h_2
    else
      ref04_Eid.LD h_2 ⟨b, 0, none⟩ fun t33_0 t33_1 t33_2 t33_3 t33_4 =>
      CallsH Tryd.prog F.ref22_Table_Find #[.pointer (some ⟨t, 0, none⟩), .agg #[.bool t33_0, .int .u64 t33_1, .int .u64 t33_2, .string t33_3, .string t33_4]] h_2 fun v h_3 =>
      ∃ (t34 : Int), v = .int .i64 t34 ∧
      if (decide (t34 ≥ 0)) = true then
        R (.int .i64 11) h_3
      else
        ∃ (t39_p : Option Addr) (t39_l t39_c : Nat), hcell h_3 ⟨t, 0, none⟩ = some (.slice t39_p t39_l t39_c) ∧
        if (decide (((t39_l : Nat) : Int) ≥ 8)) = true then
          R (.int .i64 15) h_3
        else
          ∃ (I : Option Addr → Nat → Nat → Int → Heap → Prop) (mu : Option Addr → Nat → Nat → Int → Heap → Nat), I none 0 0 0 h_3 ∧ ∀ (l_p : Option Addr) (l_l l_c : Nat) (i : Int) (h_4 : Heap), I l_p l_l l_c i h_4 →
            JoinP (fun (t61 : Bool) (h_5 : Heap) =>
              if t61 = true then
                ∃ (t66_p : Option Addr) (t66_l t66_c : Nat), hcell h_5 ⟨t, 0, none⟩ = some (.slice t66_p t66_l t66_c) ∧
                ((0 : Int) ≤ i ∧ i < ((t66_l : Nat) : Int)) ∧
                onSome t66_p fun a =>
                ref22_Reg.LD h_5 (a.add (Int.toNat i * 7)) fun t69_0 t69_1 t69_2 t69_3 t69_4 t69_5 t69_6 =>
                NewP h_5 (.cells #[.bool t69_0, .int .u64 t69_1, .int .u64 t69_2, .string t69_3, .string t69_4, .int .i64 t69_5, .int .i64 t69_6] T.ref22_Reg) fun b_1 h_6 =>
                denSem Tryd.prog (Builtin.append_ #[T.s_ref22_Reg, T.s_ref22_Reg] T.s_ref22_Reg #[.slice l_p l_l l_c, .slice (some ⟨b_1, 0, none⟩) 1 1]) h_6 fun v_1 h_7 =>
                ∃ (t71_p : Option Addr) (t71_l t71_c : Nat), v_1 = .slice t71_p t71_l t71_c ∧
                (I t71_p t71_l t71_c (IntKind.wrap .i64 (i + 1)) h_7 ∧ mu t71_p t71_l t71_c (IntKind.wrap .i64 (i + 1)) h_7 < mu l_p l_l l_c i h_4)
              else
                ref22_Reg.LD h_5 ⟨b, 0, none⟩ fun t75_0 t75_1 t75_2 t75_3 t75_4 t75_5 t75_6 =>
                NewP h_5 (.cells #[.bool t75_0, .int .u64 t75_1, .int .u64 t75_2, .string t75_3, .string t75_4, .int .i64 t75_5, .int .i64 t75_6] T.ref22_Reg) fun b_2 h_8 =>
                denSem Tryd.prog (Builtin.append_ #[T.s_ref22_Reg, T.s_ref22_Reg] T.s_ref22_Reg #[.slice l_p l_l l_c, .slice (some ⟨b_2, 0, none⟩) 1 1]) h_8 fun v_2 h_9 =>
                ∃ (t77_p : Option Addr) (t77_l t77_c : Nat), v_2 = .slice t77_p t77_l t77_c ∧
                ∃ (t83_p : Option Addr) (t83_l t83_c : Nat), hcell h_9 ⟨t, 0, none⟩ = some (.slice t83_p t83_l t83_c) ∧
                ((0 : Int) ≤ i ∧ i ≤ ((t83_l : Nat) : Int)) ∧ 
                denSem Tryd.prog (Builtin.append_ #[T.s_ref22_Reg, T.s_ref22_Reg] T.s_ref22_Reg #[.slice t77_p t77_l t77_c, .slice (slBase t83_p t83_c (Int.toNat i) 7) (t83_l - (Int.toNat i)) (t83_c - (Int.toNat i))]) h_9 fun v_3 h_10 =>
                ∃ (t86_p : Option Addr) (t86_l t86_c : Nat), v_3 = .slice t86_p t86_l t86_c ∧
                StoreP h_10 ⟨t, 0, none⟩ (.slice t86_p t86_l t86_c) fun h_11 =>
                R (.int .i64 0) h_11)
            (fun J_1 =>
              ∃ (t46_p : Option Addr) (t46_l t46_c : Nat), hcell h_4 ⟨t, 0, none⟩ = some (.slice t46_p t46_l t46_c) ∧
              if (decide (i < ((t46_l : Nat) : Int))) = true then
                ∃ (t53_p : Option Addr) (t53_l t53_c : Nat), hcell h_4 ⟨t, 0, none⟩ = some (.slice t53_p t53_l t53_c) ∧
                ((0 : Int) ≤ i ∧ i < ((t53_l : Nat) : Int)) ∧
                onSome t53_p fun a_1 =>
                ref04_Eid.LD h_4 (a_1.add (Int.toNat i * 7)) fun t57_0 t57_1 t57_2 t57_3 t57_4 =>
                ref04_Eid.LD h_4 ⟨b, 0, none⟩ fun t59_0 t59_1 t59_2 t59_3 t59_4 =>
                CallsH Tryd.prog F.ref04_Less #[.agg #[.bool t57_0, .int .u64 t57_1, .int .u64 t57_2, .string t57_3, .string t57_4], .agg #[.bool t59_0, .int .u64 t59_1, .int .u64 t59_2, .string t59_3, .string t59_4]] h_4 fun v_4 h_12 =>
                ∃ (t60 : Bool), v_4 = .bool t60 ∧
                hcell h_12 ⟨t, 0, none⟩ = some (.slice t53_p t53_l t53_c) ∧
                hcell h_12 ⟨t, 0, none⟩ = some (.slice t46_p t46_l t46_c) ∧
                J_1 t60 h_12
              else
                J_1 false h_4))
  (fun J =>
    ref04_Eid.LD h_1 ⟨b, 0, none⟩ fun t8_0 t8_1 t8_2 t8_3 t8_4 =>
    CallsH Tryd.prog F.ref04_Kind #[.agg #[.bool t8_0, .int .u64 t8_1, .int .u64 t8_2, .string t8_3, .string t8_4]] h_1 fun v_5 h_13 =>
    ∃ (t9 : Int), v_5 = .int .i64 t9 ∧
    if (decide (t9 < 1)) = true then
      J true h_13
    else
      ∃ (t13 : Int), hcell h_13 ⟨b, 5, none⟩ = some (.int .i64 t13) ∧
      if (decide (t13 < 0)) = true then
        J true h_13
      else
        ∃ (t18 : Int), hcell h_13 ⟨b, 5, none⟩ = some (.int .i64 t18) ∧
        if (decide (t18 > 2)) = true then
          J true h_13
        else
          ∃ (t23 : Int), hcell h_13 ⟨b, 6, none⟩ = some (.int .i64 t23) ∧
          if (decide (t23 < 1)) = true then
            J true h_13
          else
            ∃ (t28 : Int), hcell h_13 ⟨b, 6, none⟩ = some (.int .i64 t28) ∧
            J (decide (t28 > 1099511627776)) h_13)
theorem ref22_Table_Add.den_eq (t : Nat) (r_0 : Bool) (r_1 : Int) (r_2 : Int) (r_3 : ByteArray) (r_4 : ByteArray) (r_5 : Int) (r_6 : Int) (h : Heap) (R : Value → Heap → Prop) : ref22_Table_Add.vc t r_0 r_1 r_2 r_3 r_4 r_5 r_6 h R = den Tryd.prog Tryd.f8.ntmps (.seq .leaf (.seq (.seq (.join [(30, .one (.bool))] .leaf) (.cond (.seq .leaf .leaf) .leaf)) (.seq (.seq .leaf (.cond (.seq .leaf .leaf) .leaf)) (.seq (.seq .leaf (.cond (.seq .leaf .leaf) .leaf)) (.seq .leaf (.seq .leaf (.seq (.block (.loop [(5, .one (.slice)), (6, .one (.int .i64))] (.seq (.seq (.join [(61, .one (.bool))] (.plan (.op 0 (.op 1 (.op 2 (.op 3 (.op 4 (.op 5 (.op 6 (.op 7 (.op 8 (.op 9 (.op 10 (.op 11 (.op 12 (.op 13 (.op 14 (.op 15 (.op 16 (.op 17 (.op 18 (.op 19 .done)))))))))))))))))))))) (.cond .leaf .leaf)) (.block (.seq .leaf .leaf))))) (.seq .leaf (.seq .leaf (.seq .leaf .leaf)))))))))) none (bodyOf Tryd.f8) (retK Tryd.prog Tryd.f8.results R) (argEnv [.pointer (some ⟨t, 0, none⟩), .agg #[.bool r_0, .int .u64 r_1, .int .u64 r_2, .string r_3, .string r_4, .int .i64 r_5, .int .i64 r_6]]) h := by kernel_rfl
theorem ref22_Table_Add.walk {t : Nat} {r_0 : Bool} {r_1 : Int} {r_2 : Int} {r_3 : ByteArray} {r_4 : ByteArray} {r_5 : Int} {r_6 : Int} {h : Heap} {R : Value → Heap → Prop} (hv : ref22_Table_Add.vc t r_0 r_1 r_2 r_3 r_4 r_5 r_6 h R) : CallsH Tryd.prog F.ref22_Table_Add #[.pointer (some ⟨t, 0, none⟩), .agg #[.bool r_0, .int .u64 r_1, .int .u64 r_2, .string r_3, .string r_4, .int .i64 r_5, .int .i64 r_6]] h R :=
  callsH_of_body _ Tryd.func8 rfl rfl (Eq.mp (ref22_Table_Add.den_eq t r_0 r_1 r_2 r_3 r_4 r_5 r_6 h R) hv)

def ref22_Table_Remove.vc (t : Nat) (x_0 : Bool) (x_1 : Int) (x_2 : Int) (x_3 : ByteArray) (x_4 : ByteArray) (owner : Int) (h : Heap) (R : Value → Heap → Prop) : Prop :=
  NewP h (.cells #[.bool x_0, .int .u64 x_1, .int .u64 x_2, .string x_3, .string x_4] T.ref04_Eid) fun b h_1 =>
  ref04_Eid.LD h_1 ⟨b, 0, none⟩ fun t11_0 t11_1 t11_2 t11_3 t11_4 =>
  CallsH Tryd.prog F.ref22_Table_ask #[.pointer (some ⟨t, 0, none⟩), .agg #[.bool t11_0, .int .u64 t11_1, .int .u64 t11_2, .string t11_3, .string t11_4], .int .i64 owner] h_1 fun v h_2 =>
  ∃ (t13 : Int), v = .int .i64 t13 ∧
  if (t13 != 0) = true then
    R (.int .i64 t13) h_2
  else
    ref04_Eid.LD h_2 ⟨b, 0, none⟩ fun t18_0 t18_1 t18_2 t18_3 t18_4 =>
    CallsH Tryd.prog F.ref22_Table_Find #[.pointer (some ⟨t, 0, none⟩), .agg #[.bool t18_0, .int .u64 t18_1, .int .u64 t18_2, .string t18_3, .string t18_4]] h_2 fun v_1 h_3 =>
    ∃ (t19 : Int), v_1 = .int .i64 t19 ∧
    ∃ (t24_p : Option Addr) (t24_l t24_c : Nat), hcell h_3 ⟨t, 0, none⟩ = some (.slice t24_p t24_l t24_c) ∧
    ((0 : Int) ≤ t19 ∧ t19 ≤ ((t24_c : Nat) : Int)) ∧ 
    denSem Tryd.prog (Builtin.append_ #[T.s_ref22_Reg, T.s_ref22_Reg] T.s_ref22_Reg #[.slice none 0 0, .slice (slBase t24_p t24_c 0 7) ((Int.toNat t19) - 0) (t24_c - 0)]) h_3 fun v_2 h_4 =>
    ∃ (t27_p : Option Addr) (t27_l t27_c : Nat), v_2 = .slice t27_p t27_l t27_c ∧
    ∃ (t33_p : Option Addr) (t33_l t33_c : Nat), hcell h_4 ⟨t, 0, none⟩ = some (.slice t33_p t33_l t33_c) ∧
    ((0 : Int) ≤ IntKind.wrap .i64 (t19 + 1) ∧ IntKind.wrap .i64 (t19 + 1) ≤ ((t33_l : Nat) : Int)) ∧ 
    denSem Tryd.prog (Builtin.append_ #[T.s_ref22_Reg, T.s_ref22_Reg] T.s_ref22_Reg #[.slice t27_p t27_l t27_c, .slice (slBase t33_p t33_c (Int.toNat (IntKind.wrap .i64 (t19 + 1))) 7) (t33_l - (Int.toNat (IntKind.wrap .i64 (t19 + 1)))) (t33_c - (Int.toNat (IntKind.wrap .i64 (t19 + 1))))]) h_4 fun v_3 h_5 =>
    ∃ (t37_p : Option Addr) (t37_l t37_c : Nat), v_3 = .slice t37_p t37_l t37_c ∧
    StoreP h_5 ⟨t, 0, none⟩ (.slice t37_p t37_l t37_c) fun h_6 =>
    R (.int .i64 t13) h_6
theorem ref22_Table_Remove.den_eq (t : Nat) (x_0 : Bool) (x_1 : Int) (x_2 : Int) (x_3 : ByteArray) (x_4 : ByteArray) (owner : Int) (h : Heap) (R : Value → Heap → Prop) : ref22_Table_Remove.vc t x_0 x_1 x_2 x_3 x_4 owner h R = den Tryd.prog Tryd.f10.ntmps (.seq .leaf (.seq .leaf (.seq (.seq .leaf (.cond (.seq .leaf .leaf) .leaf)) (.seq .leaf (.seq .leaf (.seq .leaf (.seq .leaf (.seq .leaf .leaf)))))))) none (bodyOf Tryd.f10) (retK Tryd.prog Tryd.f10.results R) (argEnv [.pointer (some ⟨t, 0, none⟩), .agg #[.bool x_0, .int .u64 x_1, .int .u64 x_2, .string x_3, .string x_4], .int .i64 owner]) h := by kernel_rfl
theorem ref22_Table_Remove.walk {t : Nat} {x_0 : Bool} {x_1 : Int} {x_2 : Int} {x_3 : ByteArray} {x_4 : ByteArray} {owner : Int} {h : Heap} {R : Value → Heap → Prop} (hv : ref22_Table_Remove.vc t x_0 x_1 x_2 x_3 x_4 owner h R) : CallsH Tryd.prog F.ref22_Table_Remove #[.pointer (some ⟨t, 0, none⟩), .agg #[.bool x_0, .int .u64 x_1, .int .u64 x_2, .string x_3, .string x_4], .int .i64 owner] h R :=
  callsH_of_body _ Tryd.func10 rfl rfl (Eq.mp (ref22_Table_Remove.den_eq t x_0 x_1 x_2 x_3 x_4 owner h R) hv)

def ref22_Table_Policy.vc (t : Nat) (x_0 : Bool) (x_1 : Int) (x_2 : Int) (x_3 : ByteArray) (x_4 : ByteArray) (owner : Int) (policy : Int) (h : Heap) (R : Value → Heap → Prop) : Prop :=
  NewP h (.cells #[.bool x_0, .int .u64 x_1, .int .u64 x_2, .string x_3, .string x_4] T.ref04_Eid) fun b h_1 =>
  JoinP (fun (t15 : Bool) (h_2 : Heap) =>
    if t15 = true then
      R (.int .i64 1) h_2
    else
      ref04_Eid.LD h_2 ⟨b, 0, none⟩ fun t17_0 t17_1 t17_2 t17_3 t17_4 =>
      CallsH Tryd.prog F.ref22_Table_ask #[.pointer (some ⟨t, 0, none⟩), .agg #[.bool t17_0, .int .u64 t17_1, .int .u64 t17_2, .string t17_3, .string t17_4], .int .i64 owner] h_2 fun v h_3 =>
      ∃ (t19 : Int), v = .int .i64 t19 ∧
      JoinP (fun (h_4 : Heap) =>
        R (.int .i64 t19) h_4)
      (fun J_1 =>
        if (t19 == 0) = true then
          ∃ (t25_p : Option Addr) (t25_l t25_c : Nat), hcell h_3 ⟨t, 0, none⟩ = some (.slice t25_p t25_l t25_c) ∧
          ref04_Eid.LD h_3 ⟨b, 0, none⟩ fun t27_0 t27_1 t27_2 t27_3 t27_4 =>
          CallsH Tryd.prog F.ref22_Table_Find #[.pointer (some ⟨t, 0, none⟩), .agg #[.bool t27_0, .int .u64 t27_1, .int .u64 t27_2, .string t27_3, .string t27_4]] h_3 fun v_1 h_5 =>
          ∃ (t28 : Int), v_1 = .int .i64 t28 ∧
          hcell h_5 ⟨t, 0, none⟩ = some (.slice t25_p t25_l t25_c) ∧
          ((0 : Int) ≤ t28 ∧ t28 < ((t25_l : Nat) : Int)) ∧
          onSome t25_p fun a =>
          StoreP h_5 ((a.add (Int.toNat t28 * 7)).add 5) (.int .i64 policy) fun h_6 =>
          J_1 h_6
        else
          J_1 h_3))
  (fun J =>
    if (decide (policy < 0)) = true then
      J true h_1
    else
      J (decide (policy > 2)) h_1)
theorem ref22_Table_Policy.den_eq (t : Nat) (x_0 : Bool) (x_1 : Int) (x_2 : Int) (x_3 : ByteArray) (x_4 : ByteArray) (owner : Int) (policy : Int) (h : Heap) (R : Value → Heap → Prop) : ref22_Table_Policy.vc t x_0 x_1 x_2 x_3 x_4 owner policy h R = den Tryd.prog Tryd.f12.ntmps (.seq .leaf (.seq (.seq (.join [(15, .one (.bool))] .leaf) (.cond (.seq .leaf .leaf) .leaf)) (.seq .leaf (.seq (.seq .leaf (.join [] (.cond (.plan (.op 0 (.op 1 (.op 2 (.op 3 (.op 4 (.op 5 (.op 7 (.op 6 (.op 8 (.op 9 (.op 10 .done)))))))))))) .leaf))) (.seq .leaf .leaf))))) none (bodyOf Tryd.f12) (retK Tryd.prog Tryd.f12.results R) (argEnv [.pointer (some ⟨t, 0, none⟩), .agg #[.bool x_0, .int .u64 x_1, .int .u64 x_2, .string x_3, .string x_4], .int .i64 owner, .int .i64 policy]) h := by kernel_rfl
theorem ref22_Table_Policy.walk {t : Nat} {x_0 : Bool} {x_1 : Int} {x_2 : Int} {x_3 : ByteArray} {x_4 : ByteArray} {owner : Int} {policy : Int} {h : Heap} {R : Value → Heap → Prop} (hv : ref22_Table_Policy.vc t x_0 x_1 x_2 x_3 x_4 owner policy h R) : CallsH Tryd.prog F.ref22_Table_Policy #[.pointer (some ⟨t, 0, none⟩), .agg #[.bool x_0, .int .u64 x_1, .int .u64 x_2, .string x_3, .string x_4], .int .i64 owner, .int .i64 policy] h R :=
  callsH_of_body _ Tryd.func12 rfl rfl (Eq.mp (ref22_Table_Policy.den_eq t x_0 x_1 x_2 x_3 x_4 owner policy h R) hv)

def ref22_Table_Find.vc (t : Nat) (x_0 : Bool) (x_1 : Int) (x_2 : Int) (x_3 : ByteArray) (x_4 : ByteArray) (h : Heap) (R : Value → Heap → Prop) : Prop :=
  NewP h (.cells #[.bool x_0, .int .u64 x_1, .int .u64 x_2, .string x_3, .string x_4] T.ref04_Eid) fun b h_1 =>
  ∃ (I : Int → Heap → Prop) (mu : Int → Heap → Nat), I 0 h_1 ∧ ∀ (i : Int) (h_2 : Heap), I i h_2 →
    ∃ (t10_p : Option Addr) (t10_l t10_c : Nat), hcell h_2 ⟨t, 0, none⟩ = some (.slice t10_p t10_l t10_c) ∧
    if (decide (i < ((t10_l : Nat) : Int))) = true then
      ∃ (t18_p : Option Addr) (t18_l t18_c : Nat), hcell h_2 ⟨t, 0, none⟩ = some (.slice t18_p t18_l t18_c) ∧
      ((0 : Int) ≤ i ∧ i < ((t18_l : Nat) : Int)) ∧
      onSome t18_p fun a =>
      ref04_Eid.LD h_2 (a.add (Int.toNat i * 7)) fun t22_0 t22_1 t22_2 t22_3 t22_4 =>
      ref04_Eid.LD h_2 ⟨b, 0, none⟩ fun t23_0 t23_1 t23_2 t23_3 t23_4 =>
      ∃ (eq : Bool), EqV Tryd.prog T.ref04_Eid (.agg #[.bool t22_0, .int .u64 t22_1, .int .u64 t22_2, .string t22_3, .string t22_4]) (.agg #[.bool t23_0, .int .u64 t23_1, .int .u64 t23_2, .string t23_3, .string t23_4]) eq ∧
      if eq = true then
        R (.int .i64 i) h_2
      else
        (I (IntKind.wrap .i64 (i + 1)) h_2 ∧ mu (IntKind.wrap .i64 (i + 1)) h_2 < mu i h_2)
    else
      R (.int .i64 (-1)) h_2
theorem ref22_Table_Find.den_eq (t : Nat) (x_0 : Bool) (x_1 : Int) (x_2 : Int) (x_3 : ByteArray) (x_4 : ByteArray) (h : Heap) (R : Value → Heap → Prop) : ref22_Table_Find.vc t x_0 x_1 x_2 x_3 x_4 h R = den Tryd.prog Tryd.f14.ntmps (.seq .leaf (.seq (.seq .leaf (.block (.loop [(5, .one (.int .i64))] (.seq (.seq .leaf (.cond .leaf .leaf)) (.seq (.block (.seq (.plan (.op 0 (.op 1 (.op 2 (.op 3 (.op 4 (.op 5 (.op 6 (.op 7 (.op 8 (.op 9 .done))))))))))) (.cond (.seq .leaf .leaf) .leaf))) .leaf))))) (.seq .leaf .leaf))) none (bodyOf Tryd.f14) (retK Tryd.prog Tryd.f14.results R) (argEnv [.pointer (some ⟨t, 0, none⟩), .agg #[.bool x_0, .int .u64 x_1, .int .u64 x_2, .string x_3, .string x_4]]) h := by kernel_rfl
theorem ref22_Table_Find.walk {t : Nat} {x_0 : Bool} {x_1 : Int} {x_2 : Int} {x_3 : ByteArray} {x_4 : ByteArray} {h : Heap} {R : Value → Heap → Prop} (hv : ref22_Table_Find.vc t x_0 x_1 x_2 x_3 x_4 h R) : CallsH Tryd.prog F.ref22_Table_Find #[.pointer (some ⟨t, 0, none⟩), .agg #[.bool x_0, .int .u64 x_1, .int .u64 x_2, .string x_3, .string x_4]] h R :=
  callsH_of_body _ Tryd.func14 rfl rfl (Eq.mp (ref22_Table_Find.den_eq t x_0 x_1 x_2 x_3 x_4 h R) hv)

def ref22_Table_Save.vc (t : Nat) (h : Heap) (R : Value → Heap → Prop) : Prop :=
  ∃ (I : Option Addr → Nat → Nat → Int → Heap → Prop) (mu : Option Addr → Nat → Nat → Int → Heap → Nat), I none 0 0 0 h ∧ ∀ (out_p : Option Addr) (out_l out_c : Nat) (i : Int) (h_1 : Heap), I out_p out_l out_c i h_1 →
    ∃ (t10_p : Option Addr) (t10_l t10_c : Nat), hcell h_1 ⟨t, 0, none⟩ = some (.slice t10_p t10_l t10_c) ∧
    if (decide (i < ((t10_l : Nat) : Int))) = true then
      ∃ (t18_p : Option Addr) (t18_l t18_c : Nat), hcell h_1 ⟨t, 0, none⟩ = some (.slice t18_p t18_l t18_c) ∧
      ((0 : Int) ≤ i ∧ i < ((t18_l : Nat) : Int)) ∧
      onSome t18_p fun a =>
      ref04_Eid.LD h_1 (a.add (Int.toNat i * 7)) fun t22_0 t22_1 t22_2 t22_3 t22_4 =>
      CallsH Tryd.prog F.ref04_Text #[.agg #[.bool t22_0, .int .u64 t22_1, .int .u64 t22_2, .string t22_3, .string t22_4]] h_1 fun v h_2 =>
      ∃ (t23 : ByteArray), v = .string t23 ∧
      denSem Tryd.prog (convert T.string T.s_uint8 (.string t23)) h_2 fun v_1 h_3 =>
      ∃ (t24_p : Option Addr) (t24_l t24_c : Nat), v_1 = .slice t24_p t24_l t24_c ∧
      CallsH Tryd.prog F.ref15_Text #[.slice t24_p t24_l t24_c] h_3 fun v_2 h_4 =>
      ∃ (t25_p : Option Addr) (t25_l t25_c : Nat), v_2 = .slice t25_p t25_l t25_c ∧
      ∃ (t30_p : Option Addr) (t30_l t30_c : Nat), hcell h_4 ⟨t, 0, none⟩ = some (.slice t30_p t30_l t30_c) ∧
      ((0 : Int) ≤ i ∧ i < ((t30_l : Nat) : Int)) ∧
      onSome t30_p fun a_1 =>
      ∃ (t34 : Int), hcell h_4 ((a_1.add (Int.toNat i * 7)).add 5) = some (.int .i64 t34) ∧
      CallsH Tryd.prog F.ref15_Num #[.int .u64 (IntKind.wrap .u64 t34)] h_4 fun v_3 h_5 =>
      ∃ (t36_p : Option Addr) (t36_l t36_c : Nat), v_3 = .slice t36_p t36_l t36_c ∧
      denSem Tryd.prog (Builtin.append_ #[T.s_uint8, T.s_uint8] T.s_uint8 #[.slice t25_p t25_l t25_c, .slice t36_p t36_l t36_c]) h_5 fun v_4 h_6 =>
      ∃ (t37_p : Option Addr) (t37_l t37_c : Nat), v_4 = .slice t37_p t37_l t37_c ∧
      ∃ (t43_p : Option Addr) (t43_l t43_c : Nat), hcell h_6 ⟨t, 0, none⟩ = some (.slice t43_p t43_l t43_c) ∧
      ((0 : Int) ≤ i ∧ i < ((t43_l : Nat) : Int)) ∧
      onSome t43_p fun a_2 =>
      ∃ (t47 : Int), hcell h_6 ((a_2.add (Int.toNat i * 7)).add 6) = some (.int .i64 t47) ∧
      CallsH Tryd.prog F.ref15_Num #[.int .u64 (IntKind.wrap .u64 t47)] h_6 fun v_5 h_7 =>
      ∃ (t49_p : Option Addr) (t49_l t49_c : Nat), v_5 = .slice t49_p t49_l t49_c ∧
      denSem Tryd.prog (Builtin.append_ #[T.s_uint8, T.s_uint8] T.s_uint8 #[.slice t37_p t37_l t37_c, .slice t49_p t49_l t49_c]) h_7 fun v_6 h_8 =>
      ∃ (t50_p : Option Addr) (t50_l t50_c : Nat), v_6 = .slice t50_p t50_l t50_c ∧
      NewP h_8 (.cells #[.slice t50_p t50_l t50_c] T.s_uint8) fun b h_9 =>
      denSem Tryd.prog (Builtin.append_ #[T.s_s_uint8, T.s_s_uint8] T.s_s_uint8 #[.slice out_p out_l out_c, .slice (some ⟨b, 0, none⟩) 1 1]) h_9 fun v_7 h_10 =>
      ∃ (t52_p : Option Addr) (t52_l t52_c : Nat), v_7 = .slice t52_p t52_l t52_c ∧
      (I t52_p t52_l t52_c (IntKind.wrap .i64 (i + 1)) h_10 ∧ mu t52_p t52_l t52_c (IntKind.wrap .i64 (i + 1)) h_10 < mu out_p out_l out_c i h_1)
    else
      R (.slice out_p out_l out_c) h_1
theorem ref22_Table_Save.den_eq (t : Nat) (h : Heap) (R : Value → Heap → Prop) : ref22_Table_Save.vc t h R = den Tryd.prog Tryd.f20.ntmps (.seq .leaf (.seq .leaf (.seq (.seq .leaf (.block (.loop [(3, .one (.slice)), (4, .one (.int .i64))] (.seq (.seq .leaf (.cond .leaf .leaf)) (.seq (.block (.seq .leaf (.seq .leaf .leaf))) .leaf))))) (.seq .leaf .leaf)))) none (bodyOf Tryd.f20) (retK Tryd.prog Tryd.f20.results R) (argEnv [.pointer (some ⟨t, 0, none⟩)]) h := by kernel_rfl
theorem ref22_Table_Save.walk {t : Nat} {h : Heap} {R : Value → Heap → Prop} (hv : ref22_Table_Save.vc t h R) : CallsH Tryd.prog F.ref22_Table_Save #[.pointer (some ⟨t, 0, none⟩)] h R :=
  callsH_of_body _ Tryd.func20 rfl rfl (Eq.mp (ref22_Table_Save.den_eq t h R) hv)

def ref22_Table_ask.vc (t : Nat) (x_0 : Bool) (x_1 : Int) (x_2 : Int) (x_3 : ByteArray) (x_4 : ByteArray) (owner : Int) (h : Heap) (R : Value → Heap → Prop) : Prop :=
  NewP h (.cells #[.bool x_0, .int .u64 x_1, .int .u64 x_2, .string x_3, .string x_4] T.ref04_Eid) fun b h_1 =>
  ref04_Eid.LD h_1 ⟨b, 0, none⟩ fun t9_0 t9_1 t9_2 t9_3 t9_4 =>
  CallsH Tryd.prog F.ref22_Table_Find #[.pointer (some ⟨t, 0, none⟩), .agg #[.bool t9_0, .int .u64 t9_1, .int .u64 t9_2, .string t9_3, .string t9_4]] h_1 fun v h_2 =>
  ∃ (t10 : Int), v = .int .i64 t10 ∧
  if (decide (t10 < 0)) = true then
    R (.int .i64 4) h_2
  else
    ∃ (t16_p : Option Addr) (t16_l t16_c : Nat), hcell h_2 ⟨t, 0, none⟩ = some (.slice t16_p t16_l t16_c) ∧
    ((0 : Int) ≤ t10 ∧ t10 < ((t16_l : Nat) : Int)) ∧
    onSome t16_p fun a =>
    ∃ (t20 : Int), hcell h_2 ((a.add (Int.toNat t10 * 7)).add 6) = some (.int .i64 t20) ∧
    if (t20 != owner) = true then
      R (.int .i64 13) h_2
    else
      R (.int .i64 0) h_2
theorem ref22_Table_ask.den_eq (t : Nat) (x_0 : Bool) (x_1 : Int) (x_2 : Int) (x_3 : ByteArray) (x_4 : ByteArray) (owner : Int) (h : Heap) (R : Value → Heap → Prop) : ref22_Table_ask.vc t x_0 x_1 x_2 x_3 x_4 owner h R = den Tryd.prog Tryd.f27.ntmps (.seq .leaf (.seq .leaf (.seq (.seq .leaf (.cond (.seq .leaf .leaf) .leaf)) (.seq (.seq .leaf (.cond (.seq .leaf .leaf) .leaf)) (.seq .leaf .leaf))))) none (bodyOf Tryd.f27) (retK Tryd.prog Tryd.f27.results R) (argEnv [.pointer (some ⟨t, 0, none⟩), .agg #[.bool x_0, .int .u64 x_1, .int .u64 x_2, .string x_3, .string x_4], .int .i64 owner]) h := by kernel_rfl
theorem ref22_Table_ask.walk {t : Nat} {x_0 : Bool} {x_1 : Int} {x_2 : Int} {x_3 : ByteArray} {x_4 : ByteArray} {owner : Int} {h : Heap} {R : Value → Heap → Prop} (hv : ref22_Table_ask.vc t x_0 x_1 x_2 x_3 x_4 owner h R) : CallsH Tryd.prog F.ref22_Table_ask #[.pointer (some ⟨t, 0, none⟩), .agg #[.bool x_0, .int .u64 x_1, .int .u64 x_2, .string x_3, .string x_4], .int .i64 owner] h R :=
  callsH_of_body _ Tryd.func27 rfl rfl (Eq.mp (ref22_Table_ask.den_eq t x_0 x_1 x_2 x_3 x_4 owner h R) hv)

end Go.Proofs.YtgccegnmggjkjaaDoor
