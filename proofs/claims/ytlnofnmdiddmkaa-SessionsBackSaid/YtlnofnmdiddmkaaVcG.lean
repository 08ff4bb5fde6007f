/-
  Printed by a program of this work (vc.py): the verification conditions of functions, and that each is enough for the call. No condition.
-/
import Derived.Test.YtlnofnmdiddmkaaNames
set_option maxRecDepth 100000
set_option maxHeartbeats 4000000
namespace Go.Proofs.Ytlnofnmdiddmkaa
open Go.Den
def sessions_Table_All.vc (t : Nat) (h : Heap) (R : Value → Heap → Prop) : Prop :=
  ∃ (t16_p : Option Addr) (t16_l t16_c : Nat), hcell h ⟨t, 1, none⟩ = some (.slice t16_p t16_l t16_c) ∧
  ∃ (I : Option Addr → Nat → Nat → Int → Heap → Prop) (mu : Option Addr → Nat → Nat → Int → Heap → Nat), I none 0 0 0 h ∧ ∀ (out_p : Option Addr) (out_l out_c : Nat) (t18 : Int) (h_1 : Heap), I out_p out_l out_c t18 h_1 →
    if (decide (t18 < ((t16_l : Nat) : Int))) = true then
      ((0 : Int) ≤ t18 ∧ t18 < ((t16_l : Nat) : Int)) ∧
      onSome t16_p fun a =>
      ∃ (t21 : Option Addr), hcell h_1 (a.add (Int.toNat t18 * 1)) = some (.pointer t21) ∧
      onSome t21 fun a_1 =>
      ∃ (t24_0 : Int), hcell h_1 a_1 = some (.int .i64 t24_0) ∧ ∃ (t24_1 : Int), hcell h_1 (a_1.add 1) = some (.int .u64 t24_1) ∧ ∃ (t24_2 : Bool), hcell h_1 (a_1.add 2) = some (.bool t24_2) ∧ ∃ (t24_3 : Bool), hcell h_1 (a_1.add 3) = some (.bool t24_3) ∧ ∃ (t24_4_p : Option Addr) (t24_4_l t24_4_c : Nat), hcell h_1 (a_1.add 4) = some (.slice t24_4_p t24_4_l t24_4_c) ∧ ∃ (t24_5_p : Option Addr) (t24_5_l t24_5_c : Nat), hcell h_1 (a_1.add 5) = some (.slice t24_5_p t24_5_l t24_5_c) ∧ 
      NewP h_1 (.cells #[.int .i64 0, .int .u64 0, .bool false, .bool false, .slice none 0 0, .slice none 0 0] T.sessions_Session) fun b h_2 =>
      StoreP h_2 ⟨b, 0, none⟩ (.int .i64 t24_0) fun h_3 =>
      StoreP h_3 ⟨b, 1, none⟩ (.int .u64 t24_1) fun h_4 =>
      StoreP h_4 ⟨b, 2, none⟩ (.bool t24_2) fun h_5 =>
      StoreP h_5 ⟨b, 3, none⟩ (.bool t24_3) fun h_6 =>
      StoreP h_6 ⟨b, 4, none⟩ (.slice t24_4_p t24_4_l t24_4_c) fun h_7 =>
      StoreP h_7 ⟨b, 5, none⟩ (.slice t24_5_p t24_5_l t24_5_c) fun h_8 =>
      StoreP h_8 ⟨b, 4, none⟩ (.slice none 0 0) fun h_9 =>
      StoreP h_9 ⟨b, 5, none⟩ (.slice none 0 0) fun h_10 =>
      onSome t21 fun a_2 =>
      ∃ (t30_p : Option Addr) (t30_l t30_c : Nat), hcell h_10 (a_2.add 4) = some (.slice t30_p t30_l t30_c) ∧
      ∃ (I_1 : Int → Heap → Prop) (mu_1 : Int → Heap → Nat), I_1 0 h_10 ∧ ∀ (t32 : Int) (h_11 : Heap), I_1 t32 h_11 →
        if (decide (t32 < ((t30_l : Nat) : Int))) = true then
          ((0 : Int) ≤ t32 ∧ t32 < ((t30_l : Nat) : Int)) ∧
          onSome t30_p fun a_3 =>
          ∃ (t35_0 : Int), hcell h_11 (a_3.add (Int.toNat t32 * 2)) = some (.int .u64 t35_0) ∧ ∃ (t35_1_p : Option Addr) (t35_1_l t35_1_c : Nat), hcell h_11 ((a_3.add (Int.toNat t32 * 2)).add 1) = some (.slice t35_1_p t35_1_l t35_1_c) ∧ 
          NewP h_11 (.cells #[.int .u64 0, .slice none 0 0] T.sessions_Answer) fun b_1 h_12 =>
          StoreP h_12 ⟨b_1, 0, none⟩ (.int .u64 t35_0) fun h_13 =>
          StoreP h_13 ⟨b_1, 1, none⟩ (.slice t35_1_p t35_1_l t35_1_c) fun h_14 =>
          ∃ (t37_p : Option Addr) (t37_l t37_c : Nat), hcell h_14 ⟨b, 4, none⟩ = some (.slice t37_p t37_l t37_c) ∧
          ∃ (t39 : Int), hcell h_14 ⟨b_1, 0, none⟩ = some (.int .u64 t39) ∧
          ∃ (t41_p : Option Addr) (t41_l t41_c : Nat), hcell h_14 ⟨b_1, 1, none⟩ = some (.slice t41_p t41_l t41_c) ∧
          CallsH Try.prog F.slices_Clone_s_byte_byte #[.slice t41_p t41_l t41_c] h_14 fun v h_15 =>
          ∃ (t42_p : Option Addr) (t42_l t42_c : Nat), v = .slice t42_p t42_l t42_c ∧
          hcell h_15 ⟨b_1, 0, none⟩ = some (.int .u64 t39) ∧
          hcell h_15 ⟨b, 4, none⟩ = some (.slice t37_p t37_l t37_c) ∧
          NewP h_15 (.cells #[.int .u64 t39, .slice t42_p t42_l t42_c] T.sessions_Answer) fun b_2 h_16 =>
          hcell h_16 ⟨b_1, 0, none⟩ = some (.int .u64 t39) ∧
          hcell h_16 ⟨b, 4, none⟩ = some (.slice t37_p t37_l t37_c) ∧
          denSem Try.prog (Builtin.append_ #[T.s_sessions_Answer, T.s_sessions_Answer] T.s_sessions_Answer #[.slice t37_p t37_l t37_c, .slice (some ⟨b_2, 0, none⟩) 1 1]) h_16 fun v_1 h_17 =>
          ∃ (t45_p : Option Addr) (t45_l t45_c : Nat), v_1 = .slice t45_p t45_l t45_c ∧
          hcell h_17 ⟨b_1, 0, none⟩ = some (.int .u64 t39) ∧
          StoreP h_17 ⟨b, 4, none⟩ (.slice t45_p t45_l t45_c) fun h_18 =>
          (I_1 (IntKind.wrap .i64 (t32 + 1)) h_18 ∧ mu_1 (IntKind.wrap .i64 (t32 + 1)) h_18 < mu_1 t32 h_11)
        else
          onSome t21 fun a_4 =>
          ∃ (t51_p : Option Addr) (t51_l t51_c : Nat), hcell h_11 (a_4.add 5) = some (.slice t51_p t51_l t51_c) ∧
          ∃ (I_2 : Int → Heap → Prop) (mu_2 : Int → Heap → Nat), I_2 0 h_11 ∧ ∀ (t53 : Int) (h_19 : Heap), I_2 t53 h_19 →
            if (decide (t53 < ((t51_l : Nat) : Int))) = true then
              ((0 : Int) ≤ t53 ∧ t53 < ((t51_l : Nat) : Int)) ∧
              onSome t51_p fun a_5 =>
              ∃ (t56_p : Option Addr) (t56_l t56_c : Nat), hcell h_19 (a_5.add (Int.toNat t53 * 1)) = some (.slice t56_p t56_l t56_c) ∧
              ∃ (t58_p : Option Addr) (t58_l t58_c : Nat), hcell h_19 ⟨b, 5, none⟩ = some (.slice t58_p t58_l t58_c) ∧
              CallsH Try.prog F.slices_Clone_s_byte_byte #[.slice t56_p t56_l t56_c] h_19 fun v_2 h_20 =>
              ∃ (t60_p : Option Addr) (t60_l t60_c : Nat), v_2 = .slice t60_p t60_l t60_c ∧
              hcell h_20 ⟨b, 5, none⟩ = some (.slice t58_p t58_l t58_c) ∧
              NewP h_20 (.cells #[.slice t60_p t60_l t60_c] T.s_uint8) fun b_3 h_21 =>
              hcell h_21 ⟨b, 5, none⟩ = some (.slice t58_p t58_l t58_c) ∧
              denSem Try.prog (Builtin.append_ #[T.s_s_uint8, T.s_s_uint8] T.s_s_uint8 #[.slice t58_p t58_l t58_c, .slice (some ⟨b_3, 0, none⟩) 1 1]) h_21 fun v_3 h_22 =>
              ∃ (t62_p : Option Addr) (t62_l t62_c : Nat), v_3 = .slice t62_p t62_l t62_c ∧
              StoreP h_22 ⟨b, 5, none⟩ (.slice t62_p t62_l t62_c) fun h_23 =>
              (I_2 (IntKind.wrap .i64 (t53 + 1)) h_23 ∧ mu_2 (IntKind.wrap .i64 (t53 + 1)) h_23 < mu_2 t53 h_19)
            else
              ∃ (t66_0 : Int), hcell h_19 ⟨b, 0, none⟩ = some (.int .i64 t66_0) ∧ ∃ (t66_1 : Int), hcell h_19 ⟨b, 1, none⟩ = some (.int .u64 t66_1) ∧ ∃ (t66_2 : Bool), hcell h_19 ⟨b, 2, none⟩ = some (.bool t66_2) ∧ ∃ (t66_3 : Bool), hcell h_19 ⟨b, 3, none⟩ = some (.bool t66_3) ∧ ∃ (t66_4_p : Option Addr) (t66_4_l t66_4_c : Nat), hcell h_19 ⟨b, 4, none⟩ = some (.slice t66_4_p t66_4_l t66_4_c) ∧ ∃ (t66_5_p : Option Addr) (t66_5_l t66_5_c : Nat), hcell h_19 ⟨b, 5, none⟩ = some (.slice t66_5_p t66_5_l t66_5_c) ∧ 
              NewP h_19 (.cells #[.int .i64 t66_0, .int .u64 t66_1, .bool t66_2, .bool t66_3, .slice t66_4_p t66_4_l t66_4_c, .slice t66_5_p t66_5_l t66_5_c] T.sessions_Session) fun b_4 h_24 =>
              denSem Try.prog (Builtin.append_ #[T.s_sessions_Session, T.s_sessions_Session] T.s_sessions_Session #[.slice out_p out_l out_c, .slice (some ⟨b_4, 0, none⟩) 1 1]) h_24 fun v_4 h_25 =>
              ∃ (t68_p : Option Addr) (t68_l t68_c : Nat), v_4 = .slice t68_p t68_l t68_c ∧
              (I t68_p t68_l t68_c (IntKind.wrap .i64 (t18 + 1)) h_25 ∧ mu t68_p t68_l t68_c (IntKind.wrap .i64 (t18 + 1)) h_25 < mu out_p out_l out_c t18 h_1)
    else
      R (.slice out_p out_l out_c) h_1
theorem sessions_Table_All.den_eq (t : Nat) (h : Heap) (R : Value → Heap → Prop) : sessions_Table_All.vc t h R = den Try.prog Try.f20.ntmps (.seq .leaf (.seq .leaf (.seq (.seq .leaf (.cond (.seq .leaf .leaf) .leaf)) (.seq (.seq .leaf (.block (.loop [(3, .one (.slice)), (18, .one (.int .i64))] (.seq .leaf (.seq (.cond .leaf .leaf) (.seq (.block (.seq .leaf (.seq .leaf (.seq .leaf (.seq (.seq .leaf (.block (.loop [(32, .one (.int .i64))] (.seq .leaf (.seq (.cond .leaf .leaf) (.seq (.block (.seq .leaf (.plan (.op 0 (.op 1 (.op 2 (.op 3 (.op 4 (.op 5 (.op 6 (.op 7 (.op 8 (.op 9 (.op 10 (.op 11 .done))))))))))))))) .leaf)))))) (.seq (.seq .leaf (.block (.loop [(53, .one (.int .i64))] (.seq .leaf (.seq (.cond .leaf .leaf) (.seq (.block (.seq .leaf (.plan (.op 0 (.op 1 (.op 2 (.op 3 (.op 4 (.op 5 (.op 6 (.op 7 .done))))))))))) .leaf)))))) .leaf)))))) .leaf)))))) (.seq .leaf .leaf))))) none (bodyOf Try.f20) (retK Try.prog Try.f20.results R) (argEnv [.pointer (some ⟨t, 0, none⟩)]) h := by kernel_rfl
theorem sessions_Table_All.walk {t : Nat} {h : Heap} {R : Value → Heap → Prop} (hv : sessions_Table_All.vc t h R) : CallsH Try.prog F.sessions_Table_All #[.pointer (some ⟨t, 0, none⟩)] h R :=
  callsH_of_body _ Try.func20 rfl rfl (Eq.mp (sessions_Table_All.den_eq t h R) hv)

def sessions_Table_All.nil.vc  (h : Heap) (R : Value → Heap → Prop) : Prop :=
  R (.slice none 0 0) h
theorem sessions_Table_All.nil.den_eq  (h : Heap) (R : Value → Heap → Prop) : sessions_Table_All.nil.vc h R = den Try.prog Try.f20.ntmps (.seq .leaf (.seq .leaf (.seq (.seq .leaf (.cond (.seq .leaf .leaf) .leaf)) (.seq (.seq .leaf (.block (.loop [(3, .one (.slice)), (18, .one (.int .i64))] (.seq .leaf (.seq (.cond .leaf .leaf) (.seq (.block (.seq .leaf (.seq .leaf (.seq .leaf (.seq (.seq .leaf (.block (.loop [(32, .one (.int .i64))] (.seq .leaf (.seq (.cond .leaf .leaf) (.seq (.block (.seq .leaf (.plan (.op 0 (.op 1 (.op 2 (.op 3 (.op 4 (.op 5 (.op 6 (.op 7 (.op 8 (.op 9 (.op 10 (.op 11 .done))))))))))))))) .leaf)))))) (.seq (.seq .leaf (.block (.loop [(53, .one (.int .i64))] (.seq .leaf (.seq (.cond .leaf .leaf) (.seq (.block (.seq .leaf (.plan (.op 0 (.op 1 (.op 2 (.op 3 (.op 4 (.op 5 (.op 6 (.op 7 .done))))))))))) .leaf)))))) .leaf)))))) .leaf)))))) (.seq .leaf .leaf))))) none (bodyOf Try.f20) (retK Try.prog Try.f20.results R) (argEnv [.pointer none]) h := by kernel_rfl
theorem sessions_Table_All.nil.walk  {h : Heap} {R : Value → Heap → Prop} (hv : sessions_Table_All.nil.vc h R) : CallsH Try.prog F.sessions_Table_All #[.pointer none] h R :=
  callsH_of_body _ Try.func20 rfl rfl (Eq.mp (sessions_Table_All.nil.den_eq h R) hv)

def sessions_Table_Save.vc (t : Nat) (h : Heap) (R : Value → Heap → Prop) : Prop :=
  CallsH Try.prog F.sessions_Table_All #[.pointer (some ⟨t, 0, none⟩)] h fun v h_1 =>
  ∃ (t11_p : Option Addr) (t11_l t11_c : Nat), v = .slice t11_p t11_l t11_c ∧
  ∃ (I : Option Addr → Nat → Nat → Int → Heap → Prop) (mu : Option Addr → Nat → Nat → Int → Heap → Nat), I none 0 0 0 h_1 ∧ ∀ (out_p : Option Addr) (out_l out_c : Nat) (t13 : Int) (h_2 : Heap), I out_p out_l out_c t13 h_2 →
    if (decide (t13 < ((t11_l : Nat) : Int))) = true then
      ((0 : Int) ≤ t13 ∧ t13 < ((t11_l : Nat) : Int)) ∧
      onSome t11_p fun a =>
      ∃ (t16_0 : Int), hcell h_2 (a.add (Int.toNat t13 * 6)) = some (.int .i64 t16_0) ∧ ∃ (t16_1 : Int), hcell h_2 ((a.add (Int.toNat t13 * 6)).add 1) = some (.int .u64 t16_1) ∧ ∃ (t16_2 : Bool), hcell h_2 ((a.add (Int.toNat t13 * 6)).add 2) = some (.bool t16_2) ∧ ∃ (t16_3 : Bool), hcell h_2 ((a.add (Int.toNat t13 * 6)).add 3) = some (.bool t16_3) ∧ ∃ (t16_4_p : Option Addr) (t16_4_l t16_4_c : Nat), hcell h_2 ((a.add (Int.toNat t13 * 6)).add 4) = some (.slice t16_4_p t16_4_l t16_4_c) ∧ ∃ (t16_5_p : Option Addr) (t16_5_l t16_5_c : Nat), hcell h_2 ((a.add (Int.toNat t13 * 6)).add 5) = some (.slice t16_5_p t16_5_l t16_5_c) ∧ 
      NewP h_2 (.cells #[.int .i64 0, .int .u64 0, .bool false, .bool false, .slice none 0 0, .slice none 0 0] T.sessions_Session) fun b h_3 =>
      StoreP h_3 ⟨b, 0, none⟩ (.int .i64 t16_0) fun h_4 =>
      StoreP h_4 ⟨b, 1, none⟩ (.int .u64 t16_1) fun h_5 =>
      StoreP h_5 ⟨b, 2, none⟩ (.bool t16_2) fun h_6 =>
      StoreP h_6 ⟨b, 3, none⟩ (.bool t16_3) fun h_7 =>
      StoreP h_7 ⟨b, 4, none⟩ (.slice t16_4_p t16_4_l t16_4_c) fun h_8 =>
      StoreP h_8 ⟨b, 5, none⟩ (.slice t16_5_p t16_5_l t16_5_c) fun h_9 =>
      ∃ (t20 : Int), hcell h_9 ⟨b, 0, none⟩ = some (.int .i64 t20) ∧
      ∃ (t23 : Int), hcell h_9 ⟨b, 1, none⟩ = some (.int .u64 t23) ∧
      ∃ (t26 : Bool), hcell h_9 ⟨b, 2, none⟩ = some (.bool t26) ∧
      ∃ (t29 : Bool), hcell h_9 ⟨b, 3, none⟩ = some (.bool t29) ∧
      ∃ (t32_p : Option Addr) (t32_l t32_c : Nat), hcell h_9 ⟨b, 4, none⟩ = some (.slice t32_p t32_l t32_c) ∧
      ∃ (t36_p : Option Addr) (t36_l t36_c : Nat), hcell h_9 ⟨b, 5, none⟩ = some (.slice t36_p t36_l t36_c) ∧
      CallsH Try.prog F.fields_New #[] h_9 fun v_1 h_10 =>
      ∃ (t18 : Option Addr), v_1 = .pointer t18 ∧
      hcell h_10 ⟨b, 5, none⟩ = some (.slice t36_p t36_l t36_c) ∧
      hcell h_10 ⟨b, 4, none⟩ = some (.slice t32_p t32_l t32_c) ∧
      hcell h_10 ⟨b, 3, none⟩ = some (.bool t29) ∧
      hcell h_10 ⟨b, 2, none⟩ = some (.bool t26) ∧
      hcell h_10 ⟨b, 1, none⟩ = some (.int .u64 t23) ∧
      hcell h_10 ⟨b, 0, none⟩ = some (.int .i64 t20) ∧
      CallsH Try.prog F.fields_Writer_Int #[.pointer t18, .int .i64 t20] h_10 fun v_2 h_11 =>
      ∃ (t21 : Option Addr), v_2 = .pointer t21 ∧
      hcell h_11 ⟨b, 5, none⟩ = some (.slice t36_p t36_l t36_c) ∧
      hcell h_11 ⟨b, 4, none⟩ = some (.slice t32_p t32_l t32_c) ∧
      hcell h_11 ⟨b, 3, none⟩ = some (.bool t29) ∧
      hcell h_11 ⟨b, 2, none⟩ = some (.bool t26) ∧
      hcell h_11 ⟨b, 1, none⟩ = some (.int .u64 t23) ∧
      CallsH Try.prog F.fields_Writer_Num #[.pointer t21, .int .u64 t23] h_11 fun v_3 h_12 =>
      ∃ (t24 : Option Addr), v_3 = .pointer t24 ∧
      hcell h_12 ⟨b, 5, none⟩ = some (.slice t36_p t36_l t36_c) ∧
      hcell h_12 ⟨b, 4, none⟩ = some (.slice t32_p t32_l t32_c) ∧
      hcell h_12 ⟨b, 3, none⟩ = some (.bool t29) ∧
      hcell h_12 ⟨b, 2, none⟩ = some (.bool t26) ∧
      CallsH Try.prog F.fields_Writer_Bool #[.pointer t24, .bool t26] h_12 fun v_4 h_13 =>
      ∃ (t27 : Option Addr), v_4 = .pointer t27 ∧
      hcell h_13 ⟨b, 5, none⟩ = some (.slice t36_p t36_l t36_c) ∧
      hcell h_13 ⟨b, 4, none⟩ = some (.slice t32_p t32_l t32_c) ∧
      hcell h_13 ⟨b, 3, none⟩ = some (.bool t29) ∧
      CallsH Try.prog F.fields_Writer_Bool #[.pointer t27, .bool t29] h_13 fun v_5 h_14 =>
      ∃ (t30 : Option Addr), v_5 = .pointer t30 ∧
      hcell h_14 ⟨b, 5, none⟩ = some (.slice t36_p t36_l t36_c) ∧
      hcell h_14 ⟨b, 4, none⟩ = some (.slice t32_p t32_l t32_c) ∧
      CallsH Try.prog F.fields_Writer_Int #[.pointer t30, .int .i64 ((t32_l : Nat) : Int)] h_14 fun v_6 h_15 =>
      ∃ (t34 : Option Addr), v_6 = .pointer t34 ∧
      hcell h_15 ⟨b, 5, none⟩ = some (.slice t36_p t36_l t36_c) ∧
      hcell h_15 ⟨b, 4, none⟩ = some (.slice t32_p t32_l t32_c) ∧
      CallsH Try.prog F.fields_Writer_Int #[.pointer t34, .int .i64 ((t36_l : Nat) : Int)] h_15 fun v_7 h_16 =>
      ∃ (t38 : Option Addr), v_7 = .pointer t38 ∧
      hcell h_16 ⟨b, 5, none⟩ = some (.slice t36_p t36_l t36_c) ∧
      hcell h_16 ⟨b, 4, none⟩ = some (.slice t32_p t32_l t32_c) ∧
      CallsH Try.prog F.fields_Writer_Bytes #[.pointer t38] h_16 fun v_8 h_17 =>
      ∃ (t39_p : Option Addr) (t39_l t39_c : Nat), v_8 = .slice t39_p t39_l t39_c ∧
      hcell h_17 ⟨b, 5, none⟩ = some (.slice t36_p t36_l t36_c) ∧
      hcell h_17 ⟨b, 4, none⟩ = some (.slice t32_p t32_l t32_c) ∧
      NewP h_17 (.cells #[.slice t39_p t39_l t39_c] T.s_uint8) fun b_1 h_18 =>
      hcell h_18 ⟨b, 5, none⟩ = some (.slice t36_p t36_l t36_c) ∧
      hcell h_18 ⟨b, 4, none⟩ = some (.slice t32_p t32_l t32_c) ∧
      denSem Try.prog (Builtin.append_ #[T.s_s_uint8, T.s_s_uint8] T.s_s_uint8 #[.slice out_p out_l out_c, .slice (some ⟨b_1, 0, none⟩) 1 1]) h_18 fun v_9 h_19 =>
      ∃ (t41_p : Option Addr) (t41_l t41_c : Nat), v_9 = .slice t41_p t41_l t41_c ∧
      hcell h_19 ⟨b, 5, none⟩ = some (.slice t36_p t36_l t36_c) ∧
      hcell h_19 ⟨b, 4, none⟩ = some (.slice t32_p t32_l t32_c) ∧
      ∃ (t43_p : Option Addr) (t43_l t43_c : Nat), hcell h_19 ⟨b, 4, none⟩ = some (.slice t43_p t43_l t43_c) ∧
      ∃ (I_1 : Option Addr → Nat → Nat → Int → Heap → Prop) (mu_1 : Option Addr → Nat → Nat → Int → Heap → Nat), I_1 t41_p t41_l t41_c 0 h_19 ∧ ∀ (out_p_1 : Option Addr) (out_l_1 out_c_1 : Nat) (t45 : Int) (h_20 : Heap), I_1 out_p_1 out_l_1 out_c_1 t45 h_20 →
        if (decide (t45 < ((t43_l : Nat) : Int))) = true then
          ((0 : Int) ≤ t45 ∧ t45 < ((t43_l : Nat) : Int)) ∧
          onSome t43_p fun a_1 =>
          ∃ (t48_0 : Int), hcell h_20 (a_1.add (Int.toNat t45 * 2)) = some (.int .u64 t48_0) ∧ ∃ (t48_1_p : Option Addr) (t48_1_l t48_1_c : Nat), hcell h_20 ((a_1.add (Int.toNat t45 * 2)).add 1) = some (.slice t48_1_p t48_1_l t48_1_c) ∧ 
          NewP h_20 (.cells #[.int .u64 0, .slice none 0 0] T.sessions_Answer) fun b_2 h_21 =>
          StoreP h_21 ⟨b_2, 0, none⟩ (.int .u64 t48_0) fun h_22 =>
          StoreP h_22 ⟨b_2, 1, none⟩ (.slice t48_1_p t48_1_l t48_1_c) fun h_23 =>
          ∃ (t52 : Int), hcell h_23 ⟨b_2, 0, none⟩ = some (.int .u64 t52) ∧
          ∃ (t55_p : Option Addr) (t55_l t55_c : Nat), hcell h_23 ⟨b_2, 1, none⟩ = some (.slice t55_p t55_l t55_c) ∧
          CallsH Try.prog F.fields_New #[] h_23 fun v_10 h_24 =>
          ∃ (t50 : Option Addr), v_10 = .pointer t50 ∧
          hcell h_24 ⟨b_2, 1, none⟩ = some (.slice t55_p t55_l t55_c) ∧
          hcell h_24 ⟨b_2, 0, none⟩ = some (.int .u64 t52) ∧
          CallsH Try.prog F.fields_Writer_Num #[.pointer t50, .int .u64 t52] h_24 fun v_11 h_25 =>
          ∃ (t53 : Option Addr), v_11 = .pointer t53 ∧
          hcell h_25 ⟨b_2, 1, none⟩ = some (.slice t55_p t55_l t55_c) ∧
          CallsH Try.prog F.fields_Writer_Text #[.pointer t53, .slice t55_p t55_l t55_c] h_25 fun v_12 h_26 =>
          ∃ (t56 : Option Addr), v_12 = .pointer t56 ∧
          CallsH Try.prog F.fields_Writer_Bytes #[.pointer t56] h_26 fun v_13 h_27 =>
          ∃ (t57_p : Option Addr) (t57_l t57_c : Nat), v_13 = .slice t57_p t57_l t57_c ∧
          NewP h_27 (.cells #[.slice t57_p t57_l t57_c] T.s_uint8) fun b_3 h_28 =>
          denSem Try.prog (Builtin.append_ #[T.s_s_uint8, T.s_s_uint8] T.s_s_uint8 #[.slice out_p_1 out_l_1 out_c_1, .slice (some ⟨b_3, 0, none⟩) 1 1]) h_28 fun v_14 h_29 =>
          ∃ (t59_p : Option Addr) (t59_l t59_c : Nat), v_14 = .slice t59_p t59_l t59_c ∧
          (I_1 t59_p t59_l t59_c (IntKind.wrap .i64 (t45 + 1)) h_29 ∧ mu_1 t59_p t59_l t59_c (IntKind.wrap .i64 (t45 + 1)) h_29 < mu_1 out_p_1 out_l_1 out_c_1 t45 h_20)
        else
          ∃ (t62_p : Option Addr) (t62_l t62_c : Nat), hcell h_20 ⟨b, 5, none⟩ = some (.slice t62_p t62_l t62_c) ∧
          ∃ (I_2 : Option Addr → Nat → Nat → Int → Heap → Prop) (mu_2 : Option Addr → Nat → Nat → Int → Heap → Nat), I_2 out_p_1 out_l_1 out_c_1 0 h_20 ∧ ∀ (out_p_2 : Option Addr) (out_l_2 out_c_2 : Nat) (t64 : Int) (h_30 : Heap), I_2 out_p_2 out_l_2 out_c_2 t64 h_30 →
            if (decide (t64 < ((t62_l : Nat) : Int))) = true then
              ((0 : Int) ≤ t64 ∧ t64 < ((t62_l : Nat) : Int)) ∧
              onSome t62_p fun a_2 =>
              ∃ (t67_p : Option Addr) (t67_l t67_c : Nat), hcell h_30 (a_2.add (Int.toNat t64 * 1)) = some (.slice t67_p t67_l t67_c) ∧
              CallsH Try.prog F.fields_New #[] h_30 fun v_15 h_31 =>
              ∃ (t69 : Option Addr), v_15 = .pointer t69 ∧
              CallsH Try.prog F.fields_Writer_Text #[.pointer t69, .slice t67_p t67_l t67_c] h_31 fun v_16 h_32 =>
              ∃ (t71 : Option Addr), v_16 = .pointer t71 ∧
              CallsH Try.prog F.fields_Writer_Bytes #[.pointer t71] h_32 fun v_17 h_33 =>
              ∃ (t72_p : Option Addr) (t72_l t72_c : Nat), v_17 = .slice t72_p t72_l t72_c ∧
              NewP h_33 (.cells #[.slice t72_p t72_l t72_c] T.s_uint8) fun b_4 h_34 =>
              denSem Try.prog (Builtin.append_ #[T.s_s_uint8, T.s_s_uint8] T.s_s_uint8 #[.slice out_p_2 out_l_2 out_c_2, .slice (some ⟨b_4, 0, none⟩) 1 1]) h_34 fun v_18 h_35 =>
              ∃ (t74_p : Option Addr) (t74_l t74_c : Nat), v_18 = .slice t74_p t74_l t74_c ∧
              (I_2 t74_p t74_l t74_c (IntKind.wrap .i64 (t64 + 1)) h_35 ∧ mu_2 t74_p t74_l t74_c (IntKind.wrap .i64 (t64 + 1)) h_35 < mu_2 out_p_2 out_l_2 out_c_2 t64 h_30)
            else
              (I out_p_2 out_l_2 out_c_2 (IntKind.wrap .i64 (t13 + 1)) h_30 ∧ mu out_p_2 out_l_2 out_c_2 (IntKind.wrap .i64 (t13 + 1)) h_30 < mu out_p out_l out_c t13 h_2)
    else
      R (.slice out_p out_l out_c) h_2
theorem sessions_Table_Save.den_eq (t : Nat) (h : Heap) (R : Value → Heap → Prop) : sessions_Table_Save.vc t h R = den Try.prog Try.f17.ntmps (.seq .leaf (.seq .leaf (.seq (.seq .leaf (.block (.loop [(3, .one (.slice)), (13, .one (.int .i64))] (.seq .leaf (.seq (.cond .leaf .leaf) (.seq (.block (.seq .leaf (.seq (.plan (.op 0 (.op 2 (.op 3 (.op 5 (.op 6 (.op 8 (.op 9 (.op 11 (.op 12 (.op 14 (.op 15 (.op 16 (.op 18 (.op 19 (.op 20 (.op 1 (.op 4 (.op 7 (.op 10 (.op 13 (.op 17 (.op 21 (.op 22 (.op 23 (.op 24 (.op 25 .done))))))))))))))))))))))))))) (.seq (.seq .leaf (.block (.loop [(3, .one (.slice)), (45, .one (.int .i64))] (.seq .leaf (.seq (.cond .leaf .leaf) (.seq (.block (.seq .leaf (.plan (.op 0 (.op 2 (.op 3 (.op 5 (.op 6 (.op 1 (.op 4 (.op 7 (.op 8 (.op 9 (.op 10 (.op 11 .done))))))))))))))) .leaf)))))) (.seq .leaf (.block (.loop [(3, .one (.slice)), (64, .one (.int .i64))] (.seq .leaf (.seq (.cond .leaf .leaf) (.seq (.block (.seq .leaf .leaf)) .leaf)))))))))) .leaf)))))) (.seq .leaf .leaf)))) none (bodyOf Try.f17) (retK Try.prog Try.f17.results R) (argEnv [.pointer (some ⟨t, 0, none⟩)]) h := by kernel_rfl
theorem sessions_Table_Save.walk {t : Nat} {h : Heap} {R : Value → Heap → Prop} (hv : sessions_Table_Save.vc t h R) : CallsH Try.prog F.sessions_Table_Save #[.pointer (some ⟨t, 0, none⟩)] h R :=
  callsH_of_body _ Try.func17 rfl rfl (Eq.mp (sessions_Table_Save.den_eq t h R) hv)

def sessions_loader_next.vc (x : Nat) (h : Heap) (R : Value → Heap → Prop) : Prop :=
  ∃ (t7_p : Option Addr) (t7_l t7_c : Nat), hcell h ⟨x, 0, none⟩ = some (.slice t7_p t7_l t7_c) ∧
  if (((t7_l : Nat) : Int) == 0) = true then
    StoreP h ⟨x, 1, none⟩ (.bool true) fun h_1 =>
    CallsH Try.prog F.fields_Read #[.slice none 0 0] h_1 fun v h_2 =>
    ∃ (t13 : Option Addr), v = .pointer t13 ∧
    R (.pointer t13) h_2
  else
    ∃ (t17_p : Option Addr) (t17_l t17_c : Nat), hcell h ⟨x, 0, none⟩ = some (.slice t17_p t17_l t17_c) ∧
    ((0 : Int) ≤ 0 ∧ 0 < ((t17_l : Nat) : Int)) ∧
    onSome t17_p fun a =>
    ∃ (t19_p : Option Addr) (t19_l t19_c : Nat), hcell h (a.add (Int.toNat 0 * 1)) = some (.slice t19_p t19_l t19_c) ∧
    CallsH Try.prog F.fields_Read #[.slice t19_p t19_l t19_c] h fun v_1 h_3 =>
    ∃ (t20 : Option Addr), v_1 = .pointer t20 ∧
    ∃ (t25_p : Option Addr) (t25_l t25_c : Nat), hcell h_3 ⟨x, 0, none⟩ = some (.slice t25_p t25_l t25_c) ∧
    ((0 : Int) ≤ 1 ∧ 1 ≤ ((t25_l : Nat) : Int)) ∧ 
    StoreP h_3 ⟨x, 0, none⟩ (.slice (slBase t25_p t25_c (Int.toNat 1) 1) (t25_l - (Int.toNat 1)) (t25_c - (Int.toNat 1))) fun h_4 =>
    R (.pointer t20) h_4
theorem sessions_loader_next.den_eq (x : Nat) (h : Heap) (R : Value → Heap → Prop) : sessions_loader_next.vc x h R = den Try.prog Try.f39.ntmps (.seq .leaf (.seq (.seq .leaf (.cond (.seq .leaf (.seq .leaf .leaf)) .leaf)) (.seq .leaf (.seq .leaf (.seq .leaf .leaf))))) none (bodyOf Try.f39) (retK Try.prog Try.f39.results R) (argEnv [.pointer (some ⟨x, 0, none⟩)]) h := by kernel_rfl
theorem sessions_loader_next.walk {x : Nat} {h : Heap} {R : Value → Heap → Prop} (hv : sessions_loader_next.vc x h R) : CallsH Try.prog F.sessions_loader_next #[.pointer (some ⟨x, 0, none⟩)] h R :=
  callsH_of_body _ Try.func39 rfl rfl (Eq.mp (sessions_loader_next.den_eq x h R) hv)

def sessions_loader_need.vc (x : Nat) (is : Bool) (h : Heap) (R : Value → Heap → Prop) : Prop :=
  ∃ (t8 : Bool), hcell h ⟨x, 1, none⟩ = some (.bool t8) ∧
  if t8 = true then
    StoreP h ⟨x, 1, none⟩ (.bool true) fun h_1 =>
    R (.tuple #[]) h_1
  else
    StoreP h ⟨x, 1, none⟩ (.bool (!is)) fun h_2 =>
    R (.tuple #[]) h_2
theorem sessions_loader_need.den_eq (x : Nat) (is : Bool) (h : Heap) (R : Value → Heap → Prop) : sessions_loader_need.vc x is h R = den Try.prog Try.f43.ntmps .leaf none (bodyOf Try.f43) (retK Try.prog Try.f43.results R) (argEnv [.pointer (some ⟨x, 0, none⟩), .bool is]) h := by kernel_rfl
theorem sessions_loader_need.walk {x : Nat} {is : Bool} {h : Heap} {R : Value → Heap → Prop} (hv : sessions_loader_need.vc x is h R) : CallsH Try.prog F.sessions_loader_need #[.pointer (some ⟨x, 0, none⟩), .bool is] h R :=
  callsH_of_body _ Try.func43 rfl rfl (Eq.mp (sessions_loader_need.den_eq x is h R) hv)

def sessions_loader_session.vc (x : Nat) (t : Nat) (h : Heap) (R : Value → Heap → Prop) : Prop :=
  CallsH Try.prog F.sessions_loader_next #[.pointer (some ⟨x, 0, none⟩)] h fun v h_1 =>
  ∃ (t21 : Option Addr), v = .pointer t21 ∧
  CallsH Try.prog F.fields_Reader_Int #[.pointer t21] h_1 fun v_1 h_2 =>
  ∃ (t23 : Int), v_1 = .int .i64 t23 ∧
  CallsH Try.prog F.fields_Reader_Num #[.pointer t21] h_2 fun v_2 h_3 =>
  ∃ (t25 : Int), v_2 = .int .u64 t25 ∧
  CallsH Try.prog F.fields_Reader_Bool #[.pointer t21] h_3 fun v_3 h_4 =>
  ∃ (t27 : Bool), v_3 = .bool t27 ∧
  CallsH Try.prog F.fields_Reader_Bool #[.pointer t21] h_4 fun v_4 h_5 =>
  ∃ (t29 : Bool), v_4 = .bool t29 ∧
  CallsH Try.prog F.fields_Reader_Int #[.pointer t21] h_5 fun v_5 h_6 =>
  ∃ (t31 : Int), v_5 = .int .i64 t31 ∧
  CallsH Try.prog F.fields_Reader_Int #[.pointer t21] h_6 fun v_6 h_7 =>
  ∃ (t33 : Int), v_6 = .int .i64 t33 ∧
  JoinP (fun (h_8 : Heap) =>
    CallsH Try.prog F.sessions_Table_Open #[.pointer (some ⟨t, 0, none⟩), .int .u64 t25] h_8 fun v_7 h_9 =>
    ∃ (t50_0 : Int), ∃ (t50_1 : Int), v_7 = .tuple #[.int .i64 t50_0, .int .i64 t50_1] ∧
    JoinP (fun (h_10 : Heap) =>
      ∃ (t65 : Bool), hcell h_10 ⟨x, 1, none⟩ = some (.bool t65) ∧
      if t65 = true then
        R (.tuple #[]) h_10
      else
        ∃ (t69_p : Option Addr) (t69_l t69_c : Nat), hcell h_10 ⟨t, 1, none⟩ = some (.slice t69_p t69_l t69_c) ∧
        ((0 : Int) ≤ IntKind.wrap .i64 (t50_0 - 1) ∧ IntKind.wrap .i64 (t50_0 - 1) < ((t69_l : Nat) : Int)) ∧
        onSome t69_p fun a =>
        ∃ (t73 : Option Addr), hcell h_10 (a.add (Int.toNat (IntKind.wrap .i64 (t50_0 - 1)) * 1)) = some (.pointer t73) ∧
        onSome t73 fun a_1 =>
        StoreP h_10 (a_1.add 2) (.bool t27) fun h_11 =>
        onSome t73 fun a_2 =>
        StoreP h_11 (a_2.add 3) (.bool t29) fun h_12 =>
        ∃ (I : Int → Heap → Prop) (mu : Int → Heap → Nat), I 0 h_12 ∧ ∀ (t83 : Int) (h_13 : Heap), I t83 h_13 →
          if (decide (t83 < t31)) = true then
            JoinP (fun (h_14 : Heap) =>
              (I (IntKind.wrap .i64 (t83 + 1)) h_14 ∧ mu (IntKind.wrap .i64 (t83 + 1)) h_14 < mu t83 h_13))
            (fun J_2 =>
              CallsH Try.prog F.sessions_loader_next #[.pointer (some ⟨x, 0, none⟩)] h_13 fun v_8 h_15 =>
              ∃ (t86 : Option Addr), v_8 = .pointer t86 ∧
              CallsH Try.prog F.fields_Reader_Num #[.pointer t86] h_15 fun v_9 h_16 =>
              ∃ (t88 : Int), v_9 = .int .u64 t88 ∧
              CallsH Try.prog F.fields_Reader_Text #[.pointer t86] h_16 fun v_10 h_17 =>
              ∃ (t90_p : Option Addr) (t90_l t90_c : Nat), v_10 = .slice t90_p t90_l t90_c ∧
              NewP h_17 (.cells #[.int .u64 0, .slice none 0 0] T.sessions_Answer) fun b h_18 =>
              StoreP h_18 ⟨b, 0, none⟩ (.int .u64 t88) fun h_19 =>
              StoreP h_19 ⟨b, 1, none⟩ (.slice t90_p t90_l t90_c) fun h_20 =>
              ∃ (t96 : Int), hcell h_20 ⟨b, 0, none⟩ = some (.int .u64 t96) ∧
              CallsH Try.prog F.sessions_Table_Kept #[.pointer (some ⟨t, 0, none⟩), .int .i64 t50_0, .int .u64 t96] h_20 fun v_11 h_21 =>
              ∃ (t97_0_p : Option Addr) (t97_0_l t97_0_c : Nat), ∃ (t97_1 : Bool), v_11 = .tuple #[.slice t97_0_p t97_0_l t97_0_c, .bool t97_1] ∧
              JoinP (fun (h_22 : Heap) =>
                J_2 h_22)
              (fun J_3 =>
                CallsH Try.prog F.fields_Reader_End #[.pointer t86] h_21 fun v_12 h_23 =>
                ∃ (t102 : Int), v_12 = .int .i64 t102 ∧
                if (t102 == 0) = true then
                  if (!t97_1) = true then
                    ∃ (t112 : Int), hcell h_23 ⟨b, 0, none⟩ = some (.int .u64 t112) ∧
                    ∃ (t114_p : Option Addr) (t114_l t114_c : Nat), hcell h_23 ⟨b, 1, none⟩ = some (.slice t114_p t114_l t114_c) ∧
                    CallsH Try.prog F.sessions_Table_Keep #[.pointer (some ⟨t, 0, none⟩), .int .i64 t50_0, .int .u64 t112, .slice t114_p t114_l t114_c] h_23 fun v_13 h_24 =>
                    ∃ (t115 : Int), v_13 = .int .i64 t115 ∧
                    CallsH Try.prog F.sessions_loader_need #[.pointer (some ⟨x, 0, none⟩), .bool (t115 == 0)] h_24 fun v_14 h_25 =>
                    v_14 = .tuple #[] ∧
                    J_3 h_25
                  else
                    CallsH Try.prog F.sessions_loader_need #[.pointer (some ⟨x, 0, none⟩), .bool false] h_23 fun v_15 h_26 =>
                    v_15 = .tuple #[] ∧
                    J_3 h_26
                else
                  CallsH Try.prog F.sessions_loader_need #[.pointer (some ⟨x, 0, none⟩), .bool false] h_23 fun v_16 h_27 =>
                  v_16 = .tuple #[] ∧
                  J_3 h_27))
          else
            ∃ (I_1 : Int → Heap → Prop) (mu_1 : Int → Heap → Nat), I_1 0 h_13 ∧ ∀ (t121 : Int) (h_28 : Heap), I_1 t121 h_28 →
              if (decide (t121 < t33)) = true then
                CallsH Try.prog F.sessions_loader_next #[.pointer (some ⟨x, 0, none⟩)] h_28 fun v_17 h_29 =>
                ∃ (t124 : Option Addr), v_17 = .pointer t124 ∧
                CallsH Try.prog F.fields_Reader_Text #[.pointer t124] h_29 fun v_18 h_30 =>
                ∃ (t126_p : Option Addr) (t126_l t126_c : Nat), v_18 = .slice t126_p t126_l t126_c ∧
                JoinP (fun (h_31 : Heap) =>
                  onSome t73 fun a_3 =>
                  ∃ (t140_p : Option Addr) (t140_l t140_c : Nat), hcell h_31 (a_3.add 5) = some (.slice t140_p t140_l t140_c) ∧
                  NewP h_31 (.cells #[.slice t126_p t126_l t126_c] T.s_uint8) fun b_1 h_32 =>
                  denSem Try.prog (Builtin.append_ #[T.s_s_uint8, T.s_s_uint8] T.s_s_uint8 #[.slice t140_p t140_l t140_c, .slice (some ⟨b_1, 0, none⟩) 1 1]) h_32 fun v_19 h_33 =>
                  ∃ (t143_p : Option Addr) (t143_l t143_c : Nat), v_19 = .slice t143_p t143_l t143_c ∧
                  onSome t73 fun a_4 =>
                  StoreP h_33 (a_4.add 5) (.slice t143_p t143_l t143_c) fun h_34 =>
                  (I_1 (IntKind.wrap .i64 (t121 + 1)) h_34 ∧ mu_1 (IntKind.wrap .i64 (t121 + 1)) h_34 < mu_1 t121 h_28))
                (fun J_4 =>
                  CallsH Try.prog F.fields_Reader_End #[.pointer t124] h_30 fun v_20 h_35 =>
                  ∃ (t129 : Int), v_20 = .int .i64 t129 ∧
                  if (t129 == 0) = true then
                    CallsH Try.prog F.sessions_isNote #[.slice t126_p t126_l t126_c] h_35 fun v_21 h_36 =>
                    ∃ (t133 : Bool), v_21 = .bool t133 ∧
                    CallsH Try.prog F.sessions_loader_need #[.pointer (some ⟨x, 0, none⟩), .bool t133] h_36 fun v_22 h_37 =>
                    v_22 = .tuple #[] ∧
                    J_4 h_37
                  else
                    CallsH Try.prog F.sessions_loader_need #[.pointer (some ⟨x, 0, none⟩), .bool false] h_35 fun v_23 h_38 =>
                    v_23 = .tuple #[] ∧
                    J_4 h_38)
              else
                R (.tuple #[]) h_28)
    (fun J_1 =>
      if (t50_1 == 0) = true then
        CallsH Try.prog F.sessions_loader_need #[.pointer (some ⟨x, 0, none⟩), .bool (t50_0 == t23)] h_9 fun v_24 h_39 =>
        v_24 = .tuple #[] ∧
        J_1 h_39
      else
        CallsH Try.prog F.sessions_loader_need #[.pointer (some ⟨x, 0, none⟩), .bool false] h_9 fun v_25 h_40 =>
        v_25 = .tuple #[] ∧
        J_1 h_40))
  (fun J =>
    CallsH Try.prog F.fields_Reader_End #[.pointer t21] h_7 fun v_26 h_41 =>
    ∃ (t36 : Int), v_26 = .int .i64 t36 ∧
    if (t36 == 0) = true then
      if (decide (t31 ≤ 6)) = true then
        CallsH Try.prog F.sessions_loader_need #[.pointer (some ⟨x, 0, none⟩), .bool (decide (t33 ≤ 6))] h_41 fun v_27 h_42 =>
        v_27 = .tuple #[] ∧
        J h_42
      else
        CallsH Try.prog F.sessions_loader_need #[.pointer (some ⟨x, 0, none⟩), .bool false] h_41 fun v_28 h_43 =>
        v_28 = .tuple #[] ∧
        J h_43
    else
      CallsH Try.prog F.sessions_loader_need #[.pointer (some ⟨x, 0, none⟩), .bool false] h_41 fun v_29 h_44 =>
      v_29 = .tuple #[] ∧
      J h_44)
theorem sessions_loader_session.den_eq (x : Nat) (t : Nat) (h : Heap) (R : Value → Heap → Prop) : sessions_loader_session.vc x t h R = den Try.prog Try.f38.ntmps (.seq .leaf (.seq .leaf (.seq (.join [] .leaf) (.seq .leaf (.seq (.join [] .leaf) (.seq (.seq .leaf (.cond .leaf .leaf)) (.seq .leaf (.seq .leaf (.seq (.seq .leaf (.block (.loop [(83, .one (.int .i64))] (.seq .leaf (.seq (.cond .leaf .leaf) (.seq (.join [] (.block (.seq .leaf (.seq .leaf (.seq .leaf (.join [] .leaf)))))) .leaf)))))) (.seq .leaf (.block (.loop [(121, .one (.int .i64))] (.seq .leaf (.seq (.cond .leaf .leaf) (.seq (.block (.seq .leaf (.seq .leaf (.seq (.join [] .leaf) .leaf)))) .leaf))))))))))))))) none (bodyOf Try.f38) (retK Try.prog Try.f38.results R) (argEnv [.pointer (some ⟨x, 0, none⟩), .pointer (some ⟨t, 0, none⟩)]) h := by kernel_rfl
theorem sessions_loader_session.walk {x : Nat} {t : Nat} {h : Heap} {R : Value → Heap → Prop} (hv : sessions_loader_session.vc x t h R) : CallsH Try.prog F.sessions_loader_session #[.pointer (some ⟨x, 0, none⟩), .pointer (some ⟨t, 0, none⟩)] h R :=
  callsH_of_body _ Try.func38 rfl rfl (Eq.mp (sessions_loader_session.den_eq x t h R) hv)

def sessions_Load.vc (l_p : Option Addr) (l_l l_c : Nat) (h : Heap) (R : Value → Heap → Prop) : Prop :=
  CallsH Try.prog F.sessions_New #[] h fun v h_1 =>
  ∃ (t6 : Option Addr), v = .pointer t6 ∧
  NewP h_1 (.cells #[.slice l_p l_l l_c, .bool false] T.sessions_loader) fun b h_2 =>
  ∃ (I : Heap → Prop) (mu : Heap → Nat), I h_2 ∧ ∀ (h_3 : Heap), I h_3 →
    JoinP (fun (t22 : Bool) (h_4 : Heap) =>
      if t22 = true then
        CallsH Try.prog F.sessions_loader_session #[.pointer (some ⟨b, 0, none⟩), .pointer t6] h_4 fun v_1 h_5 =>
        v_1 = .tuple #[] ∧
        (I h_5 ∧ mu h_5 < mu h_3)
      else
        ∃ (t29 : Bool), hcell h_4 ⟨b, 1, none⟩ = some (.bool t29) ∧
        if t29 = true then
          R (.tuple #[.pointer none, .int .i64 3]) h_4
        else
          R (.tuple #[.pointer t6, .int .i64 0]) h_4)
    (fun J =>
      ∃ (t13_p : Option Addr) (t13_l t13_c : Nat), hcell h_3 ⟨b, 0, none⟩ = some (.slice t13_p t13_l t13_c) ∧
      if (decide (((t13_l : Nat) : Int) > 0)) = true then
        ∃ (t20 : Bool), hcell h_3 ⟨b, 1, none⟩ = some (.bool t20) ∧
        J (!t20) h_3
      else
        J false h_3)
theorem sessions_Load.den_eq (l_p : Option Addr) (l_l l_c : Nat) (h : Heap) (R : Value → Heap → Prop) : sessions_Load.vc l_p l_l l_c h R = den Try.prog Try.f18.ntmps (.seq .leaf (.seq .leaf (.seq (.block (.loop [] (.seq (.seq (.join [(22, .one (.bool))] .leaf) (.cond .leaf .leaf)) (.block .leaf)))) (.seq (.seq .leaf (.cond (.seq .leaf .leaf) .leaf)) (.seq .leaf .leaf))))) none (bodyOf Try.f18) (retK Try.prog Try.f18.results R) (argEnv [.slice l_p l_l l_c]) h := by kernel_rfl
theorem sessions_Load.walk {l_p : Option Addr} {l_l l_c : Nat} {h : Heap} {R : Value → Heap → Prop} (hv : sessions_Load.vc l_p l_l l_c h R) : CallsH Try.prog F.sessions_Load #[.slice l_p l_l l_c] h R :=
  callsH_of_body _ Try.func18 rfl rfl (Eq.mp (sessions_Load.den_eq l_p l_l l_c h R) hv)

def law19_Same.vc (a_p : Option Addr) (a_l a_c : Nat) (b_p : Option Addr) (b_l b_c : Nat) (h : Heap) (R : Value → Heap → Prop) : Prop :=
  if (((a_l : Nat) : Int) != ((b_l : Nat) : Int)) = true then
    R (.bool false) h
  else
    ∃ (I : Int → Heap → Prop) (mu : Int → Heap → Nat), I 0 h ∧ ∀ (i : Int) (h_1 : Heap), I i h_1 →
      if (decide (i < ((a_l : Nat) : Int))) = true then
        ((0 : Int) ≤ i ∧ i < ((a_l : Nat) : Int)) ∧
        onSome a_p fun a =>
        ∃ (t20_p : Option Addr) (t20_l t20_c : Nat), hcell h_1 (a.add (Int.toNat i * 1)) = some (.slice t20_p t20_l t20_c) ∧
        ∃ (t21 : ByteArray), ConvV Try.prog T.s_uint8 T.string (.slice t20_p t20_l t20_c) h_1 t21 ∧
        ((0 : Int) ≤ i ∧ i < ((b_l : Nat) : Int)) ∧
        onSome b_p fun a_1 =>
        ∃ (t25_p : Option Addr) (t25_l t25_c : Nat), hcell h_1 (a_1.add (Int.toNat i * 1)) = some (.slice t25_p t25_l t25_c) ∧
        ∃ (t26 : ByteArray), ConvV Try.prog T.s_uint8 T.string (.slice t25_p t25_l t25_c) h_1 t26 ∧
        if (!(t21.toList == t26.toList)) = true then
          R (.bool false) h_1
        else
          (I (IntKind.wrap .i64 (i + 1)) h_1 ∧ mu (IntKind.wrap .i64 (i + 1)) h_1 < mu i h_1)
      else
        R (.bool true) h_1
theorem law19_Same.den_eq (a_p : Option Addr) (a_l a_c : Nat) (b_p : Option Addr) (b_l b_c : Nat) (h : Heap) (R : Value → Heap → Prop) : law19_Same.vc a_p a_l a_c b_p b_l b_c h R = den Try.prog Try.f19.ntmps (.seq .leaf (.seq (.seq .leaf (.cond (.seq .leaf .leaf) .leaf)) (.seq (.seq .leaf (.block (.loop [(5, .one (.int .i64))] (.seq (.seq .leaf (.cond .leaf .leaf)) (.seq (.block (.seq (.plan (.op 0 (.op 1 (.op 2 (.op 3 (.op 4 (.op 5 (.op 6 (.op 7 (.op 8 (.op 9 (.op 10 .done)))))))))))) (.cond (.seq .leaf .leaf) .leaf))) .leaf))))) (.seq .leaf .leaf)))) none (bodyOf Try.f19) (retK Try.prog Try.f19.results R) (argEnv [.slice a_p a_l a_c, .slice b_p b_l b_c]) h := by kernel_rfl
theorem law19_Same.walk {a_p : Option Addr} {a_l a_c : Nat} {b_p : Option Addr} {b_l b_c : Nat} {h : Heap} {R : Value → Heap → Prop} (hv : law19_Same.vc a_p a_l a_c b_p b_l b_c h R) : CallsH Try.prog F.law19_Same #[.slice a_p a_l a_c, .slice b_p b_l b_c] h R :=
  callsH_of_body _ Try.func19 rfl rfl (Eq.mp (law19_Same.den_eq a_p a_l a_c b_p b_l b_c h R) hv)

end Go.Proofs.Ytlnofnmdiddmkaa
