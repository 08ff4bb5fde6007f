/-
  Printed by a program of this work (vc.py): the verification conditions of functions, and that each is enough for the call. No condition.
-/
import Derived.Test.YtlonfpolnmiglaaNames
set_option maxRecDepth 100000
set_option maxHeartbeats 4000000
namespace Go.Proofs.Ytlonfpolnmiglaa
open Go.Den
def outbox_Box_Save.vc (b : Nat) (h : Heap) (R : Value → Heap → Prop) : Prop :=
  CallsH Try.prog F.outbox_Box_made #[.pointer (some ⟨b, 0, none⟩)] h fun v h_1 =>
  ∃ (t7 : Bool), v = .bool t7 ∧
  if (!t7) = true then
    R (.slice none 0 0) h_1
  else
    ∃ (t13 : Int), hcell h_1 ⟨b, 1, none⟩ = some (.int .i64 t13) ∧
    ∃ (t18 : Int), hcell h_1 ⟨b, 2, none⟩ = some (.int .i64 t18) ∧
    ∃ (t23 : Int), hcell h_1 ⟨b, 3, none⟩ = some (.int .i64 t23) ∧
    ∃ (t28 : Int), hcell h_1 ⟨b, 4, none⟩ = some (.int .i64 t28) ∧
    ∃ (t33_p : Option Addr) (t33_l t33_c : Nat), hcell h_1 ⟨b, 0, none⟩ = some (.slice t33_p t33_l t33_c) ∧
    CallsH Try.prog F.fields_New #[] h_1 fun v_1 h_2 =>
    ∃ (t9 : Option Addr), v_1 = .pointer t9 ∧
    hcell h_2 ⟨b, 0, none⟩ = some (.slice t33_p t33_l t33_c) ∧
    hcell h_2 ⟨b, 4, none⟩ = some (.int .i64 t28) ∧
    hcell h_2 ⟨b, 3, none⟩ = some (.int .i64 t23) ∧
    hcell h_2 ⟨b, 2, none⟩ = some (.int .i64 t18) ∧
    hcell h_2 ⟨b, 1, none⟩ = some (.int .i64 t13) ∧
    CallsH Try.prog F.fields_Writer_Int #[.pointer t9, .int .i64 t13] h_2 fun v_2 h_3 =>
    ∃ (t14 : Option Addr), v_2 = .pointer t14 ∧
    hcell h_3 ⟨b, 0, none⟩ = some (.slice t33_p t33_l t33_c) ∧
    hcell h_3 ⟨b, 4, none⟩ = some (.int .i64 t28) ∧
    hcell h_3 ⟨b, 3, none⟩ = some (.int .i64 t23) ∧
    hcell h_3 ⟨b, 2, none⟩ = some (.int .i64 t18) ∧
    CallsH Try.prog F.fields_Writer_Int #[.pointer t14, .int .i64 t18] h_3 fun v_3 h_4 =>
    ∃ (t19 : Option Addr), v_3 = .pointer t19 ∧
    hcell h_4 ⟨b, 0, none⟩ = some (.slice t33_p t33_l t33_c) ∧
    hcell h_4 ⟨b, 4, none⟩ = some (.int .i64 t28) ∧
    hcell h_4 ⟨b, 3, none⟩ = some (.int .i64 t23) ∧
    CallsH Try.prog F.fields_Writer_Int #[.pointer t19, .int .i64 t23] h_4 fun v_4 h_5 =>
    ∃ (t24 : Option Addr), v_4 = .pointer t24 ∧
    hcell h_5 ⟨b, 0, none⟩ = some (.slice t33_p t33_l t33_c) ∧
    hcell h_5 ⟨b, 4, none⟩ = some (.int .i64 t28) ∧
    CallsH Try.prog F.fields_Writer_Int #[.pointer t24, .int .i64 t28] h_5 fun v_5 h_6 =>
    ∃ (t29 : Option Addr), v_5 = .pointer t29 ∧
    hcell h_6 ⟨b, 0, none⟩ = some (.slice t33_p t33_l t33_c) ∧
    CallsH Try.prog F.fields_Writer_Int #[.pointer t29, .int .i64 ((t33_l : Nat) : Int)] h_6 fun v_6 h_7 =>
    ∃ (t35 : Option Addr), v_6 = .pointer t35 ∧
    hcell h_7 ⟨b, 0, none⟩ = some (.slice t33_p t33_l t33_c) ∧
    CallsH Try.prog F.fields_Writer_Bytes #[.pointer t35] h_7 fun v_7 h_8 =>
    ∃ (t36_p : Option Addr) (t36_l t36_c : Nat), v_7 = .slice t36_p t36_l t36_c ∧
    hcell h_8 ⟨b, 0, none⟩ = some (.slice t33_p t33_l t33_c) ∧
    NewP h_8 (.cells #[.slice t36_p t36_l t36_c] T.s_uint8) fun b_1 h_9 =>
    hcell h_9 ⟨b, 0, none⟩ = some (.slice t33_p t33_l t33_c) ∧
    ∃ (t41_p : Option Addr) (t41_l t41_c : Nat), hcell h_9 ⟨b, 0, none⟩ = some (.slice t41_p t41_l t41_c) ∧
    ∃ (I : Option Addr → Nat → Nat → Int → Heap → Prop) (mu : Option Addr → Nat → Nat → Int → Heap → Nat), I (some ⟨b_1, 0, none⟩) 1 1 0 h_9 ∧ ∀ (out_p : Option Addr) (out_l out_c : Nat) (t43 : Int) (h_10 : Heap), I out_p out_l out_c t43 h_10 →
      if (decide (t43 < ((t41_l : Nat) : Int))) = true then
        ((0 : Int) ≤ t43 ∧ t43 < ((t41_l : Nat) : Int)) ∧
        onSome t41_p fun a =>
        ∃ (t46_0 : Int), hcell h_10 (a.add (Int.toNat t43 * 4)) = some (.int .i64 t46_0) ∧ ∃ (t46_1 : Int), hcell h_10 ((a.add (Int.toNat t43 * 4)).add 1) = some (.int .i64 t46_1) ∧ ∃ (t46_2_p : Option Addr) (t46_2_l t46_2_c : Nat), hcell h_10 ((a.add (Int.toNat t43 * 4)).add 2) = some (.slice t46_2_p t46_2_l t46_2_c) ∧ ∃ (t46_3 : Int), hcell h_10 ((a.add (Int.toNat t43 * 4)).add 3) = some (.int .u64 t46_3) ∧ 
        NewP h_10 (.cells #[.int .i64 0, .int .i64 0, .slice none 0 0, .int .u64 0] T.outbox_Item) fun b_2 h_11 =>
        StoreP h_11 ⟨b_2, 0, none⟩ (.int .i64 t46_0) fun h_12 =>
        StoreP h_12 ⟨b_2, 1, none⟩ (.int .i64 t46_1) fun h_13 =>
        StoreP h_13 ⟨b_2, 2, none⟩ (.slice t46_2_p t46_2_l t46_2_c) fun h_14 =>
        StoreP h_14 ⟨b_2, 3, none⟩ (.int .u64 t46_3) fun h_15 =>
        ∃ (t50 : Int), hcell h_15 ⟨b_2, 0, none⟩ = some (.int .i64 t50) ∧
        ∃ (t53 : Int), hcell h_15 ⟨b_2, 1, none⟩ = some (.int .i64 t53) ∧
        ∃ (t56_p : Option Addr) (t56_l t56_c : Nat), hcell h_15 ⟨b_2, 2, none⟩ = some (.slice t56_p t56_l t56_c) ∧
        ∃ (t59 : Int), hcell h_15 ⟨b_2, 3, none⟩ = some (.int .u64 t59) ∧
        CallsH Try.prog F.fields_New #[] h_15 fun v_8 h_16 =>
        ∃ (t48 : Option Addr), v_8 = .pointer t48 ∧
        hcell h_16 ⟨b_2, 3, none⟩ = some (.int .u64 t59) ∧
        hcell h_16 ⟨b_2, 2, none⟩ = some (.slice t56_p t56_l t56_c) ∧
        hcell h_16 ⟨b_2, 1, none⟩ = some (.int .i64 t53) ∧
        hcell h_16 ⟨b_2, 0, none⟩ = some (.int .i64 t50) ∧
        CallsH Try.prog F.fields_Writer_Int #[.pointer t48, .int .i64 t50] h_16 fun v_9 h_17 =>
        ∃ (t51 : Option Addr), v_9 = .pointer t51 ∧
        hcell h_17 ⟨b_2, 3, none⟩ = some (.int .u64 t59) ∧
        hcell h_17 ⟨b_2, 2, none⟩ = some (.slice t56_p t56_l t56_c) ∧
        hcell h_17 ⟨b_2, 1, none⟩ = some (.int .i64 t53) ∧
        CallsH Try.prog F.fields_Writer_Int #[.pointer t51, .int .i64 t53] h_17 fun v_10 h_18 =>
        ∃ (t54 : Option Addr), v_10 = .pointer t54 ∧
        hcell h_18 ⟨b_2, 3, none⟩ = some (.int .u64 t59) ∧
        hcell h_18 ⟨b_2, 2, none⟩ = some (.slice t56_p t56_l t56_c) ∧
        CallsH Try.prog F.fields_Writer_Text #[.pointer t54, .slice t56_p t56_l t56_c] h_18 fun v_11 h_19 =>
        ∃ (t57 : Option Addr), v_11 = .pointer t57 ∧
        hcell h_19 ⟨b_2, 3, none⟩ = some (.int .u64 t59) ∧
        CallsH Try.prog F.fields_Writer_Num #[.pointer t57, .int .u64 t59] h_19 fun v_12 h_20 =>
        ∃ (t60 : Option Addr), v_12 = .pointer t60 ∧
        CallsH Try.prog F.fields_Writer_Bytes #[.pointer t60] h_20 fun v_13 h_21 =>
        ∃ (t61_p : Option Addr) (t61_l t61_c : Nat), v_13 = .slice t61_p t61_l t61_c ∧
        NewP h_21 (.cells #[.slice t61_p t61_l t61_c] T.s_uint8) fun b_3 h_22 =>
        denSem Try.prog (Builtin.append_ #[T.s_s_uint8, T.s_s_uint8] T.s_s_uint8 #[.slice out_p out_l out_c, .slice (some ⟨b_3, 0, none⟩) 1 1]) h_22 fun v_14 h_23 =>
        ∃ (t63_p : Option Addr) (t63_l t63_c : Nat), v_14 = .slice t63_p t63_l t63_c ∧
        (I t63_p t63_l t63_c (IntKind.wrap .i64 (t43 + 1)) h_23 ∧ mu t63_p t63_l t63_c (IntKind.wrap .i64 (t43 + 1)) h_23 < mu out_p out_l out_c t43 h_10)
      else
        R (.slice out_p out_l out_c) h_10
theorem outbox_Box_Save.den_eq (b : Nat) (h : Heap) (R : Value → Heap → Prop) : outbox_Box_Save.vc b h R = den Try.prog Try.f19.ntmps (.seq .leaf (.seq (.seq .leaf (.cond (.seq .leaf .leaf) .leaf)) (.seq (.plan (.op 1 (.op 2 (.op 3 (.op 4 (.op 6 (.op 7 (.op 8 (.op 9 (.op 11 (.op 12 (.op 13 (.op 14 (.op 16 (.op 17 (.op 18 (.op 19 (.op 21 (.op 22 (.op 23 (.op 24 (.op 25 (.op 0 (.op 5 (.op 10 (.op 15 (.op 20 (.op 26 (.op 27 (.op 28 (.op 29 .done))))))))))))))))))))))))))))))) (.seq (.seq .leaf (.block (.loop [(3, .one (.slice)), (43, .one (.int .i64))] (.seq .leaf (.seq (.cond .leaf .leaf) (.seq (.block (.seq .leaf (.plan (.op 0 (.op 2 (.op 3 (.op 5 (.op 6 (.op 8 (.op 9 (.op 11 (.op 12 (.op 1 (.op 4 (.op 7 (.op 10 (.op 13 (.op 14 (.op 15 (.op 16 (.op 17 .done))))))))))))))))))))) .leaf)))))) (.seq .leaf .leaf))))) none (bodyOf Try.f19) (retK Try.prog Try.f19.results R) (argEnv [.pointer (some ⟨b, 0, none⟩)]) h := by kernel_rfl
theorem outbox_Box_Save.walk {b : Nat} {h : Heap} {R : Value → Heap → Prop} (hv : outbox_Box_Save.vc b h R) : CallsH Try.prog F.outbox_Box_Save #[.pointer (some ⟨b, 0, none⟩)] h R :=
  callsH_of_body _ Try.func19 rfl rfl (Eq.mp (outbox_Box_Save.den_eq b h R) hv)

def outbox_Box_Save.nil.vc  (h : Heap) (R : Value → Heap → Prop) : Prop :=
  CallsH Try.prog F.outbox_Box_made #[.pointer none] h fun v h_1 =>
  ∃ (t7 : Bool), v = .bool t7 ∧
  if (!t7) = true then
    R (.slice none 0 0) h_1
  else
    False
theorem outbox_Box_Save.nil.den_eq  (h : Heap) (R : Value → Heap → Prop) : outbox_Box_Save.nil.vc h R = den Try.prog Try.f19.ntmps (.seq .leaf (.seq (.seq .leaf (.cond (.seq .leaf .leaf) .leaf)) (.seq (.plan (.op 1 (.op 2 (.op 3 (.op 4 (.op 6 (.op 7 (.op 8 (.op 9 (.op 11 (.op 12 (.op 13 (.op 14 (.op 16 (.op 17 (.op 18 (.op 19 (.op 21 (.op 22 (.op 23 (.op 24 (.op 25 (.op 0 (.op 5 (.op 10 (.op 15 (.op 20 (.op 26 (.op 27 (.op 28 (.op 29 .done))))))))))))))))))))))))))))))) (.seq (.seq .leaf (.block (.loop [(3, .one (.slice)), (43, .one (.int .i64))] (.seq .leaf (.seq (.cond .leaf .leaf) (.seq (.block (.seq .leaf (.plan (.op 0 (.op 2 (.op 3 (.op 5 (.op 6 (.op 8 (.op 9 (.op 11 (.op 12 (.op 1 (.op 4 (.op 7 (.op 10 (.op 13 (.op 14 (.op 15 (.op 16 (.op 17 .done))))))))))))))))))))) .leaf)))))) (.seq .leaf .leaf))))) none (bodyOf Try.f19) (retK Try.prog Try.f19.results R) (argEnv [.pointer none]) h := by kernel_rfl
theorem outbox_Box_Save.nil.walk  {h : Heap} {R : Value → Heap → Prop} (hv : outbox_Box_Save.nil.vc h R) : CallsH Try.prog F.outbox_Box_Save #[.pointer none] h R :=
  callsH_of_body _ Try.func19 rfl rfl (Eq.mp (outbox_Box_Save.nil.den_eq h R) hv)

def outbox_Load.vc (l_p : Option Addr) (l_l l_c : Nat) (h : Heap) (R : Value → Heap → Prop) : Prop :=
  if (((l_l : Nat) : Int) == 0) = true then
    R (.tuple #[.pointer none, .int .i64 3]) h
  else
    CallsH Try.prog F.outbox_New #[] h fun v h_1 =>
    ∃ (t15 : Option Addr), v = .pointer t15 ∧
    ((0 : Int) ≤ 0 ∧ 0 < ((l_l : Nat) : Int)) ∧
    onSome l_p fun a =>
    ∃ (t18_p : Option Addr) (t18_l t18_c : Nat), hcell h_1 (a.add (Int.toNat 0 * 1)) = some (.slice t18_p t18_l t18_c) ∧
    CallsH Try.prog F.fields_Read #[.slice t18_p t18_l t18_c] h_1 fun v_1 h_2 =>
    ∃ (t19 : Option Addr), v_1 = .pointer t19 ∧
    CallsH Try.prog F.fields_Reader_Int #[.pointer t19] h_2 fun v_2 h_3 =>
    ∃ (t25 : Int), v_2 = .int .i64 t25 ∧
    CallsH Try.prog F.fields_Reader_Int #[.pointer t19] h_3 fun v_3 h_4 =>
    ∃ (t27 : Int), v_3 = .int .i64 t27 ∧
    CallsH Try.prog F.fields_Reader_Int #[.pointer t19] h_4 fun v_4 h_5 =>
    ∃ (t29 : Int), v_4 = .int .i64 t29 ∧
    CallsH Try.prog F.fields_Reader_Int #[.pointer t19] h_5 fun v_5 h_6 =>
    ∃ (t31 : Int), v_5 = .int .i64 t31 ∧
    onSome t15 fun a_1 =>
    StoreP h_6 (a_1.add 1) (.int .i64 t25) fun h_7 =>
    onSome t15 fun a_2 =>
    StoreP h_7 (a_2.add 2) (.int .i64 t27) fun h_8 =>
    onSome t15 fun a_3 =>
    StoreP h_8 (a_3.add 3) (.int .i64 t29) fun h_9 =>
    onSome t15 fun a_4 =>
    StoreP h_9 (a_4.add 4) (.int .i64 t31) fun h_10 =>
    CallsH Try.prog F.fields_Reader_Int #[.pointer t19] h_10 fun v_6 h_11 =>
    ∃ (t41 : Int), v_6 = .int .i64 t41 ∧
    JoinP (fun (t86 : Bool) (h_12 : Heap) =>
      if t86 = true then
        R (.tuple #[.pointer none, .int .i64 3]) h_12
      else
        ((0 : Int) ≤ 1 ∧ 1 ≤ ((l_l : Nat) : Int)) ∧ 
        ∃ (I : Int → Int → Heap → Prop) (mu : Int → Int → Heap → Nat), I 0 0 h_12 ∧ ∀ (last : Int) (t90 : Int) (h_13 : Heap), I last t90 h_13 →
          if (decide (t90 < ((l_l - (Int.toNat 1) : Nat) : Int))) = true then
            ((0 : Int) ≤ t90 ∧ t90 < ((l_l - (Int.toNat 1) : Nat) : Int)) ∧
            onSome (slBase l_p l_c (Int.toNat 1) 1) fun a_5 =>
            ∃ (t93_p : Option Addr) (t93_l t93_c : Nat), hcell h_13 (a_5.add (Int.toNat t90 * 1)) = some (.slice t93_p t93_l t93_c) ∧
            CallsH Try.prog F.fields_Read #[.slice t93_p t93_l t93_c] h_13 fun v_7 h_14 =>
            ∃ (t95 : Option Addr), v_7 = .pointer t95 ∧
            CallsH Try.prog F.fields_Reader_Int #[.pointer t95] h_14 fun v_8 h_15 =>
            ∃ (t97 : Int), v_8 = .int .i64 t97 ∧
            CallsH Try.prog F.fields_Reader_Int #[.pointer t95] h_15 fun v_9 h_16 =>
            ∃ (t99 : Int), v_9 = .int .i64 t99 ∧
            CallsH Try.prog F.fields_Reader_Text #[.pointer t95] h_16 fun v_10 h_17 =>
            ∃ (t101_p : Option Addr) (t101_l t101_c : Nat), v_10 = .slice t101_p t101_l t101_c ∧
            CallsH Try.prog F.fields_Reader_Num #[.pointer t95] h_17 fun v_11 h_18 =>
            ∃ (t103 : Int), v_11 = .int .u64 t103 ∧
            NewP h_18 (.cells #[.int .i64 0, .int .i64 0, .slice none 0 0, .int .u64 0] T.outbox_Item) fun b h_19 =>
            StoreP h_19 ⟨b, 0, none⟩ (.int .i64 t97) fun h_20 =>
            StoreP h_20 ⟨b, 1, none⟩ (.int .i64 t99) fun h_21 =>
            StoreP h_21 ⟨b, 2, none⟩ (.slice t101_p t101_l t101_c) fun h_22 =>
            StoreP h_22 ⟨b, 3, none⟩ (.int .u64 t103) fun h_23 =>
            JoinP (fun (t127 : Bool) (h_24 : Heap) =>
              if t127 = true then
                R (.tuple #[.pointer none, .int .i64 3]) h_24
              else
                onSome t15 fun a_6 =>
                ∃ (t132_p : Option Addr) (t132_l t132_c : Nat), hcell h_24 a_6 = some (.slice t132_p t132_l t132_c) ∧
                ∃ (t133_0 : Int), hcell h_24 ⟨b, 0, none⟩ = some (.int .i64 t133_0) ∧ ∃ (t133_1 : Int), hcell h_24 ⟨b, 1, none⟩ = some (.int .i64 t133_1) ∧ ∃ (t133_2_p : Option Addr) (t133_2_l t133_2_c : Nat), hcell h_24 ⟨b, 2, none⟩ = some (.slice t133_2_p t133_2_l t133_2_c) ∧ ∃ (t133_3 : Int), hcell h_24 ⟨b, 3, none⟩ = some (.int .u64 t133_3) ∧ 
                NewP h_24 (.cells #[.int .i64 t133_0, .int .i64 t133_1, .slice t133_2_p t133_2_l t133_2_c, .int .u64 t133_3] T.outbox_Item) fun b_1 h_25 =>
                hcell h_25 a_6 = some (.slice t132_p t132_l t132_c) ∧
                denSem Try.prog (Builtin.append_ #[T.s_outbox_Item, T.s_outbox_Item] T.s_outbox_Item #[.slice t132_p t132_l t132_c, .slice (some ⟨b_1, 0, none⟩) 1 1]) h_25 fun v_12 h_26 =>
                ∃ (t135_p : Option Addr) (t135_l t135_c : Nat), v_12 = .slice t135_p t135_l t135_c ∧
                onSome t15 fun a_7 =>
                StoreP h_26 a_7 (.slice t135_p t135_l t135_c) fun h_27 =>
                onSome t15 fun a_8 =>
                ∃ (t141 : Option Addr), hcell h_27 (a_8.add 5) = some (.pointer t141) ∧
                ∃ (t143 : Int), hcell h_27 ⟨b, 0, none⟩ = some (.int .i64 t143) ∧
                ∃ (t145 : Int), hcell h_27 ⟨b, 3, none⟩ = some (.int .u64 t145) ∧
                CallsH Try.prog F.alarm_Alarm_Set #[.pointer t141, .int .i64 t143, .int .u64 t145] h_27 fun v_13 h_28 =>
                ∃ (t146 : Int), v_13 = .int .i64 t146 ∧
                ∃ (t148 : Int), hcell h_28 ⟨b, 0, none⟩ = some (.int .i64 t148) ∧
                (I t148 (IntKind.wrap .i64 (t90 + 1)) h_28 ∧ mu t148 (IntKind.wrap .i64 (t90 + 1)) h_28 < mu last t90 h_13))
            (fun J_1 =>
              CallsH Try.prog F.fields_Reader_End #[.pointer t95] h_23 fun v_14 h_29 =>
              ∃ (t106 : Int), v_14 = .int .i64 t106 ∧
              if (t106 != 0) = true then
                J_1 true h_29
              else
                ∃ (t109_0 : Int), hcell h_29 ⟨b, 0, none⟩ = some (.int .i64 t109_0) ∧ ∃ (t109_1 : Int), hcell h_29 ⟨b, 1, none⟩ = some (.int .i64 t109_1) ∧ ∃ (t109_2_p : Option Addr) (t109_2_l t109_2_c : Nat), hcell h_29 ⟨b, 2, none⟩ = some (.slice t109_2_p t109_2_l t109_2_c) ∧ ∃ (t109_3 : Int), hcell h_29 ⟨b, 3, none⟩ = some (.int .u64 t109_3) ∧ 
                CallsH Try.prog F.outbox_right #[.agg #[.int .i64 t109_0, .int .i64 t109_1, .slice t109_2_p t109_2_l t109_2_c, .int .u64 t109_3]] h_29 fun v_15 h_30 =>
                ∃ (t110 : Bool), v_15 = .bool t110 ∧
                if (!t110) = true then
                  J_1 true h_30
                else
                  ∃ (t115 : Int), hcell h_30 ⟨b, 0, none⟩ = some (.int .i64 t115) ∧
                  if (decide (t115 ≤ last)) = true then
                    J_1 true h_30
                  else
                    ∃ (t121 : Int), hcell h_30 ⟨b, 0, none⟩ = some (.int .i64 t121) ∧
                    onSome t15 fun a_9 =>
                    ∃ (t125 : Int), hcell h_30 (a_9.add 1) = some (.int .i64 t125) ∧
                    J_1 (decide (t121 ≥ t125)) h_30)
          else
            R (.tuple #[.pointer t15, .int .i64 0]) h_13)
    (fun J =>
      CallsH Try.prog F.fields_Reader_End #[.pointer t19] h_11 fun v_16 h_31 =>
      ∃ (t43 : Int), v_16 = .int .i64 t43 ∧
      if (t43 != 0) = true then
        J true h_31
      else
        if (t41 != (IntKind.wrap .i64 (((l_l : Nat) : Int) - 1))) = true then
          J true h_31
        else
          if (decide (t41 > 16)) = true then
            J true h_31
          else
            onSome t15 fun a_10 =>
            ∃ (t60 : Int), hcell h_31 (a_10.add 1) = some (.int .i64 t60) ∧
            if (decide (t60 < 1)) = true then
              J true h_31
            else
              onSome t15 fun a_11 =>
              ∃ (t67 : Int), hcell h_31 (a_11.add 1) = some (.int .i64 t67) ∧
              onSome t15 fun a_12 =>
              ∃ (t72 : Int), hcell h_31 (a_12.add 2) = some (.int .i64 t72) ∧
              onSome t15 fun a_13 =>
              ∃ (t76 : Int), hcell h_31 (a_13.add 3) = some (.int .i64 t76) ∧
              onSome t15 fun a_14 =>
              ∃ (t81 : Int), hcell h_31 (a_14.add 4) = some (.int .i64 t81) ∧
              J ((IntKind.wrap .i64 (t67 - 1)) != (IntKind.wrap .i64 ((IntKind.wrap .i64 ((IntKind.wrap .i64 (t72 + t76)) + t81)) + t41))) h_31)
theorem outbox_Load.den_eq (l_p : Option Addr) (l_l l_c : Nat) (h : Heap) (R : Value → Heap → Prop) : outbox_Load.vc l_p l_l l_c h R = den Try.prog Try.f23.ntmps (.seq .leaf (.seq (.seq .leaf (.cond (.seq .leaf .leaf) .leaf)) (.seq .leaf (.seq .leaf (.seq .leaf (.seq .leaf (.seq (.seq (.join [(86, .one (.bool))] (.plan (.op 0 (.op 1 (.op 2 (.op 3 (.op 4 (.op 5 (.op 6 (.op 7 (.op 8 (.op 9 (.op 10 (.op 11 (.op 12 (.op 13 (.op 14 (.op 15 (.op 16 (.op 17 (.op 18 (.op 19 (.op 20 (.op 21 (.op 22 (.op 23 (.op 24 (.op 25 (.op 26 (.op 27 (.op 28 (.op 29 (.op 30 (.op 31 (.op 32 (.op 33 (.op 34 (.op 35 (.op 36 (.op 37 (.op 38 (.op 39 (.op 40 (.op 41 (.op 42 (.op 43 (.op 44 .done))))))))))))))))))))))))))))))))))))))))))))))) (.cond (.seq .leaf .leaf) .leaf)) (.seq .leaf (.seq (.seq .leaf (.block (.loop [(7, .one (.int .i64)), (90, .one (.int .i64))] (.seq .leaf (.seq (.cond .leaf .leaf) (.seq (.block (.seq .leaf (.seq .leaf (.seq .leaf (.seq (.seq (.join [(127, .one (.bool))] (.plan (.op 0 (.op 1 (.op 2 (.op 3 (.op 4 (.op 5 (.op 6 (.op 7 (.op 8 (.op 9 (.op 10 (.op 11 (.op 12 (.op 13 (.op 14 (.op 15 (.op 16 (.op 17 (.op 18 (.op 19 (.op 20 (.op 21 (.op 22 .done))))))))))))))))))))))))) (.cond (.seq .leaf .leaf) .leaf)) (.seq (.plan (.op 0 (.op 1 (.op 2 (.op 3 (.op 4 (.op 5 (.op 6 (.op 7 (.op 8 (.op 9 (.op 10 .done)))))))))))) (.seq (.plan (.op 0 (.op 1 (.op 2 (.op 3 (.op 4 (.op 5 (.op 6 (.op 7 (.op 8 .done)))))))))) .leaf))))))) .leaf)))))) (.seq .leaf .leaf)))))))))) none (bodyOf Try.f23) (retK Try.prog Try.f23.results R) (argEnv [.slice l_p l_l l_c]) h := by kernel_rfl
theorem outbox_Load.walk {l_p : Option Addr} {l_l l_c : Nat} {h : Heap} {R : Value → Heap → Prop} (hv : outbox_Load.vc l_p l_l l_c h R) : CallsH Try.prog F.outbox_Load #[.slice l_p l_l l_c] h R :=
  callsH_of_body _ Try.func23 rfl rfl (Eq.mp (outbox_Load.den_eq l_p l_l l_c h R) hv)

def law19_Same.vc (a_p : Option Addr) (a_l a_c : Nat) (b_p : Option Addr) (b_l b_c : Nat) (h : Heap) (R : Value → Heap → Prop) : Prop :=
  if (((a_l : Nat) : Int) != ((b_l : Nat) : Int)) = true then
    R (.bool false) h
  else
    ∃ (I : Int → Heap → Prop) (mu : Int → Heap → Nat), I 0 h ∧ ∀ (i : Int) (h_1 : Heap), I i h_1 →
      if (decide (i < ((a_l : Nat) : Int))) = true then
        ((0 : Int) ≤ i ∧ i < ((a_l : Nat) : Int)) ∧
        onSome a_p fun a =>
        ∃ (t20_p : Option Addr) (t20_l t20_c : Nat), hcell h_1 (a.add (Int.toNat i * 1)) = some (.slice t20_p t20_l t20_c) ∧
        ∃ (t21 : ByteArray), ConvV Try.prog T.s_uint8 T.string (.slice t20_p t20_l t20_c) h_1 t21 ∧
        ((0 : Int) ≤ i ∧ i < ((b_l : Nat) : Int)) ∧
        onSome b_p fun a_1 =>
        ∃ (t25_p : Option Addr) (t25_l t25_c : Nat), hcell h_1 (a_1.add (Int.toNat i * 1)) = some (.slice t25_p t25_l t25_c) ∧
        ∃ (t26 : ByteArray), ConvV Try.prog T.s_uint8 T.string (.slice t25_p t25_l t25_c) h_1 t26 ∧
        if (!(t21.toList == t26.toList)) = true then
          R (.bool false) h_1
        else
          (I (IntKind.wrap .i64 (i + 1)) h_1 ∧ mu (IntKind.wrap .i64 (i + 1)) h_1 < mu i h_1)
      else
        R (.bool true) h_1
theorem law19_Same.den_eq (a_p : Option Addr) (a_l a_c : Nat) (b_p : Option Addr) (b_l b_c : Nat) (h : Heap) (R : Value → Heap → Prop) : law19_Same.vc a_p a_l a_c b_p b_l b_c h R = den Try.prog Try.f18.ntmps (.seq .leaf (.seq (.seq .leaf (.cond (.seq .leaf .leaf) .leaf)) (.seq (.seq .leaf (.block (.loop [(5, .one (.int .i64))] (.seq (.seq .leaf (.cond .leaf .leaf)) (.seq (.block (.seq (.plan (.op 0 (.op 1 (.op 2 (.op 3 (.op 4 (.op 5 (.op 6 (.op 7 (.op 8 (.op 9 (.op 10 .done)))))))))))) (.cond (.seq .leaf .leaf) .leaf))) .leaf))))) (.seq .leaf .leaf)))) none (bodyOf Try.f18) (retK Try.prog Try.f18.results R) (argEnv [.slice a_p a_l a_c, .slice b_p b_l b_c]) h := by kernel_rfl
theorem law19_Same.walk {a_p : Option Addr} {a_l a_c : Nat} {b_p : Option Addr} {b_l b_c : Nat} {h : Heap} {R : Value → Heap → Prop} (hv : law19_Same.vc a_p a_l a_c b_p b_l b_c h R) : CallsH Try.prog F.law19_Same #[.slice a_p a_l a_c, .slice b_p b_l b_c] h R :=
  callsH_of_body _ Try.func18 rfl rfl (Eq.mp (law19_Same.den_eq a_p a_l a_c b_p b_l b_c h R) hv)

end Go.Proofs.Ytlonfpolnmiglaa
