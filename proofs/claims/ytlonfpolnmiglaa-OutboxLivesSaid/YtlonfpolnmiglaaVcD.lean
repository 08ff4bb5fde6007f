/-
  Printed by a program of this work (vc.py): the verification conditions of functions, and that each is enough for the call. No condition.
-/
import Derived.Test.YtlonfpolnmiglaaNames
set_option maxRecDepth 100000
set_option maxHeartbeats 4000000
namespace Go.Proofs.Ytlonfpolnmiglaa
open Go.Den
def law23_alive.vc  (h : Heap) (R : Value → Heap → Prop) : Prop :=
  CallsH Try.prog F.outbox_New #[] h fun v h_1 =>
  ∃ (t10 : Option Addr), v = .pointer t10 ∧
  NewP h_1 (.cells #[.int .u8 97] T.uint8) fun b h_2 =>
  denSem Try.prog (convert T.s_uint8 T.s_uint8 (.slice (some ⟨b, 0, none⟩) 1 1)) h_2 fun v_1 h_3 =>
  ∃ (t14_p : Option Addr) (t14_l t14_c : Nat), v_1 = .slice t14_p t14_l t14_c ∧
  CallsH Try.prog F.outbox_Box_Add #[.pointer t10, .int .i64 3, .slice t14_p t14_l t14_c, .int .u64 50] h_3 fun v_2 h_4 =>
  ∃ (t15_0 : Int), ∃ (t15_1 : Int), v_2 = .tuple #[.int .i64 t15_0, .int .i64 t15_1] ∧
  NewP h_4 (.cells #[.int .u8 98] T.uint8) fun b_1 h_5 =>
  denSem Try.prog (convert T.s_uint8 T.s_uint8 (.slice (some ⟨b_1, 0, none⟩) 1 1)) h_5 fun v_3 h_6 =>
  ∃ (t20_p : Option Addr) (t20_l t20_c : Nat), v_3 = .slice t20_p t20_l t20_c ∧
  CallsH Try.prog F.outbox_Box_Add #[.pointer t10, .int .i64 4, .slice t20_p t20_l t20_c, .int .u64 9] h_6 fun v_4 h_7 =>
  ∃ (t21_0 : Int), ∃ (t21_1 : Int), v_4 = .tuple #[.int .i64 t21_0, .int .i64 t21_1] ∧
  CallsH Try.prog F.outbox_Box_Cancel #[.pointer t10, .int .i64 1, .int .i64 4] h_7 fun v_5 h_8 =>
  ∃ (t23 : Int), v_5 = .int .i64 t23 ∧
  CallsH Try.prog F.outbox_Box_Pass #[.pointer t10, .int .u64 9] h_8 fun v_6 h_9 =>
  ∃ (t25_p : Option Addr) (t25_l t25_c : Nat), v_6 = .slice t25_p t25_l t25_c ∧
  CallsH Try.prog F.outbox_Box_Take #[.pointer t10] h_9 fun v_7 h_10 =>
  ∃ (t28_0_0 : Int), ∃ (t28_0_1 : Int), ∃ (t28_0_2_p : Option Addr) (t28_0_2_l t28_0_2_c : Nat), ∃ (t28_0_3 : Int), ∃ (t28_1 : Int), v_7 = .tuple #[.agg #[.int .i64 t28_0_0, .int .i64 t28_0_1, .slice t28_0_2_p t28_0_2_l t28_0_2_c, .int .u64 t28_0_3], .int .i64 t28_1] ∧
  NewP h_10 (.cells #[.int .i64 0, .int .i64 0, .slice none 0 0, .int .u64 0] T.outbox_Item) fun b_2 h_11 =>
  StoreP h_11 ⟨b_2, 0, none⟩ (.int .i64 t28_0_0) fun h_12 =>
  StoreP h_12 ⟨b_2, 1, none⟩ (.int .i64 t28_0_1) fun h_13 =>
  StoreP h_13 ⟨b_2, 2, none⟩ (.slice t28_0_2_p t28_0_2_l t28_0_2_c) fun h_14 =>
  StoreP h_14 ⟨b_2, 3, none⟩ (.int .u64 t28_0_3) fun h_15 =>
  CallsH Try.prog F.outbox_Box_Take #[.pointer t10] h_15 fun v_8 h_16 =>
  ∃ (t33_0_0 : Int), ∃ (t33_0_1 : Int), ∃ (t33_0_2_p : Option Addr) (t33_0_2_l t33_0_2_c : Nat), ∃ (t33_0_3 : Int), ∃ (t33_1 : Int), v_8 = .tuple #[.agg #[.int .i64 t33_0_0, .int .i64 t33_0_1, .slice t33_0_2_p t33_0_2_l t33_0_2_c, .int .u64 t33_0_3], .int .i64 t33_1] ∧
  NewP h_16 (.cells #[.int .i64 0, .int .i64 0, .slice none 0 0, .int .u64 0] T.outbox_Item) fun b_3 h_17 =>
  StoreP h_17 ⟨b_3, 0, none⟩ (.int .i64 t33_0_0) fun h_18 =>
  StoreP h_18 ⟨b_3, 1, none⟩ (.int .i64 t33_0_1) fun h_19 =>
  StoreP h_19 ⟨b_3, 2, none⟩ (.slice t33_0_2_p t33_0_2_l t33_0_2_c) fun h_20 =>
  StoreP h_20 ⟨b_3, 3, none⟩ (.int .u64 t33_0_3) fun h_21 =>
  if (t15_0 == 1) = true then
    if (t15_1 == 0) = true then
      if (t23 == 13) = true then
        if (((t25_l : Nat) : Int) == 1) = true then
          ((0 : Int) ≤ 0 ∧ 0 < ((t25_l : Nat) : Int)) ∧
          onSome t25_p fun a =>
          ∃ (t55 : Int), hcell h_21 (a.add (Int.toNat 0 * 4)) = some (.int .i64 t55) ∧
          if (t55 == 2) = true then
            ∃ (t60_p : Option Addr) (t60_l t60_c : Nat), hcell h_21 ⟨b_2, 2, none⟩ = some (.slice t60_p t60_l t60_c) ∧
            ∃ (t61 : ByteArray), ConvV Try.prog T.s_uint8 T.string (.slice t60_p t60_l t60_c) h_21 t61 ∧
            if (t61.toList == (⟨#[97]⟩ : ByteArray).toList) = true then
              if (t28_1 == 0) = true then
                if (t33_1 == 4) = true then
                  CallsH Try.prog F.outbox_Box_Counts #[.pointer t10] h_21 fun v_9 h_22 =>
                  ∃ (t74_0 : Int), ∃ (t74_1 : Int), ∃ (t74_2 : Int), ∃ (t74_3 : Int), ∃ (t74_4 : Int), v_9 = .agg #[.int .i64 t74_0, .int .i64 t74_1, .int .i64 t74_2, .int .i64 t74_3, .int .i64 t74_4] ∧
                  ∃ (eq : Bool), EqV Try.prog T.a5_int (.agg #[.int .i64 t74_0, .int .i64 t74_1, .int .i64 t74_2, .int .i64 t74_3, .int .i64 t74_4]) (.agg #[.int .i64 2, .int .i64 0, .int .i64 1, .int .i64 0, .int .i64 1]) eq ∧
                  R (.bool eq) h_22
                else
                  R (.bool false) h_21
              else
                R (.bool false) h_21
            else
              R (.bool false) h_21
          else
            R (.bool false) h_21
        else
          R (.bool false) h_21
      else
        R (.bool false) h_21
    else
      R (.bool false) h_21
  else
    R (.bool false) h_21
theorem law23_alive.den_eq  (h : Heap) (R : Value → Heap → Prop) : law23_alive.vc h R = den Try.prog Try.f7.ntmps (.seq .leaf (.seq .leaf (.seq .leaf (.seq .leaf (.seq .leaf (.seq .leaf (.seq .leaf (.seq .leaf (.seq .leaf .leaf))))))))) none (bodyOf Try.f7) (retK Try.prog Try.f7.results R) (argEnv []) h := by kernel_rfl
theorem law23_alive.walk  {h : Heap} {R : Value → Heap → Prop} (hv : law23_alive.vc h R) : CallsH Try.prog F.law23_alive #[] h R :=
  callsH_of_body _ Try.func7 rfl rfl (Eq.mp (law23_alive.den_eq h R) hv)

def law23_OutboxOrder.vc (data_p : Option Addr) (data_l data_c : Nat) (gone_p : Option Addr) (gone_l gone_c : Nat) (now : Int) (h : Heap) (R : Value → Heap → Prop) : Prop :=
  CallsH Try.prog F.outbox_New #[] h fun v h_1 =>
  ∃ (t20 : Option Addr), v = .pointer t20 ∧
  ∃ (I : Int → Heap → Prop) (mu : Int → Heap → Nat), I 0 h_1 ∧ ∀ (i : Int) (h_2 : Heap), I i h_2 →
    JoinP (fun (t28 : Bool) (h_3 : Heap) =>
      if t28 = true then
        JoinP (fun (t44 : Bool) (h_4 : Heap) =>
          if t44 = true then
            CallsH Try.prog F.law23_alive #[] h_4 fun v_1 h_5 =>
            ∃ (t45 : Bool), v_1 = .bool t45 ∧
            R (.bool t45) h_5
          else
            ((0 : Int) ≤ i ∧ i < ((data_l : Nat) : Int)) ∧
            onSome data_p fun a =>
            ∃ (t51_p : Option Addr) (t51_l t51_c : Nat), hcell h_4 (a.add (Int.toNat i * 1)) = some (.slice t51_p t51_l t51_c) ∧
            CallsH Try.prog F.outbox_Box_Add #[.pointer t20, .int .i64 5, .slice t51_p t51_l t51_c, .int .u64 (IntKind.wrap .u64 (IntKind.wrap .i64 (100 * i)))] h_4 fun v_2 h_6 =>
            ∃ (t55_0 : Int), ∃ (t55_1 : Int), v_2 = .tuple #[.int .i64 t55_0, .int .i64 t55_1] ∧
            JoinP (fun (t65 : Bool) (h_7 : Heap) =>
              if t65 = true then
                R (.bool false) h_7
              else
                (I (IntKind.wrap .i64 (i + 1)) h_7 ∧ mu (IntKind.wrap .i64 (i + 1)) h_7 < mu i h_2))
            (fun J_2 =>
              if (t55_1 != 0) = true then
                J_2 true h_6
              else
                J_2 (t55_0 != (IntKind.wrap .i64 (i + 1))) h_6))
        (fun J_1 =>
          ((0 : Int) ≤ i ∧ i < ((data_l : Nat) : Int)) ∧
          onSome data_p fun a_1 =>
          ∃ (t34_p : Option Addr) (t34_l t34_c : Nat), hcell h_3 (a_1.add (Int.toNat i * 1)) = some (.slice t34_p t34_l t34_c) ∧
          if (decide (((t34_l : Nat) : Int) < 1)) = true then
            J_1 true h_3
          else
            ((0 : Int) ≤ i ∧ i < ((data_l : Nat) : Int)) ∧
            onSome data_p fun a_2 =>
            ∃ (t41_p : Option Addr) (t41_l t41_c : Nat), hcell h_3 (a_2.add (Int.toNat i * 1)) = some (.slice t41_p t41_l t41_c) ∧
            J_1 (decide (((t41_l : Nat) : Int) > 300)) h_3)
      else
        CallsH Try.prog F.outbox_Box_Pass #[.pointer t20, .int .u64 (IntKind.wrap .u64 now)] h_3 fun v_3 h_8 =>
        ∃ (t69_p : Option Addr) (t69_l t69_c : Nat), v_3 = .slice t69_p t69_l t69_c ∧
        ∃ (I_1 : Int → Heap → Prop) (mu_1 : Int → Heap → Nat), I_1 0 h_8 ∧ ∀ (i_1 : Int) (h_9 : Heap), I_1 i_1 h_9 →
          if (decide (i_1 < ((t69_l : Nat) : Int))) = true then
            JoinP (fun (t93 : Bool) (h_10 : Heap) =>
              if t93 = true then
                R (.bool false) h_10
              else
                (I_1 (IntKind.wrap .i64 (i_1 + 1)) h_10 ∧ mu_1 (IntKind.wrap .i64 (i_1 + 1)) h_10 < mu_1 i_1 h_9))
            (fun J_3 =>
              ((0 : Int) ≤ i_1 ∧ i_1 < ((t69_l : Nat) : Int)) ∧
              onSome t69_p fun a_3 =>
              ∃ (t80 : Int), hcell h_9 (a_3.add (Int.toNat i_1 * 4)) = some (.int .i64 t80) ∧
              if (t80 != (IntKind.wrap .i64 (i_1 + 1))) = true then
                J_3 true h_9
              else
                ((0 : Int) ≤ i_1 ∧ i_1 < ((t69_l : Nat) : Int)) ∧
                onSome t69_p fun a_4 =>
                ∃ (t89 : Int), hcell h_9 ((a_4.add (Int.toNat i_1 * 4)).add 3) = some (.int .u64 t89) ∧
                J_3 (decide (t89 > (IntKind.wrap .u64 now))) h_9)
          else
            ∃ (I_2 : Option Addr → Nat → Nat → Int → Heap → Prop) (mu_2 : Option Addr → Nat → Nat → Int → Heap → Nat), I_2 none 0 0 ((t69_l : Nat) : Int) h_9 ∧ ∀ (left_p : Option Addr) (left_l left_c : Nat) (i_2 : Int) (h_11 : Heap), I_2 left_p left_l left_c i_2 h_11 →
              JoinP (fun (t103 : Bool) (h_12 : Heap) =>
                if t103 = true then
                  JoinP (fun (left_p_1 : Option Addr) (left_l_1 left_c_1 : Nat) (h_13 : Heap) =>
                    (I_2 left_p_1 left_l_1 left_c_1 (IntKind.wrap .i64 (i_2 + 1)) h_13 ∧ mu_2 left_p_1 left_l_1 left_c_1 (IntKind.wrap .i64 (i_2 + 1)) h_13 < mu_2 left_p left_l left_c i_2 h_11))
                  (fun J_5 =>
                    JoinP (fun (t117 : Bool) (h_14 : Heap) =>
                      if t117 = true then
                        CallsH Try.prog F.outbox_Box_Cancel #[.pointer t20, .int .i64 (IntKind.wrap .i64 (i_2 + 1)), .int .i64 5] h_14 fun v_4 h_15 =>
                        ∃ (t121 : Int), v_4 = .int .i64 t121 ∧
                        if (t121 != 0) = true then
                          R (.bool false) h_15
                        else
                          J_5 left_p left_l left_c h_15
                      else
                        NewP h_14 (.cells #[.int .i64 i_2] T.int) fun b h_16 =>
                        denSem Try.prog (Builtin.append_ #[T.s_int, T.s_int] T.s_int #[.slice left_p left_l left_c, .slice (some ⟨b, 0, none⟩) 1 1]) h_16 fun v_5 h_17 =>
                        ∃ (t126_p : Option Addr) (t126_l t126_c : Nat), v_5 = .slice t126_p t126_l t126_c ∧
                        J_5 t126_p t126_l t126_c h_17)
                    (fun J_6 =>
                      if (decide (i_2 < ((gone_l : Nat) : Int))) = true then
                        ((0 : Int) ≤ i_2 ∧ i_2 < ((gone_l : Nat) : Int)) ∧
                        onSome gone_p fun a_5 =>
                        ∃ (t114 : Int), hcell h_12 (a_5.add (Int.toNat i_2 * 1)) = some (.int .u8 t114) ∧
                        J_6 ((IntKind.wrap .u8 ((BitVec.ofInt (IntKind.bits .u8) t114 &&& BitVec.ofInt (IntKind.bits .u8) 1).toNat : Int)) == 1) h_12
                      else
                        J_6 false h_12))
                else
                  ∃ (I_3 : Int → Heap → Prop) (mu_3 : Int → Heap → Nat), I_3 0 h_12 ∧ ∀ (i_3 : Int) (h_18 : Heap), I_3 i_3 h_18 →
                    if (decide (i_3 < ((left_l : Nat) : Int))) = true then
                      CallsH Try.prog F.outbox_Box_Take #[.pointer t20] h_18 fun v_6 h_19 =>
                      ∃ (t135_0_0 : Int), ∃ (t135_0_1 : Int), ∃ (t135_0_2_p : Option Addr) (t135_0_2_l t135_0_2_c : Nat), ∃ (t135_0_3 : Int), ∃ (t135_1 : Int), v_6 = .tuple #[.agg #[.int .i64 t135_0_0, .int .i64 t135_0_1, .slice t135_0_2_p t135_0_2_l t135_0_2_c, .int .u64 t135_0_3], .int .i64 t135_1] ∧
                      NewP h_19 (.cells #[.int .i64 0, .int .i64 0, .slice none 0 0, .int .u64 0] T.outbox_Item) fun b_1 h_20 =>
                      StoreP h_20 ⟨b_1, 0, none⟩ (.int .i64 t135_0_0) fun h_21 =>
                      StoreP h_21 ⟨b_1, 1, none⟩ (.int .i64 t135_0_1) fun h_22 =>
                      StoreP h_22 ⟨b_1, 2, none⟩ (.slice t135_0_2_p t135_0_2_l t135_0_2_c) fun h_23 =>
                      StoreP h_23 ⟨b_1, 3, none⟩ (.int .u64 t135_0_3) fun h_24 =>
                      JoinP (fun (t170 : Bool) (h_25 : Heap) =>
                        if t170 = true then
                          R (.bool false) h_25
                        else
                          (I_3 (IntKind.wrap .i64 (i_3 + 1)) h_25 ∧ mu_3 (IntKind.wrap .i64 (i_3 + 1)) h_25 < mu_3 i_3 h_18))
                      (fun J_7 =>
                        if (t135_1 != 0) = true then
                          J_7 true h_24
                        else
                          ∃ (t142 : Int), hcell h_24 ⟨b_1, 0, none⟩ = some (.int .i64 t142) ∧
                          ((0 : Int) ≤ i_3 ∧ i_3 < ((left_l : Nat) : Int)) ∧
                          onSome left_p fun a_6 =>
                          ∃ (t146 : Int), hcell h_24 (a_6.add (Int.toNat i_3 * 1)) = some (.int .i64 t146) ∧
                          if (t142 != (IntKind.wrap .i64 (t146 + 1))) = true then
                            J_7 true h_24
                          else
                            ∃ (t152_p : Option Addr) (t152_l t152_c : Nat), hcell h_24 ⟨b_1, 2, none⟩ = some (.slice t152_p t152_l t152_c) ∧
                            ∃ (t153 : ByteArray), ConvV Try.prog T.s_uint8 T.string (.slice t152_p t152_l t152_c) h_24 t153 ∧
                            ((0 : Int) ≤ i_3 ∧ i_3 < ((left_l : Nat) : Int)) ∧
                            onSome left_p fun a_7 =>
                            ∃ (t158 : Int), hcell h_24 (a_7.add (Int.toNat i_3 * 1)) = some (.int .i64 t158) ∧
                            ((0 : Int) ≤ t158 ∧ t158 < ((data_l : Nat) : Int)) ∧
                            onSome data_p fun a_8 =>
                            ∃ (t160_p : Option Addr) (t160_l t160_c : Nat), hcell h_24 (a_8.add (Int.toNat t158 * 1)) = some (.slice t160_p t160_l t160_c) ∧
                            ∃ (t161 : ByteArray), ConvV Try.prog T.s_uint8 T.string (.slice t160_p t160_l t160_c) h_24 t161 ∧
                            if (!(t153.toList == t161.toList)) = true then
                              J_7 true h_24
                            else
                              ∃ (t166 : Int), hcell h_24 ⟨b_1, 3, none⟩ = some (.int .u64 t166) ∧
                              J_7 (decide (t166 ≤ (IntKind.wrap .u64 now))) h_24)
                    else
                      CallsH Try.prog F.outbox_Box_Take #[.pointer t20] h_18 fun v_7 h_26 =>
                      ∃ (t173_0_0 : Int), ∃ (t173_0_1 : Int), ∃ (t173_0_2_p : Option Addr) (t173_0_2_l t173_0_2_c : Nat), ∃ (t173_0_3 : Int), ∃ (t173_1 : Int), v_7 = .tuple #[.agg #[.int .i64 t173_0_0, .int .i64 t173_0_1, .slice t173_0_2_p t173_0_2_l t173_0_2_c, .int .u64 t173_0_3], .int .i64 t173_1] ∧
                      NewP h_26 (.cells #[.int .i64 0, .int .i64 0, .slice none 0 0, .int .u64 0] T.outbox_Item) fun b_2 h_27 =>
                      StoreP h_27 ⟨b_2, 0, none⟩ (.int .i64 t173_0_0) fun h_28 =>
                      StoreP h_28 ⟨b_2, 1, none⟩ (.int .i64 t173_0_1) fun h_29 =>
                      StoreP h_29 ⟨b_2, 2, none⟩ (.slice t173_0_2_p t173_0_2_l t173_0_2_c) fun h_30 =>
                      StoreP h_30 ⟨b_2, 3, none⟩ (.int .u64 t173_0_3) fun h_31 =>
                      CallsH Try.prog F.law23_alive #[] h_31 fun v_8 h_32 =>
                      ∃ (t176 : Bool), v_8 = .bool t176 ∧
                      if t176 = true then
                        R (.bool (t173_1 == 4)) h_32
                      else
                        R (.bool false) h_32)
              (fun J_4 =>
                if (decide (i_2 < ((data_l : Nat) : Int))) = true then
                  J_4 (decide (i_2 < 16)) h_11
                else
                  J_4 false h_11))
    (fun J =>
      if (decide (i < ((data_l : Nat) : Int))) = true then
        J (decide (i < 16)) h_2
      else
        J false h_2)
theorem law23_OutboxOrder.den_eq (data_p : Option Addr) (data_l data_c : Nat) (gone_p : Option Addr) (gone_l gone_c : Nat) (now : Int) (h : Heap) (R : Value → Heap → Prop) : law23_OutboxOrder.vc data_p data_l data_c gone_p gone_l gone_c now h R = den Try.prog Try.f3.ntmps (.seq .leaf (.seq .leaf (.seq .leaf (.seq (.seq .leaf (.block (.loop [(9, .one (.int .i64))] (.seq (.seq (.join [(28, .one (.bool))] .leaf) (.cond .leaf .leaf)) (.seq (.block (.seq (.seq (.join [(44, .one (.bool))] .leaf) (.cond (.seq .leaf .leaf) .leaf)) (.seq .leaf (.seq (.join [(65, .one (.bool))] .leaf) (.cond (.seq .leaf .leaf) .leaf))))) .leaf))))) (.seq .leaf (.seq (.seq .leaf (.block (.loop [(13, .one (.int .i64))] (.seq (.seq .leaf (.cond .leaf .leaf)) (.seq (.block (.seq (.join [(93, .one (.bool))] .leaf) (.cond (.seq .leaf .leaf) .leaf))) .leaf))))) (.seq (.seq .leaf (.block (.loop [(8, .one (.slice)), (14, .one (.int .i64))] (.seq (.seq (.join [(103, .one (.bool))] .leaf) (.cond .leaf .leaf)) (.seq (.join [(8, .one (.slice))] (.block (.seq (.seq (.join [(117, .one (.bool))] .leaf) (.cond (.seq (.seq .leaf (.cond (.seq .leaf .leaf) .leaf)) .leaf) .leaf)) .leaf))) .leaf))))) (.seq (.seq .leaf (.block (.loop [(15, .one (.int .i64))] (.seq (.seq .leaf (.cond .leaf .leaf)) (.seq (.block (.seq .leaf (.seq (.join [(170, .one (.bool))] (.plan (.op 0 (.op 1 (.op 2 (.op 3 (.op 4 (.op 5 (.op 6 (.op 7 (.op 8 (.op 9 (.op 10 (.op 11 (.op 12 (.op 13 (.op 14 (.op 15 (.op 16 (.op 17 (.op 18 (.op 19 (.op 20 (.op 21 (.op 22 (.op 23 (.op 24 (.op 25 (.op 26 (.op 27 (.op 28 (.op 29 (.op 30 (.op 31 (.op 32 .done))))))))))))))))))))))))))))))))))) (.cond (.seq .leaf .leaf) .leaf)))) .leaf))))) (.seq .leaf (.seq .leaf .leaf)))))))))) none (bodyOf Try.f3) (retK Try.prog Try.f3.results R) (argEnv [.slice data_p data_l data_c, .slice gone_p gone_l gone_c, .int .u16 now]) h := by kernel_rfl
theorem law23_OutboxOrder.walk {data_p : Option Addr} {data_l data_c : Nat} {gone_p : Option Addr} {gone_l gone_c : Nat} {now : Int} {h : Heap} {R : Value → Heap → Prop} (hv : law23_OutboxOrder.vc data_p data_l data_c gone_p gone_l gone_c now h R) : CallsH Try.prog F.law23_OutboxOrder #[.slice data_p data_l data_c, .slice gone_p gone_l gone_c, .int .u16 now] h R :=
  callsH_of_body _ Try.func3 rfl rfl (Eq.mp (law23_OutboxOrder.den_eq data_p data_l data_c gone_p gone_l gone_c now h R) hv)

end Go.Proofs.Ytlonfpolnmiglaa
