/-
  Printed by a program of this work (vc.py): the verification conditions of functions, and that each is enough for the call. No condition.
-/
import Derived.Test.YtlonfpolnmiglaaNames
set_option maxRecDepth 100000
set_option maxHeartbeats 4000000
namespace Go.Proofs.Ytlonfpolnmiglaa
open Go.Den
def law23_OutboxOnce.vc (ops_p : Option Addr) (ops_l ops_c : Nat) (h : Heap) (R : Value → Heap → Prop) : Prop :=
  CallsH Try.prog F.outbox_New #[] h fun v h_1 =>
  ∃ (t17 : Option Addr), v = .pointer t17 ∧
  ∃ (I : Int → Int → Heap → Prop) (mu : Int → Int → Heap → Nat), I 0 0 h_1 ∧ ∀ (last : Int) (i : Int) (h_2 : Heap), I last i h_2 →
    JoinP (fun (t25 : Bool) (h_3 : Heap) =>
      if t25 = true then
        ((0 : Int) ≤ i ∧ i < ((ops_l : Nat) : Int)) ∧
        onSome ops_p fun a =>
        ∃ (t31_0 : Int), hcell h_3 (a.add (Int.toNat i * 5)) = some (.int .i64 t31_0) ∧ ∃ (t31_1 : Int), hcell h_3 ((a.add (Int.toNat i * 5)).add 1) = some (.int .i64 t31_1) ∧ ∃ (t31_2 : Int), hcell h_3 ((a.add (Int.toNat i * 5)).add 2) = some (.int .i64 t31_2) ∧ ∃ (t31_3_p : Option Addr) (t31_3_l t31_3_c : Nat), hcell h_3 ((a.add (Int.toNat i * 5)).add 3) = some (.slice t31_3_p t31_3_l t31_3_c) ∧ ∃ (t31_4 : Int), hcell h_3 ((a.add (Int.toNat i * 5)).add 4) = some (.int .u64 t31_4) ∧ 
        NewP h_3 (.cells #[.int .i64 0, .int .i64 0, .int .i64 0, .slice none 0 0, .int .u64 0] T.law23_Op) fun b h_4 =>
        StoreP h_4 ⟨b, 0, none⟩ (.int .i64 t31_0) fun h_5 =>
        StoreP h_5 ⟨b, 1, none⟩ (.int .i64 t31_1) fun h_6 =>
        StoreP h_6 ⟨b, 2, none⟩ (.int .i64 t31_2) fun h_7 =>
        StoreP h_7 ⟨b, 3, none⟩ (.slice t31_3_p t31_3_l t31_3_c) fun h_8 =>
        StoreP h_8 ⟨b, 4, none⟩ (.int .u64 t31_4) fun h_9 =>
        ∃ (t33_p : Option Addr) (t33_l t33_c : Nat), hcell h_9 ⟨b, 3, none⟩ = some (.slice t33_p t33_l t33_c) ∧
        if (decide (((t33_l : Nat) : Int) > 700)) = true then
          CallsH Try.prog F.law23_alive #[] h_9 fun v_1 h_10 =>
          ∃ (t36 : Bool), v_1 = .bool t36 ∧
          R (.bool t36) h_10
        else
          ∃ (t38 : Int), hcell h_9 ⟨b, 0, none⟩ = some (.int .i64 t38) ∧
          JoinP (fun (last_1 : Int) (h_11 : Heap) =>
            CallsH Try.prog F.outbox_Box_Counts #[.pointer t17] h_11 fun v_2 h_12 =>
            ∃ (t83_0 : Int), ∃ (t83_1 : Int), ∃ (t83_2 : Int), ∃ (t83_3 : Int), ∃ (t83_4 : Int), v_2 = .agg #[.int .i64 t83_0, .int .i64 t83_1, .int .i64 t83_2, .int .i64 t83_3, .int .i64 t83_4] ∧
            NewP h_12 (.cells #[.int .i64 0, .int .i64 0, .int .i64 0, .int .i64 0, .int .i64 0] T.a5_int) fun b_1 h_13 =>
            StoreP h_13 ⟨b_1, 0, none⟩ (.int .i64 t83_0) fun h_14 =>
            StoreP h_14 ⟨b_1, 1, none⟩ (.int .i64 t83_1) fun h_15 =>
            StoreP h_15 ⟨b_1, 2, none⟩ (.int .i64 t83_2) fun h_16 =>
            StoreP h_16 ⟨b_1, 3, none⟩ (.int .i64 t83_3) fun h_17 =>
            StoreP h_17 ⟨b_1, 4, none⟩ (.int .i64 t83_4) fun h_18 =>
            JoinP (fun (t110 : Bool) (h_19 : Heap) =>
              if t110 = true then
                R (.bool false) h_19
              else
                (I last_1 (IntKind.wrap .i64 (i + 1)) h_19 ∧ mu last_1 (IntKind.wrap .i64 (i + 1)) h_19 < mu last i h_2))
            (fun J_2 =>
              ((0 : Int) ≤ 0 ∧ 0 < ((5 : Nat) : Int)) ∧
              ∃ (t85 : Int), hcell h_18 ((⟨b_1, 0, none⟩ : Addr).add (Int.toNat 0 * 1)) = some (.int .i64 t85) ∧
              ((0 : Int) ≤ 1 ∧ 1 < ((5 : Nat) : Int)) ∧
              ∃ (t87 : Int), hcell h_18 ((⟨b_1, 0, none⟩ : Addr).add (Int.toNat 1 * 1)) = some (.int .i64 t87) ∧
              ((0 : Int) ≤ 2 ∧ 2 < ((5 : Nat) : Int)) ∧
              ∃ (t89 : Int), hcell h_18 ((⟨b_1, 0, none⟩ : Addr).add (Int.toNat 2 * 1)) = some (.int .i64 t89) ∧
              ((0 : Int) ≤ 3 ∧ 3 < ((5 : Nat) : Int)) ∧
              ∃ (t92 : Int), hcell h_18 ((⟨b_1, 0, none⟩ : Addr).add (Int.toNat 3 * 1)) = some (.int .i64 t92) ∧
              ((0 : Int) ≤ 4 ∧ 4 < ((5 : Nat) : Int)) ∧
              ∃ (t95 : Int), hcell h_18 ((⟨b_1, 0, none⟩ : Addr).add (Int.toNat 4 * 1)) = some (.int .i64 t95) ∧
              if (t85 != (IntKind.wrap .i64 ((IntKind.wrap .i64 ((IntKind.wrap .i64 (t87 + t89)) + t92)) + t95))) = true then
                J_2 true h_18
              else
                ((0 : Int) ≤ 1 ∧ 1 < ((5 : Nat) : Int)) ∧
                ∃ (t100 : Int), hcell h_18 ((⟨b_1, 0, none⟩ : Addr).add (Int.toNat 1 * 1)) = some (.int .i64 t100) ∧
                if (decide (t100 > 16)) = true then
                  J_2 true h_18
                else
                  ((0 : Int) ≤ 1 ∧ 1 < ((5 : Nat) : Int)) ∧
                  ∃ (t105 : Int), hcell h_18 ((⟨b_1, 0, none⟩ : Addr).add (Int.toNat 1 * 1)) = some (.int .i64 t105) ∧
                  CallsH Try.prog F.outbox_Box_All #[.pointer t17] h_18 fun v_3 h_20 =>
                  ∃ (t107_p : Option Addr) (t107_l t107_c : Nat), v_3 = .slice t107_p t107_l t107_c ∧
                  hcell h_20 ((⟨b_1, 0, none⟩ : Addr).add (Int.toNat 1 * 1)) = some (.int .i64 t105) ∧
                  hcell h_20 ((⟨b_1, 0, none⟩ : Addr).add (Int.toNat 1 * 1)) = some (.int .i64 t100) ∧
                  hcell h_20 ((⟨b_1, 0, none⟩ : Addr).add (Int.toNat 4 * 1)) = some (.int .i64 t95) ∧
                  hcell h_20 ((⟨b_1, 0, none⟩ : Addr).add (Int.toNat 3 * 1)) = some (.int .i64 t92) ∧
                  hcell h_20 ((⟨b_1, 0, none⟩ : Addr).add (Int.toNat 2 * 1)) = some (.int .i64 t89) ∧
                  hcell h_20 ((⟨b_1, 0, none⟩ : Addr).add (Int.toNat 1 * 1)) = some (.int .i64 t87) ∧
                  hcell h_20 ((⟨b_1, 0, none⟩ : Addr).add (Int.toNat 0 * 1)) = some (.int .i64 t85) ∧
                  J_2 (t105 != ((t107_l : Nat) : Int)) h_20))
          (fun J_1 =>
            JoinP (fun (last_2 : Int) (h_21 : Heap) =>
              J_1 last_2 h_21)
            (fun J_3 =>
              if (t38 == 0) = true then
                ∃ (t43 : Int), hcell h_9 ⟨b, 2, none⟩ = some (.int .i64 t43) ∧
                ∃ (t45_p : Option Addr) (t45_l t45_c : Nat), hcell h_9 ⟨b, 3, none⟩ = some (.slice t45_p t45_l t45_c) ∧
                ∃ (t47 : Int), hcell h_9 ⟨b, 4, none⟩ = some (.int .u64 t47) ∧
                CallsH Try.prog F.outbox_Box_Add #[.pointer t17, .int .i64 t43, .slice t45_p t45_l t45_c, .int .u64 t47] h_9 fun v_4 h_22 =>
                ∃ (t48_0 : Int), ∃ (t48_1 : Int), v_4 = .tuple #[.int .i64 t48_0, .int .i64 t48_1] ∧
                J_3 last h_22
              else
                JoinP (fun (last_3 : Int) (h_23 : Heap) =>
                  J_3 last_3 h_23)
                (fun J_4 =>
                  if (t38 == 1) = true then
                    ∃ (t53 : Int), hcell h_9 ⟨b, 1, none⟩ = some (.int .i64 t53) ∧
                    ∃ (t55 : Int), hcell h_9 ⟨b, 2, none⟩ = some (.int .i64 t55) ∧
                    CallsH Try.prog F.outbox_Box_Cancel #[.pointer t17, .int .i64 t53, .int .i64 t55] h_9 fun v_5 h_24 =>
                    ∃ (t56 : Int), v_5 = .int .i64 t56 ∧
                    J_4 last h_24
                  else
                    JoinP (fun (last_4 : Int) (h_25 : Heap) =>
                      J_4 last_4 h_25)
                    (fun J_5 =>
                      if (t38 == 2) = true then
                        CallsH Try.prog F.outbox_Box_Take #[.pointer t17] h_9 fun v_6 h_26 =>
                        ∃ (t61_0_0 : Int), ∃ (t61_0_1 : Int), ∃ (t61_0_2_p : Option Addr) (t61_0_2_l t61_0_2_c : Nat), ∃ (t61_0_3 : Int), ∃ (t61_1 : Int), v_6 = .tuple #[.agg #[.int .i64 t61_0_0, .int .i64 t61_0_1, .slice t61_0_2_p t61_0_2_l t61_0_2_c, .int .u64 t61_0_3], .int .i64 t61_1] ∧
                        NewP h_26 (.cells #[.int .i64 0, .int .i64 0, .slice none 0 0, .int .u64 0] T.outbox_Item) fun b_2 h_27 =>
                        StoreP h_27 ⟨b_2, 0, none⟩ (.int .i64 t61_0_0) fun h_28 =>
                        StoreP h_28 ⟨b_2, 1, none⟩ (.int .i64 t61_0_1) fun h_29 =>
                        StoreP h_29 ⟨b_2, 2, none⟩ (.slice t61_0_2_p t61_0_2_l t61_0_2_c) fun h_30 =>
                        StoreP h_30 ⟨b_2, 3, none⟩ (.int .u64 t61_0_3) fun h_31 =>
                        JoinP (fun (t71 : Bool) (h_32 : Heap) =>
                          if t71 = true then
                            R (.bool false) h_32
                          else
                            JoinP (fun (last_5 : Int) (h_33 : Heap) =>
                              J_5 last_5 h_33)
                            (fun J_7 =>
                              if (t61_1 == 0) = true then
                                ∃ (t75 : Int), hcell h_32 ⟨b_2, 0, none⟩ = some (.int .i64 t75) ∧
                                J_7 t75 h_32
                              else
                                J_7 last h_32))
                        (fun J_6 =>
                          if (t61_1 == 0) = true then
                            ∃ (t68 : Int), hcell h_31 ⟨b_2, 0, none⟩ = some (.int .i64 t68) ∧
                            J_6 (decide (t68 ≤ last)) h_31
                          else
                            J_6 false h_31)
                      else
                        JoinP (fun (h_34 : Heap) =>
                          J_5 last h_34)
                        (fun J_8 =>
                          if (t38 == 3) = true then
                            ∃ (t80 : Int), hcell h_9 ⟨b, 4, none⟩ = some (.int .u64 t80) ∧
                            CallsH Try.prog F.outbox_Box_Pass #[.pointer t17, .int .u64 t80] h_9 fun v_7 h_35 =>
                            ∃ (t81_p : Option Addr) (t81_l t81_c : Nat), v_7 = .slice t81_p t81_l t81_c ∧
                            J_8 h_35
                          else
                            J_8 h_9)))))
      else
        CallsH Try.prog F.outbox_Box_Save #[.pointer t17] h_3 fun v_8 h_36 =>
        ∃ (t112_p : Option Addr) (t112_l t112_c : Nat), v_8 = .slice t112_p t112_l t112_c ∧
        CallsH Try.prog F.outbox_Load #[.slice t112_p t112_l t112_c] h_36 fun v_9 h_37 =>
        ∃ (t115_0 : Option Addr), ∃ (t115_1 : Int), v_9 = .tuple #[.pointer t115_0, .int .i64 t115_1] ∧
        JoinP (fun (t142 : Bool) (h_38 : Heap) =>
          if t142 = true then
            R (.bool false) h_38
          else
            ((0 : Int) ≤ IntKind.wrap .i64 (((t112_l : Nat) : Int) - 1) ∧ IntKind.wrap .i64 (((t112_l : Nat) : Int) - 1) ≤ ((t112_c : Nat) : Int)) ∧ 
            CallsH Try.prog F.outbox_Load #[.slice (slBase t112_p t112_c 0 1) ((Int.toNat (IntKind.wrap .i64 (((t112_l : Nat) : Int) - 1))) - 0) (t112_c - 0)] h_38 fun v_10 h_39 =>
            ∃ (t149_0 : Option Addr), ∃ (t149_1 : Int), v_10 = .tuple #[.pointer t149_0, .int .i64 t149_1] ∧
            NewP h_39 (.cells #[] T.s_uint8) fun b_3 h_40 =>
            denSem Try.prog (Builtin.append_ #[T.s_s_uint8, T.s_s_uint8] T.s_s_uint8 #[.slice (some ⟨b_3, 0, none⟩) 0 0, .slice t112_p t112_l t112_c]) h_40 fun v_11 h_41 =>
            ∃ (t155_p : Option Addr) (t155_l t155_c : Nat), v_11 = .slice t155_p t155_l t155_c ∧
            NewP h_41 (.cells #[.int .u8 1] T.uint8) fun b_4 h_42 =>
            NewP h_42 (.cells #[.slice (some ⟨b_4, 0, none⟩) 1 1] T.s_uint8) fun b_5 h_43 =>
            denSem Try.prog (Builtin.append_ #[T.s_s_uint8, T.s_s_uint8] T.s_s_uint8 #[.slice t155_p t155_l t155_c, .slice (some ⟨b_5, 0, none⟩) 1 1]) h_43 fun v_12 h_44 =>
            ∃ (t158_p : Option Addr) (t158_l t158_c : Nat), v_12 = .slice t158_p t158_l t158_c ∧
            CallsH Try.prog F.outbox_Load #[.slice t158_p t158_l t158_c] h_44 fun v_13 h_45 =>
            ∃ (t159_0 : Option Addr), ∃ (t159_1 : Int), v_13 = .tuple #[.pointer t159_0, .int .i64 t159_1] ∧
            CallsH Try.prog F.law23_alive #[] h_45 fun v_14 h_46 =>
            ∃ (t162 : Bool), v_14 = .bool t162 ∧
            if t162 = true then
              if (t149_1 == 3) = true then
                R (.bool (t159_1 == 3)) h_46
              else
                R (.bool false) h_46
            else
              R (.bool false) h_46)
        (fun J_9 =>
          if (t115_1 != 0) = true then
            J_9 true h_37
          else
            if t115_0.isNone = true then
              J_9 true h_37
            else
              if (((t112_l : Nat) : Int) == 0) = true then
                J_9 true h_37
              else
                CallsH Try.prog F.outbox_Box_Save #[.pointer t115_0] h_37 fun v_15 h_47 =>
                ∃ (t131_p : Option Addr) (t131_l t131_c : Nat), v_15 = .slice t131_p t131_l t131_c ∧
                CallsH Try.prog F.law19_Same #[.slice t131_p t131_l t131_c, .slice t112_p t112_l t112_c] h_47 fun v_16 h_48 =>
                ∃ (t133 : Bool), v_16 = .bool t133 ∧
                if (!t133) = true then
                  J_9 true h_48
                else
                  CallsH Try.prog F.outbox_Box_Counts #[.pointer t115_0] h_48 fun v_17 h_49 =>
                  ∃ (t138_0 : Int), ∃ (t138_1 : Int), ∃ (t138_2 : Int), ∃ (t138_3 : Int), ∃ (t138_4 : Int), v_17 = .agg #[.int .i64 t138_0, .int .i64 t138_1, .int .i64 t138_2, .int .i64 t138_3, .int .i64 t138_4] ∧
                  CallsH Try.prog F.outbox_Box_Counts #[.pointer t17] h_49 fun v_18 h_50 =>
                  ∃ (t140_0 : Int), ∃ (t140_1 : Int), ∃ (t140_2 : Int), ∃ (t140_3 : Int), ∃ (t140_4 : Int), v_18 = .agg #[.int .i64 t140_0, .int .i64 t140_1, .int .i64 t140_2, .int .i64 t140_3, .int .i64 t140_4] ∧
                  ∃ (eq : Bool), EqV Try.prog T.a5_int (.agg #[.int .i64 t138_0, .int .i64 t138_1, .int .i64 t138_2, .int .i64 t138_3, .int .i64 t138_4]) (.agg #[.int .i64 t140_0, .int .i64 t140_1, .int .i64 t140_2, .int .i64 t140_3, .int .i64 t140_4]) eq ∧
                  J_9 (!eq) h_50))
    (fun J =>
      if (decide (i < ((ops_l : Nat) : Int))) = true then
        J (decide (i < 80)) h_2
      else
        J false h_2)
theorem law23_OutboxOnce.den_eq (ops_p : Option Addr) (ops_l ops_c : Nat) (h : Heap) (R : Value → Heap → Prop) : law23_OutboxOnce.vc ops_p ops_l ops_c h R = den Try.prog Try.f5.ntmps (.seq .leaf (.seq .leaf (.seq .leaf (.seq (.seq .leaf (.block (.loop [(4, .one (.int .i64)), (5, .one (.int .i64))] (.seq (.seq (.join [(25, .one (.bool))] .leaf) (.cond .leaf .leaf)) (.seq (.block (.seq .leaf (.seq (.seq .leaf (.cond (.seq .leaf .leaf) .leaf)) (.seq (.seq .leaf (.join [(4, .one (.int .i64))] (.block (.seq .leaf (.join [(4, .one (.int .i64))] (.cond .leaf (.seq .leaf (.join [(4, .one (.int .i64))] (.cond .leaf (.seq .leaf (.join [(4, .one (.int .i64))] (.cond (.seq .leaf (.seq (.seq (.join [(71, .one (.bool))] .leaf) (.cond (.seq .leaf .leaf) .leaf)) (.seq .leaf (.join [(4, .one (.int .i64))] (.cond .leaf .leaf))))) (.seq .leaf (.join [] (.cond .leaf .leaf))))))))))))))) (.seq .leaf (.seq (.join [(110, .one (.bool))] (.plan (.op 0 (.op 1 (.op 2 (.op 3 (.op 4 (.op 5 (.op 6 (.op 7 (.op 8 (.op 9 (.op 10 (.op 11 (.op 12 (.op 13 (.op 14 (.op 15 (.op 16 (.op 17 (.op 18 (.op 19 (.op 20 (.op 21 (.op 22 (.op 23 (.op 24 (.op 25 (.op 26 .done))))))))))))))))))))))))))))) (.cond (.seq .leaf .leaf) .leaf))))))) .leaf))))) (.seq .leaf (.seq .leaf (.seq (.seq (.join [(142, .one (.bool))] .leaf) (.cond (.seq .leaf .leaf) .leaf)) (.seq .leaf (.seq .leaf (.seq .leaf .leaf)))))))))) none (bodyOf Try.f5) (retK Try.prog Try.f5.results R) (argEnv [.slice ops_p ops_l ops_c]) h := by kernel_rfl
theorem law23_OutboxOnce.walk {ops_p : Option Addr} {ops_l ops_c : Nat} {h : Heap} {R : Value → Heap → Prop} (hv : law23_OutboxOnce.vc ops_p ops_l ops_c h R) : CallsH Try.prog F.law23_OutboxOnce #[.slice ops_p ops_l ops_c] h R :=
  callsH_of_body _ Try.func5 rfl rfl (Eq.mp (law23_OutboxOnce.den_eq ops_p ops_l ops_c h R) hv)

end Go.Proofs.Ytlonfpolnmiglaa
