/-
  Printed by a program of this work (vc.py): the verification conditions of functions, and that each is enough for the call. No condition.
-/
import Derived.Test.YtlonfpolnmiglaaNames
set_option maxRecDepth 100000
set_option maxHeartbeats 4000000
namespace Go.Proofs.Ytlonfpolnmiglaa
open Go.Den
def law23_OutboxLives.vc (ops_p : Option Addr) (ops_l ops_c : Nat) (h : Heap) (R : Value → Heap → Prop) : Prop :=
  CallsH Try.prog F.outbox_New #[] h fun v h_1 =>
  ∃ (t25 : Option Addr), v = .pointer t25 ∧
  NewP h_1 (.cells #[.slice none 0 0] T.ref23_Box) fun b h_2 =>
  ∃ (I : Int → Heap → Prop) (mu : Int → Heap → Nat), I 0 h_2 ∧ ∀ (i : Int) (h_3 : Heap), I i h_3 →
    JoinP (fun (t35 : Bool) (h_4 : Heap) =>
      if t35 = true then
        ((0 : Int) ≤ i ∧ i < ((ops_l : Nat) : Int)) ∧
        onSome ops_p fun a =>
        ∃ (t41_0 : Int), hcell h_4 (a.add (Int.toNat i * 5)) = some (.int .i64 t41_0) ∧ ∃ (t41_1 : Int), hcell h_4 ((a.add (Int.toNat i * 5)).add 1) = some (.int .i64 t41_1) ∧ ∃ (t41_2 : Int), hcell h_4 ((a.add (Int.toNat i * 5)).add 2) = some (.int .i64 t41_2) ∧ ∃ (t41_3_p : Option Addr) (t41_3_l t41_3_c : Nat), hcell h_4 ((a.add (Int.toNat i * 5)).add 3) = some (.slice t41_3_p t41_3_l t41_3_c) ∧ ∃ (t41_4 : Int), hcell h_4 ((a.add (Int.toNat i * 5)).add 4) = some (.int .u64 t41_4) ∧ 
        NewP h_4 (.cells #[.int .i64 0, .int .i64 0, .int .i64 0, .slice none 0 0, .int .u64 0] T.law23_Op) fun b_1 h_5 =>
        StoreP h_5 ⟨b_1, 0, none⟩ (.int .i64 t41_0) fun h_6 =>
        StoreP h_6 ⟨b_1, 1, none⟩ (.int .i64 t41_1) fun h_7 =>
        StoreP h_7 ⟨b_1, 2, none⟩ (.int .i64 t41_2) fun h_8 =>
        StoreP h_8 ⟨b_1, 3, none⟩ (.slice t41_3_p t41_3_l t41_3_c) fun h_9 =>
        StoreP h_9 ⟨b_1, 4, none⟩ (.int .u64 t41_4) fun h_10 =>
        ∃ (t43_p : Option Addr) (t43_l t43_c : Nat), hcell h_10 ⟨b_1, 3, none⟩ = some (.slice t43_p t43_l t43_c) ∧
        if (decide (((t43_l : Nat) : Int) > 700)) = true then
          CallsH Try.prog F.law23_alive #[] h_10 fun v_1 h_11 =>
          ∃ (t46 : Bool), v_1 = .bool t46 ∧
          R (.bool t46) h_11
        else
          ∃ (t48 : Int), hcell h_10 ⟨b_1, 0, none⟩ = some (.int .i64 t48) ∧
          JoinP (fun (fine : Bool) (h_12 : Heap) =>
            JoinP (fun (t179 : Bool) (h_13 : Heap) =>
              if t179 = true then
                R (.bool false) h_13
              else
                (I (IntKind.wrap .i64 (i + 1)) h_13 ∧ mu (IntKind.wrap .i64 (i + 1)) h_13 < mu i h_3))
            (fun J_2 =>
              if (!fine) = true then
                J_2 true h_12
              else
                CallsH Try.prog F.law23_Same #[.pointer t25, .pointer (some ⟨b, 0, none⟩)] h_12 fun v_2 h_14 =>
                ∃ (t177 : Bool), v_2 = .bool t177 ∧
                J_2 (!t177) h_14))
          (fun J_1 =>
            JoinP (fun (fine_1 : Bool) (h_15 : Heap) =>
              J_1 fine_1 h_15)
            (fun J_3 =>
              if (t48 == 0) = true then
                ∃ (t54 : Int), hcell h_10 ⟨b_1, 2, none⟩ = some (.int .i64 t54) ∧
                ∃ (t56_p : Option Addr) (t56_l t56_c : Nat), hcell h_10 ⟨b_1, 3, none⟩ = some (.slice t56_p t56_l t56_c) ∧
                ∃ (t58 : Int), hcell h_10 ⟨b_1, 4, none⟩ = some (.int .u64 t58) ∧
                CallsH Try.prog F.outbox_Box_Add #[.pointer t25, .int .i64 t54, .slice t56_p t56_l t56_c, .int .u64 t58] h_10 fun v_3 h_16 =>
                ∃ (t59_0 : Int), ∃ (t59_1 : Int), v_3 = .tuple #[.int .i64 t59_0, .int .i64 t59_1] ∧
                ∃ (t65 : Int), hcell h_16 ⟨b_1, 2, none⟩ = some (.int .i64 t65) ∧
                ∃ (t67_p : Option Addr) (t67_l t67_c : Nat), hcell h_16 ⟨b_1, 3, none⟩ = some (.slice t67_p t67_l t67_c) ∧
                ∃ (t69 : Int), hcell h_16 ⟨b_1, 4, none⟩ = some (.int .u64 t69) ∧
                CallsH Try.prog F.ref23_Box_Add #[.pointer (some ⟨b, 0, none⟩), .int .i64 t65, .slice t67_p t67_l t67_c, .int .u64 t69] h_16 fun v_4 h_17 =>
                ∃ (t70_0 : Int), ∃ (t70_1 : Int), v_4 = .tuple #[.int .i64 t70_0, .int .i64 t70_1] ∧
                JoinP (fun (fine_2 : Bool) (h_18 : Heap) =>
                  J_3 fine_2 h_18)
                (fun J_4 =>
                  if (t59_0 == t70_0) = true then
                    J_4 (t59_1 == t70_1) h_17
                  else
                    J_4 false h_17)
              else
                JoinP (fun (fine_3 : Bool) (h_19 : Heap) =>
                  J_3 fine_3 h_19)
                (fun J_5 =>
                  if (t48 == 1) = true then
                    ∃ (t85 : Int), hcell h_10 ⟨b_1, 1, none⟩ = some (.int .i64 t85) ∧
                    ∃ (t87 : Int), hcell h_10 ⟨b_1, 2, none⟩ = some (.int .i64 t87) ∧
                    ∃ (t91 : Int), hcell h_10 ⟨b_1, 1, none⟩ = some (.int .i64 t91) ∧
                    ∃ (t93 : Int), hcell h_10 ⟨b_1, 2, none⟩ = some (.int .i64 t93) ∧
                    CallsH Try.prog F.outbox_Box_Cancel #[.pointer t25, .int .i64 t85, .int .i64 t87] h_10 fun v_5 h_20 =>
                    ∃ (t88 : Int), v_5 = .int .i64 t88 ∧
                    hcell h_20 ⟨b_1, 2, none⟩ = some (.int .i64 t93) ∧
                    hcell h_20 ⟨b_1, 1, none⟩ = some (.int .i64 t91) ∧
                    CallsH Try.prog F.ref23_Box_Cancel #[.pointer (some ⟨b, 0, none⟩), .int .i64 t91, .int .i64 t93] h_20 fun v_6 h_21 =>
                    ∃ (t94 : Int), v_6 = .int .i64 t94 ∧
                    J_5 (t88 == t94) h_21
                  else
                    JoinP (fun (fine_4 : Bool) (h_22 : Heap) =>
                      J_5 fine_4 h_22)
                    (fun J_6 =>
                      if (t48 == 2) = true then
                        CallsH Try.prog F.outbox_Box_Take #[.pointer t25] h_10 fun v_7 h_23 =>
                        ∃ (t100_0_0 : Int), ∃ (t100_0_1 : Int), ∃ (t100_0_2_p : Option Addr) (t100_0_2_l t100_0_2_c : Nat), ∃ (t100_0_3 : Int), ∃ (t100_1 : Int), v_7 = .tuple #[.agg #[.int .i64 t100_0_0, .int .i64 t100_0_1, .slice t100_0_2_p t100_0_2_l t100_0_2_c, .int .u64 t100_0_3], .int .i64 t100_1] ∧
                        NewP h_23 (.cells #[.int .i64 0, .int .i64 0, .slice none 0 0, .int .u64 0] T.outbox_Item) fun b_2 h_24 =>
                        StoreP h_24 ⟨b_2, 0, none⟩ (.int .i64 t100_0_0) fun h_25 =>
                        StoreP h_25 ⟨b_2, 1, none⟩ (.int .i64 t100_0_1) fun h_26 =>
                        StoreP h_26 ⟨b_2, 2, none⟩ (.slice t100_0_2_p t100_0_2_l t100_0_2_c) fun h_27 =>
                        StoreP h_27 ⟨b_2, 3, none⟩ (.int .u64 t100_0_3) fun h_28 =>
                        CallsH Try.prog F.ref23_Box_Take #[.pointer (some ⟨b, 0, none⟩)] h_28 fun v_8 h_29 =>
                        ∃ (t104 : Int), v_8 = .int .i64 t104 ∧
                        NewP h_29 (.cells #[.int .i64 0, .int .i64 0, .slice none 0 0, .int .u64 0, .int .i64 0] T.ref23_Item) fun b_3 h_30 =>
                        StoreP h_30 ⟨b_3, 0, none⟩ (.int .i64 0) fun h_31 =>
                        StoreP h_31 ⟨b_3, 1, none⟩ (.int .i64 0) fun h_32 =>
                        StoreP h_32 ⟨b_3, 2, none⟩ (.slice none 0 0) fun h_33 =>
                        StoreP h_33 ⟨b_3, 3, none⟩ (.int .u64 0) fun h_34 =>
                        StoreP h_34 ⟨b_3, 4, none⟩ (.int .i64 0) fun h_35 =>
                        JoinP (fun (h_36 : Heap) =>
                          JoinP (fun (fine_5 : Bool) (h_37 : Heap) =>
                            J_6 fine_5 h_37)
                          (fun J_8 =>
                            ∃ (t115_0 : Int), hcell h_36 ⟨b_2, 0, none⟩ = some (.int .i64 t115_0) ∧ ∃ (t115_1 : Int), hcell h_36 ⟨b_2, 1, none⟩ = some (.int .i64 t115_1) ∧ ∃ (t115_2_p : Option Addr) (t115_2_l t115_2_c : Nat), hcell h_36 ⟨b_2, 2, none⟩ = some (.slice t115_2_p t115_2_l t115_2_c) ∧ ∃ (t115_3 : Int), hcell h_36 ⟨b_2, 3, none⟩ = some (.int .u64 t115_3) ∧ 
                            ∃ (t116_0 : Int), hcell h_36 ⟨b_3, 0, none⟩ = some (.int .i64 t116_0) ∧ ∃ (t116_1 : Int), hcell h_36 ⟨b_3, 1, none⟩ = some (.int .i64 t116_1) ∧ ∃ (t116_2_p : Option Addr) (t116_2_l t116_2_c : Nat), hcell h_36 ⟨b_3, 2, none⟩ = some (.slice t116_2_p t116_2_l t116_2_c) ∧ ∃ (t116_3 : Int), hcell h_36 ⟨b_3, 3, none⟩ = some (.int .u64 t116_3) ∧ ∃ (t116_4 : Int), hcell h_36 ⟨b_3, 4, none⟩ = some (.int .i64 t116_4) ∧ 
                            CallsH Try.prog F.law23_same #[.agg #[.int .i64 t115_0, .int .i64 t115_1, .slice t115_2_p t115_2_l t115_2_c, .int .u64 t115_3], .agg #[.int .i64 t116_0, .int .i64 t116_1, .slice t116_2_p t116_2_l t116_2_c, .int .u64 t116_3, .int .i64 t116_4]] h_36 fun v_9 h_38 =>
                            ∃ (t117 : Bool), v_9 = .bool t117 ∧
                            if t117 = true then
                              if ((t100_1 == 0) == (decide (t104 ≥ 0))) = true then
                                if (decide (t104 ≥ 0)) = true then
                                  J_8 true h_38
                                else
                                  J_8 (t100_1 == 4) h_38
                              else
                                J_8 false h_38
                            else
                              J_8 false h_38))
                        (fun J_7 =>
                          if (decide (t104 ≥ 0)) = true then
                            ∃ (t111_p : Option Addr) (t111_l t111_c : Nat), hcell h_35 ⟨b, 0, none⟩ = some (.slice t111_p t111_l t111_c) ∧
                            ((0 : Int) ≤ t104 ∧ t104 < ((t111_l : Nat) : Int)) ∧
                            onSome t111_p fun a_1 =>
                            ∃ (t114_0 : Int), hcell h_35 (a_1.add (Int.toNat t104 * 5)) = some (.int .i64 t114_0) ∧ ∃ (t114_1 : Int), hcell h_35 ((a_1.add (Int.toNat t104 * 5)).add 1) = some (.int .i64 t114_1) ∧ ∃ (t114_2_p : Option Addr) (t114_2_l t114_2_c : Nat), hcell h_35 ((a_1.add (Int.toNat t104 * 5)).add 2) = some (.slice t114_2_p t114_2_l t114_2_c) ∧ ∃ (t114_3 : Int), hcell h_35 ((a_1.add (Int.toNat t104 * 5)).add 3) = some (.int .u64 t114_3) ∧ ∃ (t114_4 : Int), hcell h_35 ((a_1.add (Int.toNat t104 * 5)).add 4) = some (.int .i64 t114_4) ∧ 
                            StoreP h_35 ⟨b_3, 0, none⟩ (.int .i64 t114_0) fun h_39 =>
                            StoreP h_39 ⟨b_3, 1, none⟩ (.int .i64 t114_1) fun h_40 =>
                            StoreP h_40 ⟨b_3, 2, none⟩ (.slice t114_2_p t114_2_l t114_2_c) fun h_41 =>
                            StoreP h_41 ⟨b_3, 3, none⟩ (.int .u64 t114_3) fun h_42 =>
                            StoreP h_42 ⟨b_3, 4, none⟩ (.int .i64 t114_4) fun h_43 =>
                            J_7 h_43
                          else
                            J_7 h_35)
                      else
                        JoinP (fun (fine_6 : Bool) (h_44 : Heap) =>
                          J_6 fine_6 h_44)
                        (fun J_9 =>
                          if (t48 == 3) = true then
                            ∃ (t137 : Int), hcell h_10 ⟨b_1, 4, none⟩ = some (.int .u64 t137) ∧
                            ∃ (t141 : Int), hcell h_10 ⟨b_1, 4, none⟩ = some (.int .u64 t141) ∧
                            CallsH Try.prog F.outbox_Box_Pass #[.pointer t25, .int .u64 t137] h_10 fun v_10 h_45 =>
                            ∃ (t138_p : Option Addr) (t138_l t138_c : Nat), v_10 = .slice t138_p t138_l t138_c ∧
                            hcell h_45 ⟨b_1, 4, none⟩ = some (.int .u64 t141) ∧
                            CallsH Try.prog F.ref23_Box_Pass #[.pointer (some ⟨b, 0, none⟩), .int .u64 t141] h_45 fun v_11 h_46 =>
                            ∃ (t142_p : Option Addr) (t142_l t142_c : Nat), v_11 = .slice t142_p t142_l t142_c ∧
                            ∃ (I_1 : Bool → Int → Heap → Prop) (mu_1 : Bool → Int → Heap → Nat), I_1 (((t138_l : Nat) : Int) == ((t142_l : Nat) : Int)) 0 h_46 ∧ ∀ (fine_7 : Bool) (k : Int) (h_47 : Heap), I_1 fine_7 k h_47 →
                              JoinP (fun (t154 : Bool) (h_48 : Heap) =>
                                if t154 = true then
                                  ((0 : Int) ≤ k ∧ k < ((t138_l : Nat) : Int)) ∧
                                  onSome t138_p fun a_2 =>
                                  ∃ (t160_0 : Int), hcell h_48 (a_2.add (Int.toNat k * 4)) = some (.int .i64 t160_0) ∧ ∃ (t160_1 : Int), hcell h_48 ((a_2.add (Int.toNat k * 4)).add 1) = some (.int .i64 t160_1) ∧ ∃ (t160_2_p : Option Addr) (t160_2_l t160_2_c : Nat), hcell h_48 ((a_2.add (Int.toNat k * 4)).add 2) = some (.slice t160_2_p t160_2_l t160_2_c) ∧ ∃ (t160_3 : Int), hcell h_48 ((a_2.add (Int.toNat k * 4)).add 3) = some (.int .u64 t160_3) ∧ 
                                  ∃ (t164_p : Option Addr) (t164_l t164_c : Nat), hcell h_48 ⟨b, 0, none⟩ = some (.slice t164_p t164_l t164_c) ∧
                                  ((0 : Int) ≤ k ∧ k < ((t142_l : Nat) : Int)) ∧
                                  onSome t142_p fun a_3 =>
                                  ∃ (t168 : Int), hcell h_48 (a_3.add (Int.toNat k * 1)) = some (.int .i64 t168) ∧
                                  ((0 : Int) ≤ t168 ∧ t168 < ((t164_l : Nat) : Int)) ∧
                                  onSome t164_p fun a_4 =>
                                  ∃ (t170_0 : Int), hcell h_48 (a_4.add (Int.toNat t168 * 5)) = some (.int .i64 t170_0) ∧ ∃ (t170_1 : Int), hcell h_48 ((a_4.add (Int.toNat t168 * 5)).add 1) = some (.int .i64 t170_1) ∧ ∃ (t170_2_p : Option Addr) (t170_2_l t170_2_c : Nat), hcell h_48 ((a_4.add (Int.toNat t168 * 5)).add 2) = some (.slice t170_2_p t170_2_l t170_2_c) ∧ ∃ (t170_3 : Int), hcell h_48 ((a_4.add (Int.toNat t168 * 5)).add 3) = some (.int .u64 t170_3) ∧ ∃ (t170_4 : Int), hcell h_48 ((a_4.add (Int.toNat t168 * 5)).add 4) = some (.int .i64 t170_4) ∧ 
                                  CallsH Try.prog F.law23_same #[.agg #[.int .i64 t160_0, .int .i64 t160_1, .slice t160_2_p t160_2_l t160_2_c, .int .u64 t160_3], .agg #[.int .i64 t170_0, .int .i64 t170_1, .slice t170_2_p t170_2_l t170_2_c, .int .u64 t170_3, .int .i64 t170_4]] h_48 fun v_12 h_49 =>
                                  ∃ (t171 : Bool), v_12 = .bool t171 ∧
                                  hcell h_49 (a_3.add (Int.toNat k * 1)) = some (.int .i64 t168) ∧
                                  hcell h_49 ⟨b, 0, none⟩ = some (.slice t164_p t164_l t164_c) ∧
                                  (I_1 t171 (IntKind.wrap .i64 (k + 1)) h_49 ∧ mu_1 t171 (IntKind.wrap .i64 (k + 1)) h_49 < mu_1 fine_7 k h_47)
                                else
                                  J_9 fine_7 h_48)
                              (fun J_10 =>
                                if (decide (k < ((t142_l : Nat) : Int))) = true then
                                  J_10 fine_7 h_47
                                else
                                  J_10 false h_47)
                          else
                            J_9 true h_10)))))
      else
        NewP h_4 (.cells #[.slice none 0 0, .int .i64 0, .int .i64 0, .int .i64 0, .int .i64 0, .pointer none] T.outbox_Box) fun b_4 h_50 =>
        NewP h_50 (.cells #[.int .u8 97] T.uint8) fun b_5 h_51 =>
        denSem Try.prog (convert T.s_uint8 T.s_uint8 (.slice (some ⟨b_5, 0, none⟩) 1 1)) h_51 fun v_13 h_52 =>
        ∃ (t183_p : Option Addr) (t183_l t183_c : Nat), v_13 = .slice t183_p t183_l t183_c ∧
        CallsH Try.prog F.outbox_Box_Add #[.pointer none, .int .i64 1, .slice t183_p t183_l t183_c, .int .u64 1] h_52 fun v_14 h_53 =>
        ∃ (t184_0 : Int), ∃ (t184_1 : Int), v_14 = .tuple #[.int .i64 t184_0, .int .i64 t184_1] ∧
        CallsH Try.prog F.outbox_Box_Take #[.pointer (some ⟨b_4, 0, none⟩)] h_53 fun v_15 h_54 =>
        ∃ (t188_0_0 : Int), ∃ (t188_0_1 : Int), ∃ (t188_0_2_p : Option Addr) (t188_0_2_l t188_0_2_c : Nat), ∃ (t188_0_3 : Int), ∃ (t188_1 : Int), v_15 = .tuple #[.agg #[.int .i64 t188_0_0, .int .i64 t188_0_1, .slice t188_0_2_p t188_0_2_l t188_0_2_c, .int .u64 t188_0_3], .int .i64 t188_1] ∧
        NewP h_54 (.cells #[.int .i64 0, .int .i64 0, .slice none 0 0, .int .u64 0] T.outbox_Item) fun b_6 h_55 =>
        StoreP h_55 ⟨b_6, 0, none⟩ (.int .i64 t188_0_0) fun h_56 =>
        StoreP h_56 ⟨b_6, 1, none⟩ (.int .i64 t188_0_1) fun h_57 =>
        StoreP h_57 ⟨b_6, 2, none⟩ (.slice t188_0_2_p t188_0_2_l t188_0_2_c) fun h_58 =>
        StoreP h_58 ⟨b_6, 3, none⟩ (.int .u64 t188_0_3) fun h_59 =>
        CallsH Try.prog F.law23_alive #[] h_59 fun v_16 h_60 =>
        ∃ (t191 : Bool), v_16 = .bool t191 ∧
        if t191 = true then
          CallsH Try.prog F.outbox_Box_Save #[.pointer t25] h_60 fun v_17 h_61 =>
          ∃ (t194_p : Option Addr) (t194_l t194_c : Nat), v_17 = .slice t194_p t194_l t194_c ∧
          CallsH Try.prog F.ref23_Box_Save #[.pointer (some ⟨b, 0, none⟩)] h_61 fun v_18 h_62 =>
          ∃ (t196_p : Option Addr) (t196_l t196_c : Nat), v_18 = .slice t196_p t196_l t196_c ∧
          CallsH Try.prog F.law19_Same #[.slice t194_p t194_l t194_c, .slice t196_p t196_l t196_c] h_62 fun v_19 h_63 =>
          ∃ (t197 : Bool), v_19 = .bool t197 ∧
          if t197 = true then
            if (t184_1 == 6) = true then
              if (t188_1 == 6) = true then
                CallsH Try.prog F.outbox_Box_Cancel #[.pointer none, .int .i64 1, .int .i64 1] h_63 fun v_20 h_64 =>
                ∃ (t209 : Int), v_20 = .int .i64 t209 ∧
                if (t209 == 6) = true then
                  CallsH Try.prog F.outbox_Box_Cancel #[.pointer (some ⟨b_4, 0, none⟩), .int .i64 1, .int .i64 1] h_64 fun v_21 h_65 =>
                  ∃ (t213 : Int), v_21 = .int .i64 t213 ∧
                  if (t213 == 6) = true then
                    CallsH Try.prog F.outbox_Box_Pass #[.pointer none, .int .u64 1] h_65 fun v_22 h_66 =>
                    ∃ (t218_p : Option Addr) (t218_l t218_c : Nat), v_22 = .slice t218_p t218_l t218_c ∧
                    CallsH Try.prog F.outbox_Box_All #[.pointer (some ⟨b_4, 0, none⟩)] h_66 fun v_23 h_67 =>
                    ∃ (t220_p : Option Addr) (t220_l t220_c : Nat), v_23 = .slice t220_p t220_l t220_c ∧
                    CallsH Try.prog F.outbox_Box_Save #[.pointer none] h_67 fun v_24 h_68 =>
                    ∃ (t224_p : Option Addr) (t224_l t224_c : Nat), v_24 = .slice t224_p t224_l t224_c ∧
                    if ((IntKind.wrap .i64 ((IntKind.wrap .i64 (((t218_l : Nat) : Int) + ((t220_l : Nat) : Int))) + ((t224_l : Nat) : Int))) == 0) = true then
                      CallsH Try.prog F.outbox_Box_Counts #[.pointer (some ⟨b_4, 0, none⟩)] h_68 fun v_25 h_69 =>
                      ∃ (t230_0 : Int), ∃ (t230_1 : Int), ∃ (t230_2 : Int), ∃ (t230_3 : Int), ∃ (t230_4 : Int), v_25 = .agg #[.int .i64 t230_0, .int .i64 t230_1, .int .i64 t230_2, .int .i64 t230_3, .int .i64 t230_4] ∧
                      ∃ (eq : Bool), EqV Try.prog T.a5_int (.agg #[.int .i64 t230_0, .int .i64 t230_1, .int .i64 t230_2, .int .i64 t230_3, .int .i64 t230_4]) (.agg #[.int .i64 0, .int .i64 0, .int .i64 0, .int .i64 0, .int .i64 0]) eq ∧
                      R (.bool eq) h_69
                    else
                      R (.bool false) h_68
                  else
                    R (.bool false) h_65
                else
                  R (.bool false) h_64
              else
                R (.bool false) h_63
            else
              R (.bool false) h_63
          else
            R (.bool false) h_63
        else
          R (.bool false) h_60)
    (fun J =>
      if (decide (i < ((ops_l : Nat) : Int))) = true then
        J (decide (i < 80)) h_3
      else
        J false h_3)
theorem law23_OutboxLives.den_eq (ops_p : Option Addr) (ops_l ops_c : Nat) (h : Heap) (R : Value → Heap → Prop) : law23_OutboxLives.vc ops_p ops_l ops_c h R = den Try.prog Try.f4.ntmps (.seq .leaf (.seq .leaf (.seq (.seq .leaf (.block (.loop [(5, .one (.int .i64))] (.seq (.seq (.join [(35, .one (.bool))] .leaf) (.cond .leaf .leaf)) (.seq (.block (.seq .leaf (.seq (.seq .leaf (.cond (.seq .leaf .leaf) .leaf)) (.seq .leaf (.seq (.seq .leaf (.join [(7, .one (.bool))] (.block (.seq .leaf (.join [(7, .one (.bool))] (.cond (.seq .leaf (.seq .leaf (.join [(7, .one (.bool))] .leaf))) (.seq .leaf (.join [(7, .one (.bool))] (.cond (.plan (.op 0 (.op 1 (.op 2 (.op 3 (.op 4 (.op 6 (.op 7 (.op 8 (.op 9 (.op 10 (.op 5 (.op 11 (.op 12 (.op 13 .done))))))))))))))) (.seq .leaf (.join [(7, .one (.bool))] (.cond (.seq .leaf (.seq .leaf (.seq .leaf (.seq (.seq .leaf (.join [] (.cond .leaf .leaf))) (.join [(7, .one (.bool))] .leaf))))) (.seq .leaf (.join [(7, .one (.bool))] (.cond (.seq (.plan (.op 0 (.op 1 (.op 2 (.op 4 (.op 5 (.op 6 (.op 3 (.op 7 (.op 8 (.op 9 .done))))))))))) (.seq .leaf (.seq .leaf (.block (.loop [(7, .one (.bool)), (18, .one (.int .i64))] (.seq (.seq (.join [(154, .one (.bool))] .leaf) (.cond .leaf .leaf)) (.seq (.block (.plan (.op 0 (.op 1 (.op 2 (.op 3 (.op 4 (.op 5 (.op 6 (.op 7 (.op 8 (.op 9 (.op 10 (.op 11 (.op 12 (.op 13 (.op 14 (.op 15 .done)))))))))))))))))) .leaf))))))) .leaf))))))))))))))) (.seq (.join [(179, .one (.bool))] .leaf) (.cond (.seq .leaf .leaf) .leaf))))))) .leaf))))) (.seq .leaf (.seq .leaf (.seq .leaf (.seq .leaf (.seq .leaf .leaf)))))))) none (bodyOf Try.f4) (retK Try.prog Try.f4.results R) (argEnv [.slice ops_p ops_l ops_c]) h := by kernel_rfl
theorem law23_OutboxLives.walk {ops_p : Option Addr} {ops_l ops_c : Nat} {h : Heap} {R : Value → Heap → Prop} (hv : law23_OutboxLives.vc ops_p ops_l ops_c h R) : CallsH Try.prog F.law23_OutboxLives #[.slice ops_p ops_l ops_c] h R :=
  callsH_of_body _ Try.func4 rfl rfl (Eq.mp (law23_OutboxLives.den_eq ops_p ops_l ops_c h R) hv)

end Go.Proofs.Ytlonfpolnmiglaa
