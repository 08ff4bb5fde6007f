/-
  Printed by a program of this work (vc.py): the verification conditions of functions, and that each is enough for the call. No condition.
-/
import Derived.Test.YtcdmemcmmfgdlaaNames
set_option maxRecDepth 100000
set_option maxHeartbeats 4000000
namespace Go.Proofs.Ytcdmemcmmfgdlaa
open Go.Den
def law20_alive.vc  (h : Heap) (R : Value → Heap → Prop) : Prop :=
  CallsH Try.prog F.alarm_New #[] h fun v h_1 =>
  ∃ (t9 : Option Addr), v = .pointer t9 ∧
  CallsH Try.prog F.alarm_Alarm_Set #[.pointer t9, .int .i64 2, .int .u64 5] h_1 fun v_1 h_2 =>
  ∃ (t11 : Int), v_1 = .int .i64 t11 ∧
  CallsH Try.prog F.alarm_Alarm_Set #[.pointer t9, .int .i64 1, .int .u64 5] h_2 fun v_2 h_3 =>
  ∃ (t13 : Int), v_2 = .int .i64 t13 ∧
  CallsH Try.prog F.alarm_Alarm_Set #[.pointer t9, .int .i64 3, .int .u64 9] h_3 fun v_3 h_4 =>
  ∃ (t15 : Int), v_3 = .int .i64 t15 ∧
  CallsH Try.prog F.alarm_Alarm_Next #[.pointer t9] h_4 fun v_4 h_5 =>
  ∃ (t18_0 : Int), ∃ (t18_1 : Int), ∃ (t18_2 : Bool), v_4 = .tuple #[.int .i64 t18_0, .int .u64 t18_1, .bool t18_2] ∧
  CallsH Try.prog F.alarm_Alarm_Ring #[.pointer t9, .int .u64 5] h_5 fun v_5 h_6 =>
  ∃ (t23_p : Option Addr) (t23_l t23_c : Nat), v_5 = .slice t23_p t23_l t23_c ∧
  if (t11 == 0) = true then
    if (t13 == 0) = true then
      if (t15 == 0) = true then
        if (t18_0 == 1) = true then
          if (t18_1 == 5) = true then
            if t18_2 = true then
              if (((t23_l : Nat) : Int) == 2) = true then
                ((0 : Int) ≤ 0 ∧ 0 < ((t23_l : Nat) : Int)) ∧
                onSome t23_p fun a =>
                ∃ (t53 : Int), hcell h_6 (a.add (Int.toNat 0 * 1)) = some (.int .i64 t53) ∧
                if (t53 == 1) = true then
                  ((0 : Int) ≤ 1 ∧ 1 < ((t23_l : Nat) : Int)) ∧
                  onSome t23_p fun a_1 =>
                  ∃ (t59 : Int), hcell h_6 (a_1.add (Int.toNat 1 * 1)) = some (.int .i64 t59) ∧
                  if (t59 == 2) = true then
                    CallsH Try.prog F.alarm_Alarm_Len #[.pointer t9] h_6 fun v_6 h_7 =>
                    ∃ (t64 : Int), v_6 = .int .i64 t64 ∧
                    if (t64 == 1) = true then
                      CallsH Try.prog F.alarm_Alarm_Drop #[.pointer t9, .int .i64 2] h_7 fun v_7 h_8 =>
                      ∃ (t69 : Int), v_7 = .int .i64 t69 ∧
                      if (t69 == 4) = true then
                        CallsH Try.prog F.alarm_Alarm_Set #[.pointer t9, .int .i64 0, .int .u64 1] h_8 fun v_8 h_9 =>
                        ∃ (t74 : Int), v_8 = .int .i64 t74 ∧
                        R (.bool (t74 == 1)) h_9
                      else
                        R (.bool false) h_8
                    else
                      R (.bool false) h_7
                  else
                    R (.bool false) h_6
                else
                  R (.bool false) h_6
              else
                R (.bool false) h_6
            else
              R (.bool false) h_6
          else
            R (.bool false) h_6
        else
          R (.bool false) h_6
      else
        R (.bool false) h_6
    else
      R (.bool false) h_6
  else
    R (.bool false) h_6
theorem law20_alive.den_eq  (h : Heap) (R : Value → Heap → Prop) : law20_alive.vc h R = den Try.prog Try.f8.ntmps (.seq .leaf (.seq .leaf (.seq .leaf (.seq .leaf (.seq .leaf (.seq .leaf .leaf)))))) none (bodyOf Try.f8) (retK Try.prog Try.f8.results R) (argEnv []) h := by kernel_rfl
theorem law20_alive.walk  {h : Heap} {R : Value → Heap → Prop} (hv : law20_alive.vc h R) : CallsH Try.prog F.law20_alive #[] h R :=
  callsH_of_body _ Try.func8 rfl rfl (Eq.mp (law20_alive.den_eq h R) hv)

def law20_AlarmLives.vc (ops_p : Option Addr) (ops_l ops_c : Nat) (ask : Int) (h : Heap) (R : Value → Heap → Prop) : Prop :=
  CallsH Try.prog F.alarm_New #[] h fun v h_1 =>
  ∃ (t26 : Option Addr), v = .pointer t26 ∧
  NewP h_1 (.cells #[.slice none 0 0] T.ref20_Alarm) fun b h_2 =>
  ∃ (I : Int → Heap → Prop) (mu : Int → Heap → Nat), I 0 h_2 ∧ ∀ (i : Int) (h_3 : Heap), I i h_3 →
    JoinP (fun (t36 : Bool) (h_4 : Heap) =>
      if t36 = true then
        ((0 : Int) ≤ i ∧ i < ((ops_l : Nat) : Int)) ∧
        onSome ops_p fun a =>
        ∃ (t42_0 : Int), hcell h_4 (a.add (Int.toNat i * 3)) = some (.int .i64 t42_0) ∧ ∃ (t42_1 : Int), hcell h_4 ((a.add (Int.toNat i * 3)).add 1) = some (.int .i64 t42_1) ∧ ∃ (t42_2 : Int), hcell h_4 ((a.add (Int.toNat i * 3)).add 2) = some (.int .u64 t42_2) ∧ 
        NewP h_4 (.cells #[.int .i64 0, .int .i64 0, .int .u64 0] T.law20_Op) fun b_1 h_5 =>
        StoreP h_5 ⟨b_1, 0, none⟩ (.int .i64 t42_0) fun h_6 =>
        StoreP h_6 ⟨b_1, 1, none⟩ (.int .i64 t42_1) fun h_7 =>
        StoreP h_7 ⟨b_1, 2, none⟩ (.int .u64 t42_2) fun h_8 =>
        ∃ (t44 : Int), hcell h_8 ⟨b_1, 0, none⟩ = some (.int .i64 t44) ∧
        JoinP (fun (fine : Bool) (h_9 : Heap) =>
          CallsH Try.prog F.alarm_Alarm_Next #[.pointer t26] h_9 fun v_1 h_10 =>
          ∃ (t106_0 : Int), ∃ (t106_1 : Int), ∃ (t106_2 : Bool), v_1 = .tuple #[.int .i64 t106_0, .int .u64 t106_1, .bool t106_2] ∧
          CallsH Try.prog F.alarm_Alarm_At #[.pointer t26, .int .i64 ask] h_10 fun v_2 h_11 =>
          ∃ (t113_0 : Int), ∃ (t113_1 : Bool), v_2 = .tuple #[.int .u64 t113_0, .bool t113_1] ∧
          CallsH Try.prog F.ref20_Alarm_Find #[.pointer (some ⟨b, 0, none⟩), .int .i64 ask] h_11 fun v_3 h_12 =>
          ∃ (t118 : Int), v_3 = .int .i64 t118 ∧
          JoinP (fun (t146 : Bool) (h_13 : Heap) =>
            if t146 = true then
              R (.bool false) h_13
            else
              JoinP (fun (t204 : Bool) (h_14 : Heap) =>
                if t204 = true then
                  R (.bool false) h_14
                else
                  (I (IntKind.wrap .i64 (i + 1)) h_14 ∧ mu (IntKind.wrap .i64 (i + 1)) h_14 < mu i h_3))
              (fun J_3 =>
                if t106_2 = true then
                  ∃ (t153_p : Option Addr) (t153_l t153_c : Nat), hcell h_13 ⟨b, 0, none⟩ = some (.slice t153_p t153_l t153_c) ∧
                  ((0 : Int) ≤ 0 ∧ 0 < ((t153_l : Nat) : Int)) ∧
                  onSome t153_p fun a_1 =>
                  ∃ (t156 : Int), hcell h_13 (a_1.add (Int.toNat 0 * 2)) = some (.int .i64 t156) ∧
                  if (t106_0 != t156) = true then
                    J_3 true h_13
                  else
                    ∃ (t163_p : Option Addr) (t163_l t163_c : Nat), hcell h_13 ⟨b, 0, none⟩ = some (.slice t163_p t163_l t163_c) ∧
                    ((0 : Int) ≤ 0 ∧ 0 < ((t163_l : Nat) : Int)) ∧
                    onSome t163_p fun a_2 =>
                    ∃ (t166 : Int), hcell h_13 ((a_2.add (Int.toNat 0 * 2)).add 1) = some (.int .u64 t166) ∧
                    if (t106_1 != t166) = true then
                      J_3 true h_13
                    else
                      if (!t106_2) = true then
                        if (t106_0 != 0) = true then
                          J_3 true h_13
                        else
                          if (t106_1 != 0) = true then
                            J_3 true h_13
                          else
                            if t113_1 = true then
                              ∃ (t189_p : Option Addr) (t189_l t189_c : Nat), hcell h_13 ⟨b, 0, none⟩ = some (.slice t189_p t189_l t189_c) ∧
                              ((0 : Int) ≤ t118 ∧ t118 < ((t189_l : Nat) : Int)) ∧
                              onSome t189_p fun a_3 =>
                              ∃ (t193 : Int), hcell h_13 ((a_3.add (Int.toNat t118 * 2)).add 1) = some (.int .u64 t193) ∧
                              if (t113_0 != t193) = true then
                                J_3 true h_13
                              else
                                if (!t113_1) = true then
                                  J_3 (t113_0 != 0) h_13
                                else
                                  J_3 false h_13
                            else
                              if (!t113_1) = true then
                                J_3 (t113_0 != 0) h_13
                              else
                                J_3 false h_13
                      else
                        if t113_1 = true then
                          ∃ (t189_p_1 : Option Addr) (t189_l_1 t189_c_1 : Nat), hcell h_13 ⟨b, 0, none⟩ = some (.slice t189_p_1 t189_l_1 t189_c_1) ∧
                          ((0 : Int) ≤ t118 ∧ t118 < ((t189_l_1 : Nat) : Int)) ∧
                          onSome t189_p_1 fun a_4 =>
                          ∃ (t193_1 : Int), hcell h_13 ((a_4.add (Int.toNat t118 * 2)).add 1) = some (.int .u64 t193_1) ∧
                          if (t113_0 != t193_1) = true then
                            J_3 true h_13
                          else
                            if (!t113_1) = true then
                              J_3 (t113_0 != 0) h_13
                            else
                              J_3 false h_13
                        else
                          if (!t113_1) = true then
                            J_3 (t113_0 != 0) h_13
                          else
                            J_3 false h_13
                else
                  if (!t106_2) = true then
                    if (t106_0 != 0) = true then
                      J_3 true h_13
                    else
                      if (t106_1 != 0) = true then
                        J_3 true h_13
                      else
                        if t113_1 = true then
                          ∃ (t189_p_2 : Option Addr) (t189_l_2 t189_c_2 : Nat), hcell h_13 ⟨b, 0, none⟩ = some (.slice t189_p_2 t189_l_2 t189_c_2) ∧
                          ((0 : Int) ≤ t118 ∧ t118 < ((t189_l_2 : Nat) : Int)) ∧
                          onSome t189_p_2 fun a_5 =>
                          ∃ (t193_2 : Int), hcell h_13 ((a_5.add (Int.toNat t118 * 2)).add 1) = some (.int .u64 t193_2) ∧
                          if (t113_0 != t193_2) = true then
                            J_3 true h_13
                          else
                            if (!t113_1) = true then
                              J_3 (t113_0 != 0) h_13
                            else
                              J_3 false h_13
                        else
                          if (!t113_1) = true then
                            J_3 (t113_0 != 0) h_13
                          else
                            J_3 false h_13
                  else
                    if t113_1 = true then
                      ∃ (t189_p_3 : Option Addr) (t189_l_3 t189_c_3 : Nat), hcell h_13 ⟨b, 0, none⟩ = some (.slice t189_p_3 t189_l_3 t189_c_3) ∧
                      ((0 : Int) ≤ t118 ∧ t118 < ((t189_l_3 : Nat) : Int)) ∧
                      onSome t189_p_3 fun a_6 =>
                      ∃ (t193_3 : Int), hcell h_13 ((a_6.add (Int.toNat t118 * 2)).add 1) = some (.int .u64 t193_3) ∧
                      if (t113_0 != t193_3) = true then
                        J_3 true h_13
                      else
                        if (!t113_1) = true then
                          J_3 (t113_0 != 0) h_13
                        else
                          J_3 false h_13
                    else
                      if (!t113_1) = true then
                        J_3 (t113_0 != 0) h_13
                      else
                        J_3 false h_13))
          (fun J_2 =>
            if (!fine) = true then
              J_2 true h_12
            else
              ∃ (t127_p : Option Addr) (t127_l t127_c : Nat), hcell h_12 ⟨b, 0, none⟩ = some (.slice t127_p t127_l t127_c) ∧
              CallsH Try.prog F.alarm_Alarm_Len #[.pointer t26] h_12 fun v_4 h_15 =>
              ∃ (t123 : Int), v_4 = .int .i64 t123 ∧
              hcell h_15 ⟨b, 0, none⟩ = some (.slice t127_p t127_l t127_c) ∧
              if (t123 != ((t127_l : Nat) : Int)) = true then
                J_2 true h_15
              else
                ∃ (t136_p : Option Addr) (t136_l t136_c : Nat), hcell h_15 ⟨b, 0, none⟩ = some (.slice t136_p t136_l t136_c) ∧
                if (!(t106_2 == (decide (((t136_l : Nat) : Int) > 0)))) = true then
                  J_2 true h_15
                else
                  J_2 (!(t113_1 == (decide (t118 ≥ 0)))) h_15))
        (fun J_1 =>
          JoinP (fun (fine_1 : Bool) (h_16 : Heap) =>
            J_1 fine_1 h_16)
          (fun J_4 =>
            if (t44 == 0) = true then
              ∃ (t49 : Int), hcell h_8 ⟨b_1, 1, none⟩ = some (.int .i64 t49) ∧
              ∃ (t51 : Int), hcell h_8 ⟨b_1, 2, none⟩ = some (.int .u64 t51) ∧
              ∃ (t55 : Int), hcell h_8 ⟨b_1, 1, none⟩ = some (.int .i64 t55) ∧
              ∃ (t57 : Int), hcell h_8 ⟨b_1, 2, none⟩ = some (.int .u64 t57) ∧
              CallsH Try.prog F.alarm_Alarm_Set #[.pointer t26, .int .i64 t49, .int .u64 t51] h_8 fun v_5 h_17 =>
              ∃ (t52 : Int), v_5 = .int .i64 t52 ∧
              hcell h_17 ⟨b_1, 2, none⟩ = some (.int .u64 t57) ∧
              hcell h_17 ⟨b_1, 1, none⟩ = some (.int .i64 t55) ∧
              CallsH Try.prog F.ref20_Alarm_Set #[.pointer (some ⟨b, 0, none⟩), .int .i64 t55, .int .u64 t57] h_17 fun v_6 h_18 =>
              ∃ (t58 : Int), v_6 = .int .i64 t58 ∧
              J_4 (t52 == t58) h_18
            else
              JoinP (fun (fine_2 : Bool) (h_19 : Heap) =>
                J_4 fine_2 h_19)
              (fun J_5 =>
                if (t44 == 1) = true then
                  ∃ (t64 : Int), hcell h_8 ⟨b_1, 1, none⟩ = some (.int .i64 t64) ∧
                  ∃ (t68 : Int), hcell h_8 ⟨b_1, 1, none⟩ = some (.int .i64 t68) ∧
                  CallsH Try.prog F.alarm_Alarm_Drop #[.pointer t26, .int .i64 t64] h_8 fun v_7 h_20 =>
                  ∃ (t65 : Int), v_7 = .int .i64 t65 ∧
                  hcell h_20 ⟨b_1, 1, none⟩ = some (.int .i64 t68) ∧
                  CallsH Try.prog F.ref20_Alarm_Drop #[.pointer (some ⟨b, 0, none⟩), .int .i64 t68] h_20 fun v_8 h_21 =>
                  ∃ (t69 : Int), v_8 = .int .i64 t69 ∧
                  J_5 (t65 == t69) h_21
                else
                  JoinP (fun (fine_3 : Bool) (h_22 : Heap) =>
                    J_5 fine_3 h_22)
                  (fun J_6 =>
                    if (t44 == 2) = true then
                      ∃ (t75 : Int), hcell h_8 ⟨b_1, 2, none⟩ = some (.int .u64 t75) ∧
                      ∃ (t79 : Int), hcell h_8 ⟨b_1, 2, none⟩ = some (.int .u64 t79) ∧
                      CallsH Try.prog F.alarm_Alarm_Ring #[.pointer t26, .int .u64 t75] h_8 fun v_9 h_23 =>
                      ∃ (t76_p : Option Addr) (t76_l t76_c : Nat), v_9 = .slice t76_p t76_l t76_c ∧
                      hcell h_23 ⟨b_1, 2, none⟩ = some (.int .u64 t79) ∧
                      CallsH Try.prog F.ref20_Alarm_Ring #[.pointer (some ⟨b, 0, none⟩), .int .u64 t79] h_23 fun v_10 h_24 =>
                      ∃ (t80_p : Option Addr) (t80_l t80_c : Nat), v_10 = .slice t80_p t80_l t80_c ∧
                      ∃ (I_1 : Bool → Int → Heap → Prop) (mu_1 : Bool → Int → Heap → Nat), I_1 (((t76_l : Nat) : Int) == ((t80_l : Nat) : Int)) 0 h_24 ∧ ∀ (fine_4 : Bool) (k : Int) (h_25 : Heap), I_1 fine_4 k h_25 →
                        JoinP (fun (t92 : Bool) (h_26 : Heap) =>
                          if t92 = true then
                            ((0 : Int) ≤ k ∧ k < ((t76_l : Nat) : Int)) ∧
                            onSome t76_p fun a_7 =>
                            ∃ (t98 : Int), hcell h_26 (a_7.add (Int.toNat k * 1)) = some (.int .i64 t98) ∧
                            ((0 : Int) ≤ k ∧ k < ((t80_l : Nat) : Int)) ∧
                            onSome t80_p fun a_8 =>
                            ∃ (t102 : Int), hcell h_26 (a_8.add (Int.toNat k * 1)) = some (.int .i64 t102) ∧
                            (I_1 (t98 == t102) (IntKind.wrap .i64 (k + 1)) h_26 ∧ mu_1 (t98 == t102) (IntKind.wrap .i64 (k + 1)) h_26 < mu_1 fine_4 k h_25)
                          else
                            J_6 fine_4 h_26)
                        (fun J_7 =>
                          if (decide (k < ((t80_l : Nat) : Int))) = true then
                            J_7 fine_4 h_25
                          else
                            J_7 false h_25)
                    else
                      J_6 true h_8))))
      else
        NewP h_4 (.cells #[.slice none 0 0, .map none] T.alarm_Alarm) fun b_2 h_27 =>
        CallsH Try.prog F.alarm_Alarm_Next #[.pointer none] h_27 fun v_11 h_28 =>
        ∃ (t207_0 : Int), ∃ (t207_1 : Int), ∃ (t207_2 : Bool), v_11 = .tuple #[.int .i64 t207_0, .int .u64 t207_1, .bool t207_2] ∧
        CallsH Try.prog F.alarm_Alarm_At #[.pointer (some ⟨b_2, 0, none⟩), .int .i64 1] h_28 fun v_12 h_29 =>
        ∃ (t212_0 : Int), ∃ (t212_1 : Bool), v_12 = .tuple #[.int .u64 t212_0, .bool t212_1] ∧
        CallsH Try.prog F.law20_alive #[] h_29 fun v_13 h_30 =>
        ∃ (t215 : Bool), v_13 = .bool t215 ∧
        if t215 = true then
          if (!t207_2) = true then
            if (!t212_1) = true then
              CallsH Try.prog F.alarm_Alarm_Set #[.pointer none, .int .i64 1, .int .u64 1] h_30 fun v_14 h_31 =>
              ∃ (t226 : Int), v_14 = .int .i64 t226 ∧
              if (t226 == 6) = true then
                CallsH Try.prog F.alarm_Alarm_Set #[.pointer (some ⟨b_2, 0, none⟩), .int .i64 1, .int .u64 1] h_31 fun v_15 h_32 =>
                ∃ (t230 : Int), v_15 = .int .i64 t230 ∧
                if (t230 == 6) = true then
                  CallsH Try.prog F.alarm_Alarm_Drop #[.pointer none, .int .i64 1] h_32 fun v_16 h_33 =>
                  ∃ (t235 : Int), v_16 = .int .i64 t235 ∧
                  if (t235 == 6) = true then
                    CallsH Try.prog F.alarm_Alarm_Len #[.pointer none] h_33 fun v_17 h_34 =>
                    ∃ (t240 : Int), v_17 = .int .i64 t240 ∧
                    CallsH Try.prog F.alarm_Alarm_Ring #[.pointer (some ⟨b_2, 0, none⟩), .int .u64 5] h_34 fun v_18 h_35 =>
                    ∃ (t241_p : Option Addr) (t241_l t241_c : Nat), v_18 = .slice t241_p t241_l t241_c ∧
                    R (.bool ((IntKind.wrap .i64 (t240 + ((t241_l : Nat) : Int))) == 0)) h_35
                  else
                    R (.bool false) h_33
                else
                  R (.bool false) h_32
              else
                R (.bool false) h_31
            else
              R (.bool false) h_30
          else
            R (.bool false) h_30
        else
          R (.bool false) h_30)
    (fun J =>
      if (decide (i < ((ops_l : Nat) : Int))) = true then
        J (decide (i < 200)) h_3
      else
        J false h_3)
theorem law20_AlarmLives.den_eq (ops_p : Option Addr) (ops_l ops_c : Nat) (ask : Int) (h : Heap) (R : Value → Heap → Prop) : law20_AlarmLives.vc ops_p ops_l ops_c ask h R = den Try.prog Try.f4.ntmps (.seq .leaf (.seq .leaf (.seq (.seq .leaf (.block (.loop [(7, .one (.int .i64))] (.seq (.seq (.join [(36, .one (.bool))] .leaf) (.cond .leaf .leaf)) (.seq (.block (.seq .leaf (.seq .leaf (.seq (.seq .leaf (.join [(9, .one (.bool))] (.block (.seq .leaf (.join [(9, .one (.bool))] (.cond (.plan (.op 0 (.op 1 (.op 2 (.op 3 (.op 4 (.op 6 (.op 7 (.op 8 (.op 9 (.op 10 (.op 5 (.op 11 (.op 12 (.op 13 .done))))))))))))))) (.seq .leaf (.join [(9, .one (.bool))] (.cond (.plan (.op 0 (.op 1 (.op 2 (.op 4 (.op 5 (.op 6 (.op 3 (.op 7 (.op 8 (.op 9 .done))))))))))) (.seq .leaf (.join [(9, .one (.bool))] (.cond (.seq (.plan (.op 0 (.op 1 (.op 2 (.op 4 (.op 5 (.op 6 (.op 3 (.op 7 (.op 8 (.op 9 .done))))))))))) (.seq .leaf (.seq .leaf (.block (.loop [(9, .one (.bool)), (12, .one (.int .i64))] (.seq (.seq (.join [(92, .one (.bool))] .leaf) (.cond .leaf .leaf)) (.seq (.block (.plan (.op 0 (.op 1 (.op 2 (.op 3 (.op 4 (.op 5 (.op 6 (.op 7 (.op 8 (.op 9 .done)))))))))))) .leaf))))))) .leaf)))))))))))) (.seq .leaf (.seq .leaf (.seq .leaf (.seq (.seq (.join [(146, .one (.bool))] (.plan (.op 0 (.op 1 (.op 2 (.op 3 (.op 5 (.op 6 (.op 7 (.op 8 (.op 9 (.op 4 (.op 10 (.op 11 (.op 12 (.op 13 (.op 14 (.op 15 (.op 16 (.op 17 (.op 18 (.op 19 (.op 20 (.op 21 (.op 22 (.op 23 (.op 24 (.op 25 (.op 26 (.op 27 .done)))))))))))))))))))))))))))))) (.cond (.seq .leaf .leaf) .leaf)) (.seq (.join [(204, .one (.bool))] .leaf) (.cond (.seq .leaf .leaf) .leaf)))))))))) .leaf))))) (.seq .leaf (.seq .leaf (.seq .leaf (.seq .leaf (.seq .leaf .leaf)))))))) none (bodyOf Try.f4) (retK Try.prog Try.f4.results R) (argEnv [.slice ops_p ops_l ops_c, .int .i64 ask]) h := by kernel_rfl
theorem law20_AlarmLives.walk {ops_p : Option Addr} {ops_l ops_c : Nat} {ask : Int} {h : Heap} {R : Value → Heap → Prop} (hv : law20_AlarmLives.vc ops_p ops_l ops_c ask h R) : CallsH Try.prog F.law20_AlarmLives #[.slice ops_p ops_l ops_c, .int .i64 ask] h R :=
  callsH_of_body _ Try.func4 rfl rfl (Eq.mp (law20_AlarmLives.den_eq ops_p ops_l ops_c ask h R) hv)

def law20_AlarmOnce.vc (times_p : Option Addr) (times_l times_c : Nat) (steps_p : Option Addr) (steps_l steps_c : Nat) (h : Heap) (R : Value → Heap → Prop) : Prop :=
  CallsH Try.prog F.alarm_New #[] h fun v h_1 =>
  ∃ (t15 : Option Addr), v = .pointer t15 ∧
  if (decide (((times_l : Nat) : Int) > 200)) = true then
    CallsH Try.prog F.law20_alive #[] h_1 fun v_1 h_2 =>
    ∃ (t19 : Bool), v_1 = .bool t19 ∧
    R (.bool t19) h_2
  else
    ∃ (I : Int → Heap → Prop) (mu : Int → Heap → Nat), I 0 h_1 ∧ ∀ (i : Int) (h_3 : Heap), I i h_3 →
      if (decide (i < ((times_l : Nat) : Int))) = true then
        ((0 : Int) ≤ i ∧ i < ((times_l : Nat) : Int)) ∧
        onSome times_p fun a =>
        ∃ (t32 : Int), hcell h_3 (a.add (Int.toNat i * 1)) = some (.int .u16 t32) ∧
        CallsH Try.prog F.alarm_Alarm_Set #[.pointer t15, .int .i64 (IntKind.wrap .i64 (i + 1)), .int .u64 (IntKind.wrap .u64 t32)] h_3 fun v_2 h_4 =>
        ∃ (t34 : Int), v_2 = .int .i64 t34 ∧
        if (t34 != 0) = true then
          R (.bool false) h_4
        else
          (I (IntKind.wrap .i64 (i + 1)) h_4 ∧ mu (IntKind.wrap .i64 (i + 1)) h_4 < mu i h_3)
      else
        denSem Try.prog (Instr.makeSlice T.s_bool (.int .i64 ((times_l : Nat) : Int)) (.int .i64 ((times_l : Nat) : Int))) h_3 fun v_3 h_5 =>
        ∃ (t38_p : Option Addr) (t38_l t38_c : Nat), v_3 = .slice t38_p t38_l t38_c ∧
        ∃ (I_1 : Int → Int → Int → Int → Heap → Prop) (mu_1 : Int → Int → Int → Int → Heap → Nat), I_1 0 (-1) 0 0 h_5 ∧ ∀ (now : Int) (last : Int) (n : Int) (i_1 : Int) (h_6 : Heap), I_1 now last n i_1 h_6 →
          JoinP (fun (t46 : Bool) (h_7 : Heap) =>
            if t46 = true then
              JoinP (fun (now_1 : Int) (h_8 : Heap) =>
                CallsH Try.prog F.alarm_Alarm_Ring #[.pointer t15, .int .u64 now_1] h_8 fun v_4 h_9 =>
                ∃ (t62_p : Option Addr) (t62_l t62_c : Nat), v_4 = .slice t62_p t62_l t62_c ∧
                ∃ (I_2 : Int → Int → Int → Heap → Prop) (mu_2 : Int → Int → Int → Heap → Nat), I_2 last n 0 h_9 ∧ ∀ (last_1 : Int) (n_1 : Int) (k : Int) (h_10 : Heap), I_2 last_1 n_1 k h_10 →
                  if (decide (k < ((t62_l : Nat) : Int))) = true then
                    JoinP (fun (t122 : Bool) (h_11 : Heap) =>
                      if t122 = true then
                        R (.bool false) h_11
                      else
                        JoinP (fun (t156 : Bool) (h_12 : Heap) =>
                          if t156 = true then
                            R (.bool false) h_12
                          else
                            ((0 : Int) ≤ k ∧ k < ((t62_l : Nat) : Int)) ∧
                            onSome t62_p fun a_1 =>
                            ∃ (t161 : Int), hcell h_12 (a_1.add (Int.toNat k * 1)) = some (.int .i64 t161) ∧
                            ((0 : Int) ≤ k ∧ k < ((t62_l : Nat) : Int)) ∧
                            onSome t62_p fun a_2 =>
                            ∃ (t167 : Int), hcell h_12 (a_2.add (Int.toNat k * 1)) = some (.int .i64 t167) ∧
                            ((0 : Int) ≤ IntKind.wrap .i64 (t167 - 1) ∧ IntKind.wrap .i64 (t167 - 1) < ((times_l : Nat) : Int)) ∧
                            onSome times_p fun a_3 =>
                            ∃ (t170 : Int), hcell h_12 (a_3.add (Int.toNat (IntKind.wrap .i64 (t167 - 1)) * 1)) = some (.int .u16 t170) ∧
                            ((0 : Int) ≤ IntKind.wrap .i64 (t161 - 1) ∧ IntKind.wrap .i64 (t161 - 1) < ((t38_l : Nat) : Int)) ∧
                            onSome t38_p fun a_4 =>
                            StoreP h_12 (a_4.add (Int.toNat (IntKind.wrap .i64 (t161 - 1)) * 1)) (.bool true) fun h_13 =>
                            (I_2 (IntKind.wrap .i64 t170) (IntKind.wrap .i64 (n_1 + 1)) (IntKind.wrap .i64 (k + 1)) h_13 ∧ mu_2 (IntKind.wrap .i64 t170) (IntKind.wrap .i64 (n_1 + 1)) (IntKind.wrap .i64 (k + 1)) h_13 < mu_2 last_1 n_1 k h_10))
                        (fun J_3 =>
                          if (decide (k > 0)) = true then
                            ((0 : Int) ≤ k ∧ k < ((t62_l : Nat) : Int)) ∧
                            onSome t62_p fun a_5 =>
                            ∃ (t130 : Int), hcell h_11 (a_5.add (Int.toNat k * 1)) = some (.int .i64 t130) ∧
                            ((0 : Int) ≤ IntKind.wrap .i64 (t130 - 1) ∧ IntKind.wrap .i64 (t130 - 1) < ((times_l : Nat) : Int)) ∧
                            onSome times_p fun a_6 =>
                            ∃ (t133 : Int), hcell h_11 (a_6.add (Int.toNat (IntKind.wrap .i64 (t130 - 1)) * 1)) = some (.int .u16 t133) ∧
                            ((0 : Int) ≤ IntKind.wrap .i64 (k - 1) ∧ IntKind.wrap .i64 (k - 1) < ((t62_l : Nat) : Int)) ∧
                            onSome t62_p fun a_7 =>
                            ∃ (t139 : Int), hcell h_11 (a_7.add (Int.toNat (IntKind.wrap .i64 (k - 1)) * 1)) = some (.int .i64 t139) ∧
                            ((0 : Int) ≤ IntKind.wrap .i64 (t139 - 1) ∧ IntKind.wrap .i64 (t139 - 1) < ((times_l : Nat) : Int)) ∧
                            onSome times_p fun a_8 =>
                            ∃ (t142 : Int), hcell h_11 (a_8.add (Int.toNat (IntKind.wrap .i64 (t139 - 1)) * 1)) = some (.int .u16 t142) ∧
                            if (t133 == t142) = true then
                              ((0 : Int) ≤ k ∧ k < ((t62_l : Nat) : Int)) ∧
                              onSome t62_p fun a_9 =>
                              ∃ (t149 : Int), hcell h_11 (a_9.add (Int.toNat k * 1)) = some (.int .i64 t149) ∧
                              ((0 : Int) ≤ IntKind.wrap .i64 (k - 1) ∧ IntKind.wrap .i64 (k - 1) < ((t62_l : Nat) : Int)) ∧
                              onSome t62_p fun a_10 =>
                              ∃ (t154 : Int), hcell h_11 (a_10.add (Int.toNat (IntKind.wrap .i64 (k - 1)) * 1)) = some (.int .i64 t154) ∧
                              J_3 (decide (t149 < t154)) h_11
                            else
                              J_3 false h_11
                          else
                            J_3 false h_11))
                    (fun J_2 =>
                      ((0 : Int) ≤ k ∧ k < ((t62_l : Nat) : Int)) ∧
                      onSome t62_p fun a_11 =>
                      ∃ (t72 : Int), hcell h_10 (a_11.add (Int.toNat k * 1)) = some (.int .i64 t72) ∧
                      if (decide (t72 < 1)) = true then
                        J_2 true h_10
                      else
                        ((0 : Int) ≤ k ∧ k < ((t62_l : Nat) : Int)) ∧
                        onSome t62_p fun a_12 =>
                        ∃ (t78 : Int), hcell h_10 (a_12.add (Int.toNat k * 1)) = some (.int .i64 t78) ∧
                        if (decide (t78 > ((times_l : Nat) : Int))) = true then
                          J_2 true h_10
                        else
                          ((0 : Int) ≤ k ∧ k < ((t62_l : Nat) : Int)) ∧
                          onSome t62_p fun a_13 =>
                          ∃ (t88 : Int), hcell h_10 (a_13.add (Int.toNat k * 1)) = some (.int .i64 t88) ∧
                          ((0 : Int) ≤ IntKind.wrap .i64 (t88 - 1) ∧ IntKind.wrap .i64 (t88 - 1) < ((t38_l : Nat) : Int)) ∧
                          onSome t38_p fun a_14 =>
                          ∃ (t91 : Bool), hcell h_10 (a_14.add (Int.toNat (IntKind.wrap .i64 (t88 - 1)) * 1)) = some (.bool t91) ∧
                          if t91 = true then
                            J_2 true h_10
                          else
                            ((0 : Int) ≤ k ∧ k < ((t62_l : Nat) : Int)) ∧
                            onSome t62_p fun a_15 =>
                            ∃ (t98 : Int), hcell h_10 (a_15.add (Int.toNat k * 1)) = some (.int .i64 t98) ∧
                            ((0 : Int) ≤ IntKind.wrap .i64 (t98 - 1) ∧ IntKind.wrap .i64 (t98 - 1) < ((times_l : Nat) : Int)) ∧
                            onSome times_p fun a_16 =>
                            ∃ (t101 : Int), hcell h_10 (a_16.add (Int.toNat (IntKind.wrap .i64 (t98 - 1)) * 1)) = some (.int .u16 t101) ∧
                            if (decide ((IntKind.wrap .u64 t101) > now_1)) = true then
                              J_2 true h_10
                            else
                              if (decide (last_1 ≥ 0)) = true then
                                ((0 : Int) ≤ k ∧ k < ((t62_l : Nat) : Int)) ∧
                                onSome t62_p fun a_17 =>
                                ∃ (t114 : Int), hcell h_10 (a_17.add (Int.toNat k * 1)) = some (.int .i64 t114) ∧
                                ((0 : Int) ≤ IntKind.wrap .i64 (t114 - 1) ∧ IntKind.wrap .i64 (t114 - 1) < ((times_l : Nat) : Int)) ∧
                                onSome times_p fun a_18 =>
                                ∃ (t117 : Int), hcell h_10 (a_18.add (Int.toNat (IntKind.wrap .i64 (t114 - 1)) * 1)) = some (.int .u16 t117) ∧
                                J_2 (decide ((IntKind.wrap .i64 t117) < last_1)) h_10
                              else
                                J_2 false h_10)
                  else
                    ∃ (I_3 : Int → Heap → Prop) (mu_3 : Int → Heap → Nat), I_3 0 h_10 ∧ ∀ (k_1 : Int) (h_14 : Heap), I_3 k_1 h_14 →
                      if (decide (k_1 < ((times_l : Nat) : Int))) = true then
                        ((0 : Int) ≤ k_1 ∧ k_1 < ((t38_l : Nat) : Int)) ∧
                        onSome t38_p fun a_19 =>
                        ∃ (t184 : Bool), hcell h_14 (a_19.add (Int.toNat k_1 * 1)) = some (.bool t184) ∧
                        ((0 : Int) ≤ k_1 ∧ k_1 < ((times_l : Nat) : Int)) ∧
                        onSome times_p fun a_20 =>
                        ∃ (t188 : Int), hcell h_14 (a_20.add (Int.toNat k_1 * 1)) = some (.int .u16 t188) ∧
                        if (!(t184 == (decide ((IntKind.wrap .u64 t188) ≤ now_1)))) = true then
                          R (.bool false) h_14
                        else
                          (I_3 (IntKind.wrap .i64 (k_1 + 1)) h_14 ∧ mu_3 (IntKind.wrap .i64 (k_1 + 1)) h_14 < mu_3 k_1 h_14)
                      else
                        (I_1 now_1 last_1 n_1 (IntKind.wrap .i64 (i_1 + 1)) h_14 ∧ mu_1 now_1 last_1 n_1 (IntKind.wrap .i64 (i_1 + 1)) h_14 < mu_1 now last n i_1 h_6))
              (fun J_1 =>
                if (i_1 == ((steps_l : Nat) : Int)) = true then
                  J_1 65536 h_7
                else
                  ((0 : Int) ≤ i_1 ∧ i_1 < ((steps_l : Nat) : Int)) ∧
                  onSome steps_p fun a_21 =>
                  ∃ (t57 : Int), hcell h_7 (a_21.add (Int.toNat i_1 * 1)) = some (.int .u8 t57) ∧
                  J_1 (IntKind.wrap .u64 (now + (IntKind.wrap .u64 t57))) h_7)
            else
              CallsH Try.prog F.law20_alive #[] h_7 fun v_5 h_15 =>
              ∃ (t193 : Bool), v_5 = .bool t193 ∧
              if t193 = true then
                if (decide (((steps_l : Nat) : Int) ≥ 300)) = true then
                  R (.bool true) h_15
                else
                  if (n == ((times_l : Nat) : Int)) = true then
                    CallsH Try.prog F.alarm_Alarm_Len #[.pointer t15] h_15 fun v_6 h_16 =>
                    ∃ (t205 : Int), v_6 = .int .i64 t205 ∧
                    R (.bool (t205 == 0)) h_16
                  else
                    R (.bool false) h_15
              else
                R (.bool false) h_15)
          (fun J =>
            if (decide (i_1 ≤ ((steps_l : Nat) : Int))) = true then
              J (decide (i_1 < 300)) h_6
            else
              J false h_6)
theorem law20_AlarmOnce.den_eq (times_p : Option Addr) (times_l times_c : Nat) (steps_p : Option Addr) (steps_l steps_c : Nat) (h : Heap) (R : Value → Heap → Prop) : law20_AlarmOnce.vc times_p times_l times_c steps_p steps_l steps_c h R = den Try.prog Try.f3.ntmps (.seq .leaf (.seq .leaf (.seq (.seq .leaf (.cond (.seq .leaf .leaf) .leaf)) (.seq (.seq .leaf (.block (.loop [(6, .one (.int .i64))] (.seq (.seq .leaf (.cond .leaf .leaf)) (.seq (.block (.seq .leaf (.cond (.seq .leaf .leaf) .leaf))) .leaf))))) (.seq .leaf (.seq .leaf (.seq (.seq .leaf (.block (.loop [(8, .one (.int .u64)), (9, .one (.int .i64)), (10, .one (.int .i64)), (11, .one (.int .i64))] (.seq (.seq (.join [(46, .one (.bool))] .leaf) (.cond .leaf .leaf)) (.seq (.block (.seq (.seq .leaf (.join [(8, .one (.int .u64))] (.cond .leaf .leaf))) (.seq .leaf (.seq (.seq .leaf (.block (.loop [(9, .one (.int .i64)), (10, .one (.int .i64)), (13, .one (.int .i64))] (.seq (.seq .leaf (.cond .leaf .leaf)) (.seq (.block (.seq (.seq (.join [(122, .one (.bool))] .leaf) (.cond (.seq .leaf .leaf) .leaf)) (.seq (.seq (.join [(156, .one (.bool))] (.plan (.op 0 (.op 1 (.op 2 (.op 3 (.op 4 (.op 5 (.op 6 (.op 7 (.op 8 (.op 9 (.op 10 (.op 11 (.op 12 (.op 13 (.op 14 (.op 15 (.op 16 (.op 17 (.op 18 (.op 19 (.op 20 (.op 21 (.op 22 (.op 23 (.op 24 (.op 25 (.op 26 (.op 27 (.op 28 (.op 29 (.op 30 (.op 31 (.op 32 (.op 33 .done)))))))))))))))))))))))))))))))))))) (.cond (.seq .leaf .leaf) .leaf)) (.plan (.op 0 (.op 1 (.op 2 (.op 3 (.op 4 (.op 5 (.op 6 (.op 7 (.op 8 (.op 9 (.op 10 (.op 11 (.op 12 (.op 13 (.op 14 (.op 15 (.op 16 (.op 17 (.op 18 (.op 19 (.op 20 .done))))))))))))))))))))))))) .leaf))))) (.seq .leaf (.block (.loop [(14, .one (.int .i64))] (.seq (.seq .leaf (.cond .leaf .leaf)) (.seq (.block (.seq (.plan (.op 0 (.op 1 (.op 2 (.op 3 (.op 4 (.op 5 (.op 6 (.op 7 (.op 8 (.op 9 (.op 10 (.op 11 .done))))))))))))) (.cond (.seq .leaf .leaf) .leaf))) .leaf))))))))) .leaf))))) (.seq .leaf .leaf)))))))) none (bodyOf Try.f3) (retK Try.prog Try.f3.results R) (argEnv [.slice times_p times_l times_c, .slice steps_p steps_l steps_c]) h := by kernel_rfl
theorem law20_AlarmOnce.walk {times_p : Option Addr} {times_l times_c : Nat} {steps_p : Option Addr} {steps_l steps_c : Nat} {h : Heap} {R : Value → Heap → Prop} (hv : law20_AlarmOnce.vc times_p times_l times_c steps_p steps_l steps_c h R) : CallsH Try.prog F.law20_AlarmOnce #[.slice times_p times_l times_c, .slice steps_p steps_l steps_c] h R :=
  callsH_of_body _ Try.func3 rfl rfl (Eq.mp (law20_AlarmOnce.den_eq times_p times_l times_c steps_p steps_l steps_c h R) hv)

def law20_AlarmMoves.vc (key : Int) (a : Int) (b : Int) (others_p : Option Addr) (others_l others_c : Nat) (h : Heap) (R : Value → Heap → Prop) : Prop :=
  CallsH Try.prog F.alarm_New #[] h fun v h_1 =>
  ∃ (t18 : Option Addr), v = .pointer t18 ∧
  ∃ (I : Int → Heap → Prop) (mu : Int → Heap → Nat), I 0 h_1 ∧ ∀ (i : Int) (h_2 : Heap), I i h_2 →
    JoinP (fun (t26 : Bool) (h_3 : Heap) =>
      if t26 = true then
        ((0 : Int) ≤ i ∧ i < ((others_l : Nat) : Int)) ∧
        onSome others_p fun a_1 =>
        ∃ (t35 : Int), hcell h_3 (a_1.add (Int.toNat i * 1)) = some (.int .u16 t35) ∧
        CallsH Try.prog F.alarm_Alarm_Set #[.pointer t18, .int .i64 (IntKind.wrap .i64 (1000 + i)), .int .u64 (IntKind.wrap .u64 t35)] h_3 fun v_1 h_4 =>
        ∃ (t37 : Int), v_1 = .int .i64 t37 ∧
        (I (IntKind.wrap .i64 (i + 1)) h_4 ∧ mu (IntKind.wrap .i64 (i + 1)) h_4 < mu i h_2)
      else
        CallsH Try.prog F.alarm_Alarm_Len #[.pointer t18] h_3 fun v_2 h_5 =>
        ∃ (t39 : Int), v_2 = .int .i64 t39 ∧
        JoinP (fun (t52 : Bool) (h_6 : Heap) =>
          if t52 = true then
            CallsH Try.prog F.law20_alive #[] h_6 fun v_3 h_7 =>
            ∃ (t53 : Bool), v_3 = .bool t53 ∧
            R (.bool t53) h_7
          else
            CallsH Try.prog F.alarm_Alarm_Set #[.pointer t18, .int .i64 key, .int .u64 b] h_6 fun v_4 h_8 =>
            ∃ (t57 : Int), v_4 = .int .i64 t57 ∧
            if (t57 != 0) = true then
              CallsH Try.prog F.law20_alive #[] h_8 fun v_5 h_9 =>
              ∃ (t59 : Bool), v_5 = .bool t59 ∧
              R (.bool t59) h_9
            else
              CallsH Try.prog F.alarm_Alarm_At #[.pointer t18, .int .i64 key] h_8 fun v_6 h_10 =>
              ∃ (t63_0 : Int), ∃ (t63_1 : Bool), v_6 = .tuple #[.int .u64 t63_0, .bool t63_1] ∧
              JoinP (fun (t79 : Bool) (h_11 : Heap) =>
                if t79 = true then
                  R (.bool false) h_11
                else
                  CallsH Try.prog F.alarm_Alarm_Ring #[.pointer t18, .int .u64 a] h_11 fun v_7 h_12 =>
                  ∃ (t82_p : Option Addr) (t82_l t82_c : Nat), v_7 = .slice t82_p t82_l t82_c ∧
                  ∃ (I_1 : Bool → Int → Heap → Prop) (mu_1 : Bool → Int → Heap → Nat), I_1 false 0 h_12 ∧ ∀ (due : Bool) (i_1 : Int) (h_13 : Heap), I_1 due i_1 h_13 →
                    if (decide (i_1 < ((t82_l : Nat) : Int))) = true then
                      JoinP (fun (due_1 : Bool) (h_14 : Heap) =>
                        (I_1 due_1 (IntKind.wrap .i64 (i_1 + 1)) h_14 ∧ mu_1 due_1 (IntKind.wrap .i64 (i_1 + 1)) h_14 < mu_1 due i_1 h_13))
                      (fun J_3 =>
                        JoinP (fun (due_2 : Bool) (h_15 : Heap) =>
                          J_3 due_2 h_15)
                        (fun J_4 =>
                          if due = true then
                            J_4 true h_13
                          else
                            ((0 : Int) ≤ i_1 ∧ i_1 < ((t82_l : Nat) : Int)) ∧
                            onSome t82_p fun a_2 =>
                            ∃ (t94 : Int), hcell h_13 (a_2.add (Int.toNat i_1 * 1)) = some (.int .i64 t94) ∧
                            J_4 (t94 == key) h_13))
                    else
                      if (!(due == (decide (b ≤ a)))) = true then
                        R (.bool false) h_13
                      else
                        CallsH Try.prog F.alarm_Alarm_Set #[.pointer t18, .int .i64 key, .int .u64 b] h_13 fun v_8 h_16 =>
                        ∃ (t106 : Int), v_8 = .int .i64 t106 ∧
                        CallsH Try.prog F.alarm_Alarm_Drop #[.pointer t18, .int .i64 key] h_16 fun v_9 h_17 =>
                        ∃ (t109 : Int), v_9 = .int .i64 t109 ∧
                        CallsH Try.prog F.alarm_Alarm_Ring #[.pointer t18, .int .u64 1099511627776] h_17 fun v_10 h_18 =>
                        ∃ (t111_p : Option Addr) (t111_l t111_c : Nat), v_10 = .slice t111_p t111_l t111_c ∧
                        ∃ (I_2 : Int → Heap → Prop) (mu_2 : Int → Heap → Nat), I_2 0 h_18 ∧ ∀ (i_2 : Int) (h_19 : Heap), I_2 i_2 h_19 →
                          if (decide (i_2 < ((t111_l : Nat) : Int))) = true then
                            ((0 : Int) ≤ i_2 ∧ i_2 < ((t111_l : Nat) : Int)) ∧
                            onSome t111_p fun a_3 =>
                            ∃ (t121 : Int), hcell h_19 (a_3.add (Int.toNat i_2 * 1)) = some (.int .i64 t121) ∧
                            if (t121 == key) = true then
                              R (.bool false) h_19
                            else
                              (I_2 (IntKind.wrap .i64 (i_2 + 1)) h_19 ∧ mu_2 (IntKind.wrap .i64 (i_2 + 1)) h_19 < mu_2 i_2 h_19)
                          else
                            CallsH Try.prog F.law20_alive #[] h_19 fun v_11 h_20 =>
                            ∃ (t124 : Bool), v_11 = .bool t124 ∧
                            if t124 = true then
                              CallsH Try.prog F.alarm_Alarm_Len #[.pointer t18] h_20 fun v_12 h_21 =>
                              ∃ (t127 : Int), v_12 = .int .i64 t127 ∧
                              R (.bool (t127 == 0)) h_21
                            else
                              R (.bool false) h_20)
              (fun J_2 =>
                CallsH Try.prog F.alarm_Alarm_Len #[.pointer t18] h_10 fun v_13 h_22 =>
                ∃ (t67 : Int), v_13 = .int .i64 t67 ∧
                if (t67 != (IntKind.wrap .i64 (t39 + 1))) = true then
                  J_2 true h_22
                else
                  if (t63_0 != b) = true then
                    J_2 true h_22
                  else
                    J_2 (!t63_1) h_22))
        (fun J_1 =>
          CallsH Try.prog F.alarm_Alarm_Set #[.pointer t18, .int .i64 key, .int .u64 a] h_5 fun v_14 h_23 =>
          ∃ (t43 : Int), v_14 = .int .i64 t43 ∧
          if (t43 != 0) = true then
            J_1 true h_23
          else
            if (decide (key ≥ 1000)) = true then
              J_1 (decide (key < 1060)) h_23
            else
              J_1 false h_23))
    (fun J =>
      if (decide (i < ((others_l : Nat) : Int))) = true then
        J (decide (i < 60)) h_2
      else
        J false h_2)
theorem law20_AlarmMoves.den_eq (key : Int) (a : Int) (b : Int) (others_p : Option Addr) (others_l others_c : Nat) (h : Heap) (R : Value → Heap → Prop) : law20_AlarmMoves.vc key a b others_p others_l others_c h R = den Try.prog Try.f5.ntmps (.seq .leaf (.seq .leaf (.seq (.seq .leaf (.block (.loop [(10, .one (.int .i64))] (.seq (.seq (.join [(26, .one (.bool))] .leaf) (.cond .leaf .leaf)) (.seq (.block .leaf) .leaf))))) (.seq .leaf (.seq (.seq (.join [(52, .one (.bool))] .leaf) (.cond (.seq .leaf .leaf) .leaf)) (.seq (.seq .leaf (.cond (.seq .leaf .leaf) .leaf)) (.seq .leaf (.seq (.seq (.join [(79, .one (.bool))] .leaf) (.cond (.seq .leaf .leaf) .leaf)) (.seq .leaf (.seq .leaf (.seq (.seq .leaf (.block (.loop [(14, .one (.bool)), (16, .one (.int .i64))] (.seq (.seq .leaf (.cond .leaf .leaf)) (.seq (.join [(14, .one (.bool))] (.block (.join [(14, .one (.bool))] .leaf))) .leaf))))) (.seq (.seq .leaf (.cond (.seq .leaf .leaf) .leaf)) (.seq .leaf (.seq .leaf (.seq .leaf (.seq (.seq .leaf (.block (.loop [(17, .one (.int .i64))] (.seq (.seq .leaf (.cond .leaf .leaf)) (.seq (.block (.seq .leaf (.cond (.seq .leaf .leaf) .leaf))) .leaf))))) (.seq .leaf .leaf))))))))))))))))) none (bodyOf Try.f5) (retK Try.prog Try.f5.results R) (argEnv [.int .i64 key, .int .u64 a, .int .u64 b, .slice others_p others_l others_c]) h := by kernel_rfl
theorem law20_AlarmMoves.walk {key : Int} {a : Int} {b : Int} {others_p : Option Addr} {others_l others_c : Nat} {h : Heap} {R : Value → Heap → Prop} (hv : law20_AlarmMoves.vc key a b others_p others_l others_c h R) : CallsH Try.prog F.law20_AlarmMoves #[.int .i64 key, .int .u64 a, .int .u64 b, .slice others_p others_l others_c] h R :=
  callsH_of_body _ Try.func5 rfl rfl (Eq.mp (law20_AlarmMoves.den_eq key a b others_p others_l others_c h R) hv)

def law20_AlarmAll.vc (ops_p : Option Addr) (ops_l ops_c : Nat) (h : Heap) (R : Value → Heap → Prop) : Prop :=
  CallsH Try.prog F.alarm_New #[] h fun v h_1 =>
  ∃ (t15 : Option Addr), v = .pointer t15 ∧
  ∃ (I : Int → Heap → Prop) (mu : Int → Heap → Nat), I 0 h_1 ∧ ∀ (i : Int) (h_2 : Heap), I i h_2 →
    JoinP (fun (t23 : Bool) (h_3 : Heap) =>
      if t23 = true then
        JoinP (fun (h_4 : Heap) =>
          (I (IntKind.wrap .i64 (i + 1)) h_4 ∧ mu (IntKind.wrap .i64 (i + 1)) h_4 < mu i h_2))
        (fun J_1 =>
          ((0 : Int) ≤ i ∧ i < ((ops_l : Nat) : Int)) ∧
          onSome ops_p fun a =>
          ∃ (t30 : Int), hcell h_3 (a.add (Int.toNat i * 3)) = some (.int .i64 t30) ∧
          JoinP (fun (h_5 : Heap) =>
            J_1 h_5)
          (fun J_2 =>
            JoinP (fun (h_6 : Heap) =>
              J_2 h_6)
            (fun J_3 =>
              if (t30 == 0) = true then
                ((0 : Int) ≤ i ∧ i < ((ops_l : Nat) : Int)) ∧
                onSome ops_p fun a_1 =>
                ∃ (t38 : Int), hcell h_3 ((a_1.add (Int.toNat i * 3)).add 1) = some (.int .i64 t38) ∧
                ((0 : Int) ≤ i ∧ i < ((ops_l : Nat) : Int)) ∧
                onSome ops_p fun a_2 =>
                ∃ (t43 : Int), hcell h_3 ((a_2.add (Int.toNat i * 3)).add 2) = some (.int .u64 t43) ∧
                CallsH Try.prog F.alarm_Alarm_Set #[.pointer t15, .int .i64 t38, .int .u64 t43] h_3 fun v_1 h_7 =>
                ∃ (t44 : Int), v_1 = .int .i64 t44 ∧
                J_3 h_7
              else
                JoinP (fun (h_8 : Heap) =>
                  J_3 h_8)
                (fun J_4 =>
                  if (t30 == 1) = true then
                    ((0 : Int) ≤ i ∧ i < ((ops_l : Nat) : Int)) ∧
                    onSome ops_p fun a_3 =>
                    ∃ (t52 : Int), hcell h_3 ((a_3.add (Int.toNat i * 3)).add 1) = some (.int .i64 t52) ∧
                    CallsH Try.prog F.alarm_Alarm_Drop #[.pointer t15, .int .i64 t52] h_3 fun v_2 h_9 =>
                    ∃ (t53 : Int), v_2 = .int .i64 t53 ∧
                    J_4 h_9
                  else
                    JoinP (fun (h_10 : Heap) =>
                      J_4 h_10)
                    (fun J_5 =>
                      if (t30 == 2) = true then
                        ((0 : Int) ≤ i ∧ i < ((ops_l : Nat) : Int)) ∧
                        onSome ops_p fun a_4 =>
                        ∃ (t61 : Int), hcell h_3 ((a_4.add (Int.toNat i * 3)).add 2) = some (.int .u64 t61) ∧
                        CallsH Try.prog F.alarm_Alarm_Ring #[.pointer t15, .int .u64 t61] h_3 fun v_3 h_11 =>
                        ∃ (t62_p : Option Addr) (t62_l t62_c : Nat), v_3 = .slice t62_p t62_l t62_c ∧
                        J_5 h_11
                      else
                        J_5 h_3)))))
      else
        CallsH Try.prog F.alarm_Alarm_All #[.pointer t15] h_3 fun v_4 h_12 =>
        ∃ (t64_p : Option Addr) (t64_l t64_c : Nat), v_4 = .slice t64_p t64_l t64_c ∧
        CallsH Try.prog F.alarm_Alarm_Len #[.pointer t15] h_12 fun v_5 h_13 =>
        ∃ (t66 : Int), v_5 = .int .i64 t66 ∧
        if (((t64_l : Nat) : Int) != t66) = true then
          R (.bool false) h_13
        else
          ∃ (I_1 : Int → Heap → Prop) (mu_1 : Int → Heap → Nat), I_1 0 h_13 ∧ ∀ (i_1 : Int) (h_14 : Heap), I_1 i_1 h_14 →
            if (decide (i_1 < t66)) = true then
              JoinP (fun (h_15 : Heap) =>
                (I_1 (IntKind.wrap .i64 (i_1 + 1)) h_15 ∧ mu_1 (IntKind.wrap .i64 (i_1 + 1)) h_15 < mu_1 i_1 h_14))
              (fun J_6 =>
                ((0 : Int) ≤ i_1 ∧ i_1 < ((t64_l : Nat) : Int)) ∧
                onSome t64_p fun a_5 =>
                ∃ (t81 : Int), hcell h_14 (a_5.add (Int.toNat i_1 * 1)) = some (.int .i64 t81) ∧
                CallsH Try.prog F.alarm_Alarm_At #[.pointer t15, .int .i64 t81] h_14 fun v_6 h_16 =>
                ∃ (t82_0 : Int), ∃ (t82_1 : Bool), v_6 = .tuple #[.int .u64 t82_0, .bool t82_1] ∧
                if (!t82_1) = true then
                  R (.bool false) h_16
                else
                  if (i_1 == 0) = true then
                    J_6 h_16
                  else
                    ((0 : Int) ≤ IntKind.wrap .i64 (i_1 - 1) ∧ IntKind.wrap .i64 (i_1 - 1) < ((t64_l : Nat) : Int)) ∧
                    onSome t64_p fun a_6 =>
                    ∃ (t95 : Int), hcell h_16 (a_6.add (Int.toNat (IntKind.wrap .i64 (i_1 - 1)) * 1)) = some (.int .i64 t95) ∧
                    CallsH Try.prog F.alarm_Alarm_At #[.pointer t15, .int .i64 t95] h_16 fun v_7 h_17 =>
                    ∃ (t96_0 : Int), ∃ (t96_1 : Bool), v_7 = .tuple #[.int .u64 t96_0, .bool t96_1] ∧
                    JoinP (fun (t118 : Bool) (h_18 : Heap) =>
                      if t118 = true then
                        R (.bool false) h_18
                      else
                        J_6 h_18)
                    (fun J_7 =>
                      if (decide (t96_0 > t82_0)) = true then
                        J_7 true h_17
                      else
                        if (t96_0 == t82_0) = true then
                          ((0 : Int) ≤ IntKind.wrap .i64 (i_1 - 1) ∧ IntKind.wrap .i64 (i_1 - 1) < ((t64_l : Nat) : Int)) ∧
                          onSome t64_p fun a_7 =>
                          ∃ (t111 : Int), hcell h_17 (a_7.add (Int.toNat (IntKind.wrap .i64 (i_1 - 1)) * 1)) = some (.int .i64 t111) ∧
                          ((0 : Int) ≤ i_1 ∧ i_1 < ((t64_l : Nat) : Int)) ∧
                          onSome t64_p fun a_8 =>
                          ∃ (t115 : Int), hcell h_17 (a_8.add (Int.toNat i_1 * 1)) = some (.int .i64 t115) ∧
                          J_7 (decide (t111 ≥ t115)) h_17
                        else
                          J_7 false h_17))
            else
              CallsH Try.prog F.alarm_Alarm_Ring #[.pointer t15, .int .u64 1099511627776] h_14 fun v_8 h_19 =>
              ∃ (t120_p : Option Addr) (t120_l t120_c : Nat), v_8 = .slice t120_p t120_l t120_c ∧
              if (((t120_l : Nat) : Int) != t66) = true then
                R (.bool false) h_19
              else
                ∃ (I_2 : Int → Heap → Prop) (mu_2 : Int → Heap → Nat), I_2 0 h_19 ∧ ∀ (i_2 : Int) (h_20 : Heap), I_2 i_2 h_20 →
                  if (decide (i_2 < t66)) = true then
                    ((0 : Int) ≤ i_2 ∧ i_2 < ((t120_l : Nat) : Int)) ∧
                    onSome t120_p fun a_9 =>
                    ∃ (t133 : Int), hcell h_20 (a_9.add (Int.toNat i_2 * 1)) = some (.int .i64 t133) ∧
                    ((0 : Int) ≤ i_2 ∧ i_2 < ((t64_l : Nat) : Int)) ∧
                    onSome t64_p fun a_10 =>
                    ∃ (t137 : Int), hcell h_20 (a_10.add (Int.toNat i_2 * 1)) = some (.int .i64 t137) ∧
                    if (t133 != t137) = true then
                      R (.bool false) h_20
                    else
                      (I_2 (IntKind.wrap .i64 (i_2 + 1)) h_20 ∧ mu_2 (IntKind.wrap .i64 (i_2 + 1)) h_20 < mu_2 i_2 h_20)
                  else
                    CallsH Try.prog F.law20_alive #[] h_20 fun v_9 h_21 =>
                    ∃ (t139 : Bool), v_9 = .bool t139 ∧
                    if t139 = true then
                      CallsH Try.prog F.alarm_Alarm_All #[.pointer none] h_21 fun v_10 h_22 =>
                      ∃ (t142_p : Option Addr) (t142_l t142_c : Nat), v_10 = .slice t142_p t142_l t142_c ∧
                      R (.bool (((t142_l : Nat) : Int) == 0)) h_22
                    else
                      R (.bool false) h_21)
    (fun J =>
      if (decide (i < ((ops_l : Nat) : Int))) = true then
        J (decide (i < 100)) h_2
      else
        J false h_2)
theorem law20_AlarmAll.den_eq (ops_p : Option Addr) (ops_l ops_c : Nat) (h : Heap) (R : Value → Heap → Prop) : law20_AlarmAll.vc ops_p ops_l ops_c h R = den Try.prog Try.f6.ntmps (.seq .leaf (.seq .leaf (.seq (.seq .leaf (.block (.loop [(4, .one (.int .i64))] (.seq (.seq (.join [(23, .one (.bool))] .leaf) (.cond .leaf .leaf)) (.seq (.join [] (.block (.seq .leaf (.join [] (.block (.seq .leaf (.join [] (.cond (.plan (.op 0 (.op 1 (.op 2 (.op 3 (.op 4 (.op 5 (.op 6 (.op 7 (.op 8 (.op 9 (.op 10 (.op 11 .done))))))))))))) (.seq .leaf (.join [] (.cond .leaf (.seq .leaf (.join [] (.cond .leaf .leaf)))))))))))))) .leaf))))) (.seq .leaf (.seq (.seq .leaf (.cond (.seq .leaf .leaf) .leaf)) (.seq (.seq .leaf (.block (.loop [(7, .one (.int .i64))] (.seq (.seq .leaf (.cond .leaf .leaf)) (.seq (.join [] (.block (.seq .leaf (.seq (.seq .leaf (.cond (.seq .leaf .leaf) .leaf)) (.seq (.seq .leaf (.cond .leaf .leaf)) (.seq .leaf (.seq (.join [(118, .one (.bool))] (.plan (.op 0 (.op 1 (.op 2 (.op 3 (.op 4 (.op 5 (.op 6 (.op 7 (.op 8 (.op 9 (.op 10 (.op 11 (.op 12 (.op 13 (.op 14 (.op 15 (.op 16 (.op 17 (.op 18 (.op 19 .done)))))))))))))))))))))) (.cond (.seq .leaf .leaf) .leaf)))))))) .leaf))))) (.seq .leaf (.seq .leaf (.seq (.seq .leaf (.cond (.seq .leaf .leaf) .leaf)) (.seq (.seq .leaf (.block (.loop [(14, .one (.int .i64))] (.seq (.seq .leaf (.cond .leaf .leaf)) (.seq (.block (.seq (.plan (.op 0 (.op 1 (.op 2 (.op 3 (.op 4 (.op 5 (.op 6 (.op 7 (.op 8 .done)))))))))) (.cond (.seq .leaf .leaf) .leaf))) .leaf))))) (.seq .leaf .leaf))))))))))) none (bodyOf Try.f6) (retK Try.prog Try.f6.results R) (argEnv [.slice ops_p ops_l ops_c]) h := by kernel_rfl
theorem law20_AlarmAll.walk {ops_p : Option Addr} {ops_l ops_c : Nat} {h : Heap} {R : Value → Heap → Prop} (hv : law20_AlarmAll.vc ops_p ops_l ops_c h R) : CallsH Try.prog F.law20_AlarmAll #[.slice ops_p ops_l ops_c] h R :=
  callsH_of_body _ Try.func6 rfl rfl (Eq.mp (law20_AlarmAll.den_eq ops_p ops_l ops_c h R) hv)

end Go.Proofs.Ytcdmemcmmfgdlaa
