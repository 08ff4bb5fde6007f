/-
  Printed by a program of this work (vc.py): the verification conditions of functions, and that each is enough for the call. No condition.
-/
import Derived.Test.YtlnofnmdiddmkaaNames
set_option maxRecDepth 100000
set_option maxHeartbeats 4000000
namespace Go.Proofs.Ytlnofnmdiddmkaa
open Go.Den
def law24_alive.vc  (h : Heap) (R : Value → Heap → Prop) : Prop :=
  CallsH Try.prog F.sessions_New #[] h fun v h_1 =>
  ∃ (t17 : Option Addr), v = .pointer t17 ∧
  CallsH Try.prog F.sessions_Table_Open #[.pointer t17, .int .u64 5] h_1 fun v_1 h_2 =>
  ∃ (t20_0 : Int), ∃ (t20_1 : Int), v_1 = .tuple #[.int .i64 t20_0, .int .i64 t20_1] ∧
  CallsH Try.prog F.sessions_Table_Open #[.pointer t17, .int .u64 5] h_2 fun v_2 h_3 =>
  ∃ (t25_0 : Int), ∃ (t25_1 : Int), v_2 = .tuple #[.int .i64 t25_0, .int .i64 t25_1] ∧
  NewP h_3 (.cells #[.int .u8 120] T.uint8) fun b h_4 =>
  denSem Try.prog (convert T.s_uint8 T.s_uint8 (.slice (some ⟨b, 0, none⟩) 1 1)) h_4 fun v_3 h_5 =>
  ∃ (t30_p : Option Addr) (t30_l t30_c : Nat), v_3 = .slice t30_p t30_l t30_c ∧
  CallsH Try.prog F.sessions_Table_Keep #[.pointer t17, .int .i64 1, .int .u64 9, .slice t30_p t30_l t30_c] h_5 fun v_4 h_6 =>
  ∃ (t31 : Int), v_4 = .int .i64 t31 ∧
  CallsH Try.prog F.sessions_Table_Kept #[.pointer t17, .int .i64 1, .int .u64 9] h_6 fun v_5 h_7 =>
  ∃ (t34_0_p : Option Addr) (t34_0_l t34_0_c : Nat), ∃ (t34_1 : Bool), v_5 = .tuple #[.slice t34_0_p t34_0_l t34_0_c, .bool t34_1] ∧
  NewP h_7 (.cells #[.int .u8 110] T.uint8) fun b_1 h_8 =>
  denSem Try.prog (convert T.s_uint8 T.s_uint8 (.slice (some ⟨b_1, 0, none⟩) 1 1)) h_8 fun v_6 h_9 =>
  ∃ (t39_p : Option Addr) (t39_l t39_c : Nat), v_6 = .slice t39_p t39_l t39_c ∧
  CallsH Try.prog F.sessions_Table_Note #[.pointer t17, .int .i64 1, .slice t39_p t39_l t39_c] h_9 fun v_7 h_10 =>
  ∃ (t40 : Int), v_7 = .int .i64 t40 ∧
  CallsH Try.prog F.sessions_Table_Watch #[.pointer t17, .int .i64 1, .bool true] h_10 fun v_8 h_11 =>
  ∃ (t42 : Int), v_8 = .int .i64 t42 ∧
  NewP h_11 (.cells #[.int .u8 110] T.uint8) fun b_2 h_12 =>
  denSem Try.prog (convert T.s_uint8 T.s_uint8 (.slice (some ⟨b_2, 0, none⟩) 1 1)) h_12 fun v_9 h_13 =>
  ∃ (t45_p : Option Addr) (t45_l t45_c : Nat), v_9 = .slice t45_p t45_l t45_c ∧
  CallsH Try.prog F.sessions_Table_Note #[.pointer t17, .int .i64 1, .slice t45_p t45_l t45_c] h_13 fun v_10 h_14 =>
  ∃ (t46 : Int), v_10 = .int .i64 t46 ∧
  CallsH Try.prog F.sessions_Table_Read #[.pointer t17, .int .i64 1] h_14 fun v_11 h_15 =>
  ∃ (t49_0_p : Option Addr) (t49_0_l t49_0_c : Nat), ∃ (t49_1 : Int), ∃ (t49_2 : Int), v_11 = .tuple #[.slice t49_0_p t49_0_l t49_0_c, .int .i64 t49_1, .int .i64 t49_2] ∧
  CallsH Try.prog F.sessions_Table_Down #[.pointer t17, .int .i64 1] h_15 fun v_12 h_16 =>
  ∃ (t54 : Int), v_12 = .int .i64 t54 ∧
  CallsH Try.prog F.sessions_Table_Resume #[.pointer t17, .int .u64 5] h_16 fun v_13 h_17 =>
  ∃ (t57_0 : Int), ∃ (t57_1 : Int), v_13 = .tuple #[.int .i64 t57_0, .int .i64 t57_1] ∧
  if (t20_0 == 1) = true then
    if (t20_1 == 0) = true then
      if (t25_1 == 12) = true then
        if (t31 == 0) = true then
          ∃ (t76 : ByteArray), ConvV Try.prog T.s_uint8 T.string (.slice t34_0_p t34_0_l t34_0_c) h_17 t76 ∧
          if (t76.toList == (⟨#[120]⟩ : ByteArray).toList) = true then
            if t34_1 = true then
              if (t40 == 7) = true then
                if (t46 == 0) = true then
                  ∃ (t92 : ByteArray), ConvV Try.prog T.s_uint8 T.string (.slice t49_0_p t49_0_l t49_0_c) h_17 t92 ∧
                  if (t92.toList == (⟨#[110]⟩ : ByteArray).toList) = true then
                    if (t49_1 == 1) = true then
                      if (t49_2 == 0) = true then
                        if (t54 == 0) = true then
                          if (t57_0 == 1) = true then
                            if (t57_1 == 0) = true then
                              CallsH Try.prog F.sessions_Table_Up #[.pointer t17, .int .i64 1] h_17 fun v_14 h_18 =>
                              ∃ (t117 : Bool), v_14 = .bool t117 ∧
                              if t117 = true then
                                CallsH Try.prog F.sessions_Table_Up #[.pointer t17, .int .i64 2] h_18 fun v_15 h_19 =>
                                ∃ (t121 : Bool), v_15 = .bool t121 ∧
                                R (.bool (!t121)) h_19
                              else
                                R (.bool false) h_18
                            else
                              R (.bool false) h_17
                          else
                            R (.bool false) h_17
                        else
                          R (.bool false) h_17
                      else
                        R (.bool false) h_17
                    else
                      R (.bool false) h_17
                  else
                    R (.bool false) h_17
                else
                  R (.bool false) h_17
              else
                R (.bool false) h_17
            else
              R (.bool false) h_17
          else
            R (.bool false) h_17
        else
          R (.bool false) h_17
      else
        R (.bool false) h_17
    else
      R (.bool false) h_17
  else
    R (.bool false) h_17
theorem law24_alive.den_eq  (h : Heap) (R : Value → Heap → Prop) : law24_alive.vc h R = den Try.prog Try.f8.ntmps (.seq .leaf (.seq .leaf (.seq .leaf (.seq .leaf (.seq .leaf (.seq .leaf (.seq .leaf (.seq .leaf (.seq .leaf (.seq .leaf (.seq .leaf (.seq .leaf (.seq .leaf .leaf))))))))))))) none (bodyOf Try.f8) (retK Try.prog Try.f8.results R) (argEnv []) h := by kernel_rfl
theorem law24_alive.walk  {h : Heap} {R : Value → Heap → Prop} (hv : law24_alive.vc h R) : CallsH Try.prog F.law24_alive #[] h R :=
  callsH_of_body _ Try.func8 rfl rfl (Eq.mp (law24_alive.den_eq h R) hv)

def law24_SessionsKeep.vc (ids_p : Option Addr) (ids_l ids_c : Nat) (data_p : Option Addr) (data_l data_c : Nat) (h : Heap) (R : Value → Heap → Prop) : Prop :=
  CallsH Try.prog F.sessions_New #[] h fun v h_1 =>
  ∃ (t15 : Option Addr), v = .pointer t15 ∧
  CallsH Try.prog F.sessions_Table_Open #[.pointer t15, .int .u64 7] h_1 fun v_1 h_2 =>
  ∃ (t18_0 : Int), ∃ (t18_1 : Int), v_1 = .tuple #[.int .i64 t18_0, .int .i64 t18_1] ∧
  JoinP (fun (t26 : Bool) (h_3 : Heap) =>
    if t26 = true then
      R (.bool false) h_3
    else
      ∃ (I : Int → Heap → Prop) (mu : Int → Heap → Nat), I 0 h_3 ∧ ∀ (i : Int) (h_4 : Heap), I i h_4 →
        JoinP (fun (t40 : Bool) (h_5 : Heap) =>
          if t40 = true then
            ((0 : Int) ≤ i ∧ i < ((data_l : Nat) : Int)) ∧
            onSome data_p fun a =>
            ∃ (t46_p : Option Addr) (t46_l t46_c : Nat), hcell h_5 (a.add (Int.toNat i * 1)) = some (.slice t46_p t46_l t46_c) ∧
            if (decide (((t46_l : Nat) : Int) > 500)) = true then
              CallsH Try.prog F.law24_alive #[] h_5 fun v_2 h_6 =>
              ∃ (t49 : Bool), v_2 = .bool t49 ∧
              R (.bool t49) h_6
            else
              ((0 : Int) ≤ i ∧ i < ((ids_l : Nat) : Int)) ∧
              onSome ids_p fun a_1 =>
              ∃ (t54 : Int), hcell h_5 (a_1.add (Int.toNat i * 1)) = some (.int .u8 t54) ∧
              ((0 : Int) ≤ i ∧ i < ((data_l : Nat) : Int)) ∧
              onSome data_p fun a_2 =>
              ∃ (t59_p : Option Addr) (t59_l t59_c : Nat), hcell h_5 (a_2.add (Int.toNat i * 1)) = some (.slice t59_p t59_l t59_c) ∧
              CallsH Try.prog F.sessions_Table_Keep #[.pointer t15, .int .i64 1, .int .u64 (IntKind.wrap .u64 t54), .slice t59_p t59_l t59_c] h_5 fun v_3 h_7 =>
              ∃ (t60 : Int), v_3 = .int .i64 t60 ∧
              hcell h_7 (a_1.add (Int.toNat i * 1)) = some (.int .u8 t54) ∧
              if (t60 != 0) = true then
                R (.bool false) h_7
              else
                ∃ (I_1 : Option Addr → Nat → Nat → Int → Heap → Prop) (mu_1 : Option Addr → Nat → Nat → Int → Heap → Nat), I_1 none 0 0 i h_7 ∧ ∀ (seen_p : Option Addr) (seen_l seen_c : Nat) (k : Int) (h_8 : Heap), I_1 seen_p seen_l seen_c k h_8 →
                  if (decide (k ≥ 0)) = true then
                    JoinP (fun (seen_p_1 : Option Addr) (seen_l_1 seen_c_1 : Nat) (h_9 : Heap) =>
                      (I_1 seen_p_1 seen_l_1 seen_c_1 (IntKind.wrap .i64 (k - 1)) h_9 ∧ mu_1 seen_p_1 seen_l_1 seen_c_1 (IntKind.wrap .i64 (k - 1)) h_9 < mu_1 seen_p seen_l seen_c k h_8))
                    (fun J_2 =>
                      ∃ (I_2 : Bool → Int → Heap → Prop) (mu_2 : Bool → Int → Heap → Nat), I_2 false 0 h_8 ∧ ∀ (is : Bool) (m : Int) (h_10 : Heap), I_2 is m h_10 →
                        if (decide (m < ((seen_l : Nat) : Int))) = true then
                          JoinP (fun (is_1 : Bool) (h_11 : Heap) =>
                            (I_2 is_1 (IntKind.wrap .i64 (m + 1)) h_11 ∧ mu_2 is_1 (IntKind.wrap .i64 (m + 1)) h_11 < mu_2 is m h_10))
                          (fun J_3 =>
                            JoinP (fun (is_2 : Bool) (h_12 : Heap) =>
                              J_3 is_2 h_12)
                            (fun J_4 =>
                              if is = true then
                                J_4 true h_10
                              else
                                ((0 : Int) ≤ m ∧ m < ((seen_l : Nat) : Int)) ∧
                                onSome seen_p fun a_3 =>
                                ∃ (t78 : Int), hcell h_10 (a_3.add (Int.toNat m * 1)) = some (.int .u8 t78) ∧
                                ((0 : Int) ≤ k ∧ k < ((ids_l : Nat) : Int)) ∧
                                onSome ids_p fun a_4 =>
                                ∃ (t82 : Int), hcell h_10 (a_4.add (Int.toNat k * 1)) = some (.int .u8 t82) ∧
                                J_4 (t78 == t82) h_10))
                        else
                          if is = true then
                            J_2 seen_p seen_l seen_c h_10
                          else
                            ((0 : Int) ≤ k ∧ k < ((ids_l : Nat) : Int)) ∧
                            onSome ids_p fun a_5 =>
                            ∃ (t90 : Int), hcell h_10 (a_5.add (Int.toNat k * 1)) = some (.int .u8 t90) ∧
                            NewP h_10 (.cells #[.int .u8 t90] T.uint8) fun b h_13 =>
                            denSem Try.prog (Builtin.append_ #[T.s_uint8, T.s_uint8] T.s_uint8 #[.slice seen_p seen_l seen_c, .slice (some ⟨b, 0, none⟩) 1 1]) h_13 fun v_4 h_14 =>
                            ∃ (t92_p : Option Addr) (t92_l t92_c : Nat), v_4 = .slice t92_p t92_l t92_c ∧
                            ((0 : Int) ≤ k ∧ k < ((ids_l : Nat) : Int)) ∧
                            onSome ids_p fun a_6 =>
                            ∃ (t98 : Int), hcell h_14 (a_6.add (Int.toNat k * 1)) = some (.int .u8 t98) ∧
                            CallsH Try.prog F.sessions_Table_Kept #[.pointer t15, .int .i64 1, .int .u64 (IntKind.wrap .u64 t98)] h_14 fun v_5 h_15 =>
                            ∃ (t100_0_p : Option Addr) (t100_0_l t100_0_c : Nat), ∃ (t100_1 : Bool), v_5 = .tuple #[.slice t100_0_p t100_0_l t100_0_c, .bool t100_1] ∧
                            JoinP (fun (t120 : Bool) (h_16 : Heap) =>
                              if t120 = true then
                                R (.bool false) h_16
                              else
                                J_2 t92_p t92_l t92_c h_16)
                            (fun J_5 =>
                              if (!(t100_1 == (decide (((t92_l : Nat) : Int) ≤ 6)))) = true then
                                J_5 true h_15
                              else
                                if t100_1 = true then
                                  ∃ (t112 : ByteArray), ConvV Try.prog T.s_uint8 T.string (.slice t100_0_p t100_0_l t100_0_c) h_15 t112 ∧
                                  ((0 : Int) ≤ k ∧ k < ((data_l : Nat) : Int)) ∧
                                  onSome data_p fun a_7 =>
                                  ∃ (t116_p : Option Addr) (t116_l t116_c : Nat), hcell h_15 (a_7.add (Int.toNat k * 1)) = some (.slice t116_p t116_l t116_c) ∧
                                  ∃ (t117 : ByteArray), ConvV Try.prog T.s_uint8 T.string (.slice t116_p t116_l t116_c) h_15 t117 ∧
                                  J_5 (!(t112.toList == t117.toList)) h_15
                                else
                                  J_5 false h_15))
                  else
                    (I (IntKind.wrap .i64 (i + 1)) h_8 ∧ mu (IntKind.wrap .i64 (i + 1)) h_8 < mu i h_4)
          else
            CallsH Try.prog F.law24_alive #[] h_5 fun v_6 h_17 =>
            ∃ (t121 : Bool), v_6 = .bool t121 ∧
            R (.bool t121) h_17)
        (fun J_1 =>
          if (decide (i < ((ids_l : Nat) : Int))) = true then
            if (decide (i < ((data_l : Nat) : Int))) = true then
              J_1 (decide (i < 60)) h_4
            else
              J_1 false h_4
          else
            J_1 false h_4))
  (fun J =>
    if (t18_1 != 0) = true then
      J true h_2
    else
      J (t18_0 != 1) h_2)
theorem law24_SessionsKeep.den_eq (ids_p : Option Addr) (ids_l ids_c : Nat) (data_p : Option Addr) (data_l data_c : Nat) (h : Heap) (R : Value → Heap → Prop) : law24_SessionsKeep.vc ids_p ids_l ids_c data_p data_l data_c h R = den Try.prog Try.f3.ntmps (.seq .leaf (.seq .leaf (.seq .leaf (.seq (.seq (.join [(26, .one (.bool))] .leaf) (.cond (.seq .leaf .leaf) .leaf)) (.seq (.seq .leaf (.block (.loop [(8, .one (.int .i64))] (.seq (.seq (.join [(40, .one (.bool))] .leaf) (.cond .leaf .leaf)) (.seq (.block (.seq (.seq .leaf (.cond (.seq .leaf .leaf) .leaf)) (.seq (.seq (.plan (.op 0 (.op 1 (.op 2 (.op 3 (.op 4 (.op 5 (.op 6 (.op 7 (.op 8 (.op 9 (.op 10 (.op 11 .done))))))))))))) (.cond (.seq .leaf .leaf) .leaf)) (.seq .leaf (.seq .leaf (.block (.loop [(9, .one (.slice)), (10, .one (.int .i64))] (.seq (.seq .leaf (.cond .leaf .leaf)) (.seq (.join [(9, .one (.slice))] (.block (.seq .leaf (.seq (.seq .leaf (.block (.loop [(11, .one (.bool)), (12, .one (.int .i64))] (.seq (.seq .leaf (.cond .leaf .leaf)) (.seq (.join [(11, .one (.bool))] (.block (.join [(11, .one (.bool))] (.plan (.op 0 (.op 1 (.op 2 (.op 3 (.op 4 (.op 5 (.op 6 (.op 7 (.op 8 (.op 9 (.op 10 (.op 11 (.op 12 .done))))))))))))))))) .leaf))))) (.seq (.seq .leaf (.cond .leaf .leaf)) (.seq .leaf (.seq .leaf (.seq (.join [(120, .one (.bool))] (.plan (.op 0 (.op 1 (.op 2 (.op 3 (.op 4 (.op 5 (.op 6 (.op 7 (.op 8 (.op 9 (.op 10 (.op 11 (.op 12 (.op 13 (.op 14 (.op 15 (.op 16 (.op 17 .done)))))))))))))))))))) (.cond (.seq .leaf .leaf) .leaf))))))))) .leaf))))))))) .leaf))))) (.seq .leaf .leaf)))))) none (bodyOf Try.f3) (retK Try.prog Try.f3.results R) (argEnv [.slice ids_p ids_l ids_c, .slice data_p data_l data_c]) h := by kernel_rfl
theorem law24_SessionsKeep.walk {ids_p : Option Addr} {ids_l ids_c : Nat} {data_p : Option Addr} {data_l data_c : Nat} {h : Heap} {R : Value → Heap → Prop} (hv : law24_SessionsKeep.vc ids_p ids_l ids_c data_p data_l data_c h R) : CallsH Try.prog F.law24_SessionsKeep #[.slice ids_p ids_l ids_c, .slice data_p data_l data_c] h R :=
  callsH_of_body _ Try.func3 rfl rfl (Eq.mp (law24_SessionsKeep.den_eq ids_p ids_l ids_c data_p data_l data_c h R) hv)

def law24_SessionsCycle.vc (n : Int) (token : Int) (h : Heap) (R : Value → Heap → Prop) : Prop :=
  CallsH Try.prog F.sessions_New #[] h fun v h_1 =>
  ∃ (t22 : Option Addr), v = .pointer t22 ∧
  ∃ (I : Int → Heap → Prop) (mu : Int → Heap → Nat), I 1 h_1 ∧ ∀ (i : Int) (h_2 : Heap), I i h_2 →
    if (decide (i ≤ (IntKind.wrap .i64 (1 + (Int.tmod (IntKind.wrap .i64 n) 8))))) = true then
      CallsH Try.prog F.sessions_Table_Open #[.pointer t22, .int .u64 (IntKind.wrap .u64 (IntKind.wrap .i64 (10 * i)))] h_2 fun v_1 h_3 =>
      ∃ (t37_0 : Int), ∃ (t37_1 : Int), v_1 = .tuple #[.int .i64 t37_0, .int .i64 t37_1] ∧
      JoinP (fun (t46 : Bool) (h_4 : Heap) =>
        if t46 = true then
          R (.bool false) h_4
        else
          (I (IntKind.wrap .i64 (i + 1)) h_4 ∧ mu (IntKind.wrap .i64 (i + 1)) h_4 < mu i h_2))
      (fun J =>
        if (t37_1 != 0) = true then
          J true h_3
        else
          J (t37_0 != i) h_3)
    else
      CallsH Try.prog F.sessions_Table_Resume #[.pointer t22, .int .u64 10] h_2 fun v_2 h_5 =>
      ∃ (t49_0 : Int), ∃ (t49_1 : Int), v_2 = .tuple #[.int .i64 t49_0, .int .i64 t49_1] ∧
      CallsH Try.prog F.sessions_Table_AllDown #[.pointer t22] h_5 fun v_3 h_6 =>
      v_3 = .tuple #[] ∧
      ∃ (I_1 : Int → Heap → Prop) (mu_1 : Int → Heap → Nat), I_1 1 h_6 ∧ ∀ (i_1 : Int) (h_7 : Heap), I_1 i_1 h_7 →
        if (decide (i_1 ≤ (IntKind.wrap .i64 (1 + (Int.tmod (IntKind.wrap .i64 n) 8))))) = true then
          CallsH Try.prog F.sessions_Table_Resume #[.pointer t22, .int .u64 (IntKind.wrap .u64 (IntKind.wrap .i64 (10 * i_1)))] h_7 fun v_4 h_8 =>
          ∃ (t64_0 : Int), ∃ (t64_1 : Int), v_4 = .tuple #[.int .i64 t64_0, .int .i64 t64_1] ∧
          CallsH Try.prog F.sessions_Table_Resume #[.pointer t22, .int .u64 (IntKind.wrap .u64 (IntKind.wrap .i64 (10 * i_1)))] h_8 fun v_5 h_9 =>
          ∃ (t72_0 : Int), ∃ (t72_1 : Int), v_5 = .tuple #[.int .i64 t72_0, .int .i64 t72_1] ∧
          JoinP (fun (t103 : Bool) (h_10 : Heap) =>
            if t103 = true then
              R (.bool false) h_10
            else
              (I_1 (IntKind.wrap .i64 (i_1 + 1)) h_10 ∧ mu_1 (IntKind.wrap .i64 (i_1 + 1)) h_10 < mu_1 i_1 h_7))
          (fun J_1 =>
            if (t64_1 != 0) = true then
              J_1 true h_9
            else
              if (t64_0 != i_1) = true then
                J_1 true h_9
              else
                if (t72_1 != 7) = true then
                  J_1 true h_9
                else
                  CallsH Try.prog F.sessions_Table_Up #[.pointer t22, .int .i64 i_1] h_9 fun v_6 h_11 =>
                  ∃ (t89 : Bool), v_6 = .bool t89 ∧
                  if (!t89) = true then
                    J_1 true h_11
                  else
                    CallsH Try.prog F.sessions_Table_Down #[.pointer t22, .int .i64 i_1] h_11 fun v_7 h_12 =>
                    ∃ (t95 : Int), v_7 = .int .i64 t95 ∧
                    if (t95 != 0) = true then
                      J_1 true h_12
                    else
                      CallsH Try.prog F.sessions_Table_Down #[.pointer t22, .int .i64 i_1] h_12 fun v_8 h_13 =>
                      ∃ (t101 : Int), v_8 = .int .i64 t101 ∧
                      J_1 (t101 != 7) h_13)
        else
          JoinP (fun (t110 : Bool) (h_14 : Heap) =>
            if t110 = true then
              CallsH Try.prog F.law24_alive #[] h_14 fun v_9 h_15 =>
              ∃ (t111 : Bool), v_9 = .bool t111 ∧
              R (.bool t111) h_15
            else
              CallsH Try.prog F.sessions_Table_Resume #[.pointer t22, .int .u64 token] h_14 fun v_10 h_16 =>
              ∃ (t115_0 : Int), ∃ (t115_1 : Int), v_10 = .tuple #[.int .i64 t115_0, .int .i64 t115_1] ∧
              CallsH Try.prog F.sessions_Table_Open #[.pointer t22, .int .u64 token] h_16 fun v_11 h_17 =>
              ∃ (t121_0 : Int), ∃ (t121_1 : Int), v_11 = .tuple #[.int .i64 t121_0, .int .i64 t121_1] ∧
              JoinP (fun (want : Int) (h_18 : Heap) =>
                CallsH Try.prog F.law24_alive #[] h_18 fun v_12 h_19 =>
                ∃ (t130 : Bool), v_12 = .bool t130 ∧
                if t130 = true then
                  if (t49_1 == 7) = true then
                    if (t115_1 == 12) = true then
                      R (.bool (t121_1 == want)) h_19
                    else
                      R (.bool false) h_19
                  else
                    R (.bool false) h_19
                else
                  R (.bool false) h_19)
              (fun J_3 =>
                JoinP (fun (want_1 : Int) (h_20 : Heap) =>
                  J_3 want_1 h_20)
                (fun J_4 =>
                  if (decide (token > 2147483648)) = true then
                    J_4 1 h_17
                  else
                    JoinP (fun (want_2 : Int) (h_21 : Heap) =>
                      J_4 want_2 h_21)
                    (fun J_5 =>
                      if ((IntKind.wrap .i64 (1 + (Int.tmod (IntKind.wrap .i64 n) 8))) == 8) = true then
                        J_5 5 h_17
                      else
                        J_5 0 h_17))))
          (fun J_2 =>
            if ((Int.tmod token 10) == 0) = true then
              J_2 (decide (token ≤ 80)) h_7
            else
              J_2 false h_7)
theorem law24_SessionsCycle.den_eq (n : Int) (token : Int) (h : Heap) (R : Value → Heap → Prop) : law24_SessionsCycle.vc n token h R = den Try.prog Try.f4.ntmps (.seq .leaf (.seq .leaf (.seq .leaf (.seq (.seq .leaf (.block (.loop [(7, .one (.int .i64))] (.seq (.seq .leaf (.cond .leaf .leaf)) (.seq (.block (.seq .leaf (.seq (.join [(46, .one (.bool))] .leaf) (.cond (.seq .leaf .leaf) .leaf)))) .leaf))))) (.seq .leaf (.seq .leaf (.seq (.seq .leaf (.block (.loop [(12, .one (.int .i64))] (.seq (.seq .leaf (.cond .leaf .leaf)) (.seq (.block (.seq .leaf (.seq .leaf (.seq (.join [(103, .one (.bool))] .leaf) (.cond (.seq .leaf .leaf) .leaf))))) .leaf))))) (.seq (.seq (.join [(110, .one (.bool))] .leaf) (.cond (.seq .leaf .leaf) .leaf)) (.seq .leaf (.seq .leaf (.seq .leaf (.seq (.join [(21, .one (.int .i64))] (.block (.seq .leaf (.join [(21, .one (.int .i64))] (.cond .leaf (.seq .leaf (.join [(21, .one (.int .i64))] (.cond .leaf .leaf)))))))) (.seq .leaf .leaf))))))))))))) none (bodyOf Try.f4) (retK Try.prog Try.f4.results R) (argEnv [.int .u8 n, .int .u64 token]) h := by kernel_rfl
theorem law24_SessionsCycle.walk {n : Int} {token : Int} {h : Heap} {R : Value → Heap → Prop} (hv : law24_SessionsCycle.vc n token h R) : CallsH Try.prog F.law24_SessionsCycle #[.int .u8 n, .int .u64 token] h R :=
  callsH_of_body _ Try.func4 rfl rfl (Eq.mp (law24_SessionsCycle.den_eq n token h R) hv)

def law24_SessionsBack.vc (ops_p : Option Addr) (ops_l ops_c : Nat) (h : Heap) (R : Value → Heap → Prop) : Prop :=
  CallsH Try.prog F.sessions_New #[] h fun v h_1 =>
  ∃ (t16 : Option Addr), v = .pointer t16 ∧
  ∃ (I : Int → Heap → Prop) (mu : Int → Heap → Nat), I 0 h_1 ∧ ∀ (i : Int) (h_2 : Heap), I i h_2 →
    JoinP (fun (t24 : Bool) (h_3 : Heap) =>
      if t24 = true then
        JoinP (fun (h_4 : Heap) =>
          (I (IntKind.wrap .i64 (i + 1)) h_4 ∧ mu (IntKind.wrap .i64 (i + 1)) h_4 < mu i h_2))
        (fun J_1 =>
          ((0 : Int) ≤ i ∧ i < ((ops_l : Nat) : Int)) ∧
          onSome ops_p fun a =>
          ∃ (t30_0 : Int), hcell h_3 (a.add (Int.toNat i * 5)) = some (.int .i64 t30_0) ∧ ∃ (t30_1 : Int), hcell h_3 ((a.add (Int.toNat i * 5)).add 1) = some (.int .i64 t30_1) ∧ ∃ (t30_2 : Int), hcell h_3 ((a.add (Int.toNat i * 5)).add 2) = some (.int .u64 t30_2) ∧ ∃ (t30_3_p : Option Addr) (t30_3_l t30_3_c : Nat), hcell h_3 ((a.add (Int.toNat i * 5)).add 3) = some (.slice t30_3_p t30_3_l t30_3_c) ∧ ∃ (t30_4 : Bool), hcell h_3 ((a.add (Int.toNat i * 5)).add 4) = some (.bool t30_4) ∧ 
          NewP h_3 (.cells #[.int .i64 0, .int .i64 0, .int .u64 0, .slice none 0 0, .bool false] T.law24_Op) fun b h_5 =>
          StoreP h_5 ⟨b, 0, none⟩ (.int .i64 t30_0) fun h_6 =>
          StoreP h_6 ⟨b, 1, none⟩ (.int .i64 t30_1) fun h_7 =>
          StoreP h_7 ⟨b, 2, none⟩ (.int .u64 t30_2) fun h_8 =>
          StoreP h_8 ⟨b, 3, none⟩ (.slice t30_3_p t30_3_l t30_3_c) fun h_9 =>
          StoreP h_9 ⟨b, 4, none⟩ (.bool t30_4) fun h_10 =>
          ∃ (t32_p : Option Addr) (t32_l t32_c : Nat), hcell h_10 ⟨b, 3, none⟩ = some (.slice t32_p t32_l t32_c) ∧
          if (decide (((t32_l : Nat) : Int) > 1100)) = true then
            CallsH Try.prog F.law24_alive #[] h_10 fun v_1 h_11 =>
            ∃ (t35 : Bool), v_1 = .bool t35 ∧
            R (.bool t35) h_11
          else
            ∃ (t37 : Int), hcell h_10 ⟨b, 0, none⟩ = some (.int .i64 t37) ∧
            JoinP (fun (h_12 : Heap) =>
              J_1 h_12)
            (fun J_2 =>
              JoinP (fun (h_13 : Heap) =>
                J_2 h_13)
              (fun J_3 =>
                if (t37 == 0) = true then
                  ∃ (t42 : Int), hcell h_10 ⟨b, 2, none⟩ = some (.int .u64 t42) ∧
                  CallsH Try.prog F.sessions_Table_Open #[.pointer t16, .int .u64 t42] h_10 fun v_2 h_14 =>
                  ∃ (t43_0 : Int), ∃ (t43_1 : Int), v_2 = .tuple #[.int .i64 t43_0, .int .i64 t43_1] ∧
                  J_3 h_14
                else
                  JoinP (fun (h_15 : Heap) =>
                    J_3 h_15)
                  (fun J_4 =>
                    if (t37 == 1) = true then
                      ∃ (t48 : Int), hcell h_10 ⟨b, 2, none⟩ = some (.int .u64 t48) ∧
                      CallsH Try.prog F.sessions_Table_Resume #[.pointer t16, .int .u64 t48] h_10 fun v_3 h_16 =>
                      ∃ (t49_0 : Int), ∃ (t49_1 : Int), v_3 = .tuple #[.int .i64 t49_0, .int .i64 t49_1] ∧
                      J_4 h_16
                    else
                      JoinP (fun (h_17 : Heap) =>
                        J_4 h_17)
                      (fun J_5 =>
                        if (t37 == 2) = true then
                          ∃ (t54 : Int), hcell h_10 ⟨b, 1, none⟩ = some (.int .i64 t54) ∧
                          CallsH Try.prog F.sessions_Table_Down #[.pointer t16, .int .i64 t54] h_10 fun v_4 h_18 =>
                          ∃ (t55 : Int), v_4 = .int .i64 t55 ∧
                          J_5 h_18
                        else
                          JoinP (fun (h_19 : Heap) =>
                            J_5 h_19)
                          (fun J_6 =>
                            if (t37 == 3) = true then
                              ∃ (t60 : Int), hcell h_10 ⟨b, 1, none⟩ = some (.int .i64 t60) ∧
                              ∃ (t62 : Int), hcell h_10 ⟨b, 2, none⟩ = some (.int .u64 t62) ∧
                              ∃ (t64_p : Option Addr) (t64_l t64_c : Nat), hcell h_10 ⟨b, 3, none⟩ = some (.slice t64_p t64_l t64_c) ∧
                              CallsH Try.prog F.sessions_Table_Keep #[.pointer t16, .int .i64 t60, .int .u64 t62, .slice t64_p t64_l t64_c] h_10 fun v_5 h_20 =>
                              ∃ (t65 : Int), v_5 = .int .i64 t65 ∧
                              J_6 h_20
                            else
                              JoinP (fun (h_21 : Heap) =>
                                J_6 h_21)
                              (fun J_7 =>
                                if (t37 == 4) = true then
                                  ∃ (t70 : Int), hcell h_10 ⟨b, 1, none⟩ = some (.int .i64 t70) ∧
                                  ∃ (t72 : Bool), hcell h_10 ⟨b, 4, none⟩ = some (.bool t72) ∧
                                  CallsH Try.prog F.sessions_Table_Watch #[.pointer t16, .int .i64 t70, .bool t72] h_10 fun v_6 h_22 =>
                                  ∃ (t73 : Int), v_6 = .int .i64 t73 ∧
                                  J_7 h_22
                                else
                                  JoinP (fun (h_23 : Heap) =>
                                    J_7 h_23)
                                  (fun J_8 =>
                                    if (t37 == 5) = true then
                                      ∃ (t78 : Int), hcell h_10 ⟨b, 1, none⟩ = some (.int .i64 t78) ∧
                                      ∃ (t80_p : Option Addr) (t80_l t80_c : Nat), hcell h_10 ⟨b, 3, none⟩ = some (.slice t80_p t80_l t80_c) ∧
                                      CallsH Try.prog F.sessions_Table_Note #[.pointer t16, .int .i64 t78, .slice t80_p t80_l t80_c] h_10 fun v_7 h_24 =>
                                      ∃ (t81 : Int), v_7 = .int .i64 t81 ∧
                                      J_8 h_24
                                    else
                                      J_8 h_10))))))))
      else
        CallsH Try.prog F.sessions_Table_Save #[.pointer t16] h_3 fun v_8 h_25 =>
        ∃ (t83_p : Option Addr) (t83_l t83_c : Nat), v_8 = .slice t83_p t83_l t83_c ∧
        CallsH Try.prog F.sessions_Load #[.slice t83_p t83_l t83_c] h_25 fun v_9 h_26 =>
        ∃ (t86_0 : Option Addr), ∃ (t86_1 : Int), v_9 = .tuple #[.pointer t86_0, .int .i64 t86_1] ∧
        JoinP (fun (t110 : Bool) (h_27 : Heap) =>
          if t110 = true then
            R (.bool false) h_27
          else
            CallsH Try.prog F.sessions_Table_All #[.pointer t16] h_27 fun v_10 h_28 =>
            ∃ (t112_p : Option Addr) (t112_l t112_c : Nat), v_10 = .slice t112_p t112_l t112_c ∧
            if (((t112_l : Nat) : Int) == 0) = true then
              CallsH Try.prog F.law24_alive #[] h_28 fun v_11 h_29 =>
              ∃ (t116 : Bool), v_11 = .bool t116 ∧
              R (.bool t116) h_29
            else
              ((0 : Int) ≤ IntKind.wrap .i64 (((t112_l : Nat) : Int) - 1) ∧ IntKind.wrap .i64 (((t112_l : Nat) : Int) - 1) < ((t112_l : Nat) : Int)) ∧
              onSome t112_p fun a_1 =>
              ∃ (t122_0 : Int), hcell h_28 (a_1.add (Int.toNat (IntKind.wrap .i64 (((t112_l : Nat) : Int) - 1)) * 6)) = some (.int .i64 t122_0) ∧ ∃ (t122_1 : Int), hcell h_28 ((a_1.add (Int.toNat (IntKind.wrap .i64 (((t112_l : Nat) : Int) - 1)) * 6)).add 1) = some (.int .u64 t122_1) ∧ ∃ (t122_2 : Bool), hcell h_28 ((a_1.add (Int.toNat (IntKind.wrap .i64 (((t112_l : Nat) : Int) - 1)) * 6)).add 2) = some (.bool t122_2) ∧ ∃ (t122_3 : Bool), hcell h_28 ((a_1.add (Int.toNat (IntKind.wrap .i64 (((t112_l : Nat) : Int) - 1)) * 6)).add 3) = some (.bool t122_3) ∧ ∃ (t122_4_p : Option Addr) (t122_4_l t122_4_c : Nat), hcell h_28 ((a_1.add (Int.toNat (IntKind.wrap .i64 (((t112_l : Nat) : Int) - 1)) * 6)).add 4) = some (.slice t122_4_p t122_4_l t122_4_c) ∧ ∃ (t122_5_p : Option Addr) (t122_5_l t122_5_c : Nat), hcell h_28 ((a_1.add (Int.toNat (IntKind.wrap .i64 (((t112_l : Nat) : Int) - 1)) * 6)).add 5) = some (.slice t122_5_p t122_5_l t122_5_c) ∧ 
              NewP h_28 (.cells #[.int .i64 0, .int .u64 0, .bool false, .bool false, .slice none 0 0, .slice none 0 0] T.sessions_Session) fun b_1 h_30 =>
              StoreP h_30 ⟨b_1, 0, none⟩ (.int .i64 t122_0) fun h_31 =>
              StoreP h_31 ⟨b_1, 1, none⟩ (.int .u64 t122_1) fun h_32 =>
              StoreP h_32 ⟨b_1, 2, none⟩ (.bool t122_2) fun h_33 =>
              StoreP h_33 ⟨b_1, 3, none⟩ (.bool t122_3) fun h_34 =>
              StoreP h_34 ⟨b_1, 4, none⟩ (.slice t122_4_p t122_4_l t122_4_c) fun h_35 =>
              StoreP h_35 ⟨b_1, 5, none⟩ (.slice t122_5_p t122_5_l t122_5_c) fun h_36 =>
              ((0 : Int) ≤ IntKind.wrap .i64 (((t83_l : Nat) : Int) - 1) ∧ IntKind.wrap .i64 (((t83_l : Nat) : Int) - 1) ≤ ((t83_c : Nat) : Int)) ∧ 
              CallsH Try.prog F.sessions_Load #[.slice (slBase t83_p t83_c 0 1) ((Int.toNat (IntKind.wrap .i64 (((t83_l : Nat) : Int) - 1))) - 0) (t83_c - 0)] h_36 fun v_12 h_37 =>
              ∃ (t129_0 : Option Addr), ∃ (t129_1 : Int), v_12 = .tuple #[.pointer t129_0, .int .i64 t129_1] ∧
              JoinP (fun (g : Int) (h_38 : Heap) =>
                ∃ (t145_p : Option Addr) (t145_l t145_c : Nat), hcell h_38 ⟨b_1, 4, none⟩ = some (.slice t145_p t145_l t145_c) ∧
                ∃ (t148_p : Option Addr) (t148_l t148_c : Nat), hcell h_38 ⟨b_1, 5, none⟩ = some (.slice t148_p t148_l t148_c) ∧
                CallsH Try.prog F.law24_alive #[] h_38 fun v_13 h_39 =>
                ∃ (t152 : Bool), v_13 = .bool t152 ∧
                if t152 = true then
                  if ((t129_1 == 0) == ((IntKind.wrap .i64 (((t145_l : Nat) : Int) + ((t148_l : Nat) : Int))) == 0)) = true then
                    R (.bool (g == 3)) h_39
                  else
                    R (.bool false) h_39
                else
                  R (.bool false) h_39)
              (fun J_10 =>
                ((0 : Int) ≤ 0 ∧ 0 < ((t83_l : Nat) : Int)) ∧
                onSome t83_p fun a_2 =>
                ∃ (t138_p : Option Addr) (t138_l t138_c : Nat), hcell h_37 (a_2.add (Int.toNat 0 * 1)) = some (.slice t138_p t138_l t138_c) ∧
                (NewP h_37 (.cells #[] T.s_uint8) fun b_2 h_40 =>
                hcell h_40 (a_2.add (Int.toNat 0 * 1)) = some (.slice t138_p t138_l t138_c) ∧
                (denSem Try.prog (Builtin.append_ #[T.s_s_uint8, T.s_s_uint8] T.s_s_uint8 #[.slice (some ⟨b_2, 0, none⟩) 0 0, .slice t83_p t83_l t83_c]) h_40 fun v_14 h_41 =>
                ∃ (t135_p : Option Addr) (t135_l t135_c : Nat), v_14 = .slice t135_p t135_l t135_c ∧
                hcell h_41 (a_2.add (Int.toNat 0 * 1)) = some (.slice t138_p t138_l t138_c) ∧
                NewP h_41 (.cells #[.slice t138_p t138_l t138_c] T.s_uint8) fun b_3 h_42 =>
                denSem Try.prog (Builtin.append_ #[T.s_s_uint8, T.s_s_uint8] T.s_s_uint8 #[.slice t135_p t135_l t135_c, .slice (some ⟨b_3, 0, none⟩) 1 1]) h_42 fun v_15 h_43 =>
                ∃ (t140_p : Option Addr) (t140_l t140_c : Nat), v_15 = .slice t140_p t140_l t140_c ∧
                CallsH Try.prog F.sessions_Load #[.slice t140_p t140_l t140_c] h_43 fun v_16 h_44 =>
                ∃ (t141_0 : Option Addr), ∃ (t141_1 : Int), v_16 = .tuple #[.pointer t141_0, .int .i64 t141_1] ∧
                J_10 t141_1 h_44) ∧
                (NewP h_40 (.cells #[.slice t138_p t138_l t138_c] T.s_uint8) fun b_4 h_45 =>
                denSem Try.prog (Builtin.append_ #[T.s_s_uint8, T.s_s_uint8] T.s_s_uint8 #[.slice (some ⟨b_2, 0, none⟩) 0 0, .slice t83_p t83_l t83_c]) h_45 fun v_17 h_46 =>
                ∃ (t135_p_1 : Option Addr) (t135_l_1 t135_c_1 : Nat), v_17 = .slice t135_p_1 t135_l_1 t135_c_1 ∧
                denSem Try.prog (Builtin.append_ #[T.s_s_uint8, T.s_s_uint8] T.s_s_uint8 #[.slice t135_p_1 t135_l_1 t135_c_1, .slice (some ⟨b_4, 0, none⟩) 1 1]) h_46 fun v_18 h_47 =>
                ∃ (t140_p_1 : Option Addr) (t140_l_1 t140_c_1 : Nat), v_18 = .slice t140_p_1 t140_l_1 t140_c_1 ∧
                CallsH Try.prog F.sessions_Load #[.slice t140_p_1 t140_l_1 t140_c_1] h_47 fun v_19 h_48 =>
                ∃ (t141_0_1 : Option Addr), ∃ (t141_1_1 : Int), v_19 = .tuple #[.pointer t141_0_1, .int .i64 t141_1_1] ∧
                J_10 t141_1_1 h_48) ∧
                True) ∧
                (NewP h_37 (.cells #[.slice t138_p t138_l t138_c] T.s_uint8) fun b_5 h_49 =>
                NewP h_49 (.cells #[] T.s_uint8) fun b_6 h_50 =>
                denSem Try.prog (Builtin.append_ #[T.s_s_uint8, T.s_s_uint8] T.s_s_uint8 #[.slice (some ⟨b_6, 0, none⟩) 0 0, .slice t83_p t83_l t83_c]) h_50 fun v_20 h_51 =>
                ∃ (t135_p_2 : Option Addr) (t135_l_2 t135_c_2 : Nat), v_20 = .slice t135_p_2 t135_l_2 t135_c_2 ∧
                denSem Try.prog (Builtin.append_ #[T.s_s_uint8, T.s_s_uint8] T.s_s_uint8 #[.slice t135_p_2 t135_l_2 t135_c_2, .slice (some ⟨b_5, 0, none⟩) 1 1]) h_51 fun v_21 h_52 =>
                ∃ (t140_p_2 : Option Addr) (t140_l_2 t140_c_2 : Nat), v_21 = .slice t140_p_2 t140_l_2 t140_c_2 ∧
                CallsH Try.prog F.sessions_Load #[.slice t140_p_2 t140_l_2 t140_c_2] h_52 fun v_22 h_53 =>
                ∃ (t141_0_2 : Option Addr), ∃ (t141_1_2 : Int), v_22 = .tuple #[.pointer t141_0_2, .int .i64 t141_1_2] ∧
                J_10 t141_1_2 h_53) ∧
                True))
        (fun J_9 =>
          if (t86_1 != 0) = true then
            J_9 true h_26
          else
            if t86_0.isNone = true then
              J_9 true h_26
            else
              CallsH Try.prog F.sessions_Table_Save #[.pointer t86_0] h_26 fun v_23 h_54 =>
              ∃ (t97_p : Option Addr) (t97_l t97_c : Nat), v_23 = .slice t97_p t97_l t97_c ∧
              CallsH Try.prog F.law19_Same #[.slice t97_p t97_l t97_c, .slice t83_p t83_l t83_c] h_54 fun v_24 h_55 =>
              ∃ (t99 : Bool), v_24 = .bool t99 ∧
              if (!t99) = true then
                J_9 true h_55
              else
                CallsH Try.prog F.sessions_Table_All #[.pointer t86_0] h_55 fun v_25 h_56 =>
                ∃ (t104_p : Option Addr) (t104_l t104_c : Nat), v_25 = .slice t104_p t104_l t104_c ∧
                CallsH Try.prog F.sessions_Table_All #[.pointer t16] h_56 fun v_26 h_57 =>
                ∃ (t107_p : Option Addr) (t107_l t107_c : Nat), v_26 = .slice t107_p t107_l t107_c ∧
                J_9 (((t104_l : Nat) : Int) != ((t107_l : Nat) : Int)) h_57))
    (fun J =>
      if (decide (i < ((ops_l : Nat) : Int))) = true then
        J (decide (i < 100)) h_2
      else
        J false h_2)
theorem law24_SessionsBack.den_eq (ops_p : Option Addr) (ops_l ops_c : Nat) (h : Heap) (R : Value → Heap → Prop) : law24_SessionsBack.vc ops_p ops_l ops_c h R = den Try.prog Try.f5.ntmps (.seq .leaf (.seq .leaf (.seq (.seq .leaf (.block (.loop [(4, .one (.int .i64))] (.seq (.seq (.join [(24, .one (.bool))] .leaf) (.cond .leaf .leaf)) (.seq (.join [] (.block (.seq .leaf (.seq (.seq .leaf (.cond (.seq .leaf .leaf) .leaf)) (.seq .leaf (.join [] (.block (.seq .leaf (.join [] (.cond .leaf (.seq .leaf (.join [] (.cond .leaf (.seq .leaf (.join [] (.cond .leaf (.seq .leaf (.join [] (.cond .leaf (.seq .leaf (.join [] (.cond .leaf (.seq .leaf (.join [] (.cond .leaf .leaf))))))))))))))))))))))))) .leaf))))) (.seq .leaf (.seq .leaf (.seq (.seq (.join [(110, .one (.bool))] .leaf) (.cond (.seq .leaf .leaf) .leaf)) (.seq .leaf (.seq (.seq .leaf (.cond (.seq .leaf .leaf) .leaf)) (.seq .leaf (.seq .leaf (.seq (.join [(14, .one (.int .i64))] (.plan (.op 1 (.op 3 (.op 4 (.op 5 (.alts (.fork 0 (.alts (.fork 2 (.op 6 (.op 7 (.op 8 (.op 9 (.op 10 (.op 11 (.op 12 (.op 13 .done)))))))) (.fork 6 (.op 2 (.op 7 (.op 8 (.op 9 (.op 10 (.op 11 (.op 12 (.op 13 .done)))))))) .noalt))) (.fork 6 (.op 0 (.op 2 (.op 7 (.op 8 (.op 9 (.op 10 (.op 11 (.op 12 (.op 13 .done))))))))) .noalt))))))))) (.seq .leaf (.seq .leaf .leaf))))))))))))) none (bodyOf Try.f5) (retK Try.prog Try.f5.results R) (argEnv [.slice ops_p ops_l ops_c]) h := by kernel_rfl
theorem law24_SessionsBack.walk {ops_p : Option Addr} {ops_l ops_c : Nat} {h : Heap} {R : Value → Heap → Prop} (hv : law24_SessionsBack.vc ops_p ops_l ops_c h R) : CallsH Try.prog F.law24_SessionsBack #[.slice ops_p ops_l ops_c] h R :=
  callsH_of_body _ Try.func5 rfl rfl (Eq.mp (law24_SessionsBack.den_eq ops_p ops_l ops_c h R) hv)

end Go.Proofs.Ytlnofnmdiddmkaa
