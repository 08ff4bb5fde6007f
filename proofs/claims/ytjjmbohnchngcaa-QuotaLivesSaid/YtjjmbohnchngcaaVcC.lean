/-
  Printed by a program of this work (vc.py): the verification conditions of functions, and that each is enough for the call. No condition.
-/
import Derived.Test.YtjjmbohnchngcaaNames
set_option maxRecDepth 100000
set_option maxHeartbeats 4000000
namespace Go.Proofs.Ytjjmbohnchngcaa
open Go.Den
def law25_alive.vc  (h : Heap) (R : Value → Heap → Prop) : Prop :=
  CallsH Try.prog F.quota_New #[.int .i64 10, .int .i64 6] h fun v h_1 =>
  ∃ (t11_0 : Option Addr), ∃ (t11_1 : Int), v = .tuple #[.pointer t11_0, .int .i64 t11_1] ∧
  JoinP (fun (t19 : Bool) (h_2 : Heap) =>
    if t19 = true then
      R (.bool false) h_2
    else
      CallsH Try.prog F.quota_Purse_Take #[.pointer t11_0, .int .i64 1, .int .i64 6] h_2 fun v_1 h_3 =>
      ∃ (t21 : Int), v_1 = .int .i64 t21 ∧
      CallsH Try.prog F.quota_Purse_Take #[.pointer t11_0, .int .i64 2, .int .i64 5] h_3 fun v_2 h_4 =>
      ∃ (t23 : Int), v_2 = .int .i64 t23 ∧
      CallsH Try.prog F.quota_Purse_Take #[.pointer t11_0, .int .i64 1, .int .i64 1] h_4 fun v_3 h_5 =>
      ∃ (t25 : Int), v_3 = .int .i64 t25 ∧
      CallsH Try.prog F.quota_Purse_Give #[.pointer t11_0, .int .i64 1, .int .i64 7] h_5 fun v_4 h_6 =>
      ∃ (t27 : Int), v_4 = .int .i64 t27 ∧
      CallsH Try.prog F.quota_Purse_Give #[.pointer t11_0, .int .i64 1, .int .i64 2] h_6 fun v_5 h_7 =>
      ∃ (t29 : Int), v_5 = .int .i64 t29 ∧
      CallsH Try.prog F.quota_New #[.int .i64 5, .int .i64 6] h_7 fun v_6 h_8 =>
      ∃ (t31_0 : Option Addr), ∃ (t31_1 : Int), v_6 = .tuple #[.pointer t31_0, .int .i64 t31_1] ∧
      if (t21 == 0) = true then
        if (t23 == 15) = true then
          if (t25 == 15) = true then
            if (t27 == 7) = true then
              if (t29 == 0) = true then
                if (t31_1 == 1) = true then
                  CallsH Try.prog F.quota_Purse_Used #[.pointer t11_0, .int .i64 1] h_8 fun v_7 h_9 =>
                  ∃ (t58 : Int), v_7 = .int .i64 t58 ∧
                  if (t58 == 4) = true then
                    CallsH Try.prog F.quota_Purse_All #[.pointer t11_0] h_9 fun v_8 h_10 =>
                    ∃ (t63 : Int), v_8 = .int .i64 t63 ∧
                    if (t63 == 4) = true then
                      CallsH Try.prog F.quota_Purse_Fits #[.pointer t11_0, .int .i64 2, .int .i64 6] h_10 fun v_9 h_11 =>
                      ∃ (t68 : Bool), v_9 = .bool t68 ∧
                      if t68 = true then
                        CallsH Try.prog F.quota_Purse_Fits #[.pointer t11_0, .int .i64 2, .int .i64 7] h_11 fun v_10 h_12 =>
                        ∃ (t72 : Bool), v_10 = .bool t72 ∧
                        R (.bool (!t72)) h_12
                      else
                        R (.bool false) h_11
                    else
                      R (.bool false) h_10
                  else
                    R (.bool false) h_9
                else
                  R (.bool false) h_8
              else
                R (.bool false) h_8
            else
              R (.bool false) h_8
          else
            R (.bool false) h_8
        else
          R (.bool false) h_8
      else
        R (.bool false) h_8)
  (fun J =>
    if (t11_1 != 0) = true then
      J true h_1
    else
      J t11_0.isNone h_1)
theorem law25_alive.den_eq  (h : Heap) (R : Value → Heap → Prop) : law25_alive.vc h R = den Try.prog Try.f7.ntmps (.seq .leaf (.seq .leaf (.seq (.seq (.join [(19, .one (.bool))] .leaf) (.cond (.seq .leaf .leaf) .leaf)) (.seq .leaf (.seq .leaf (.seq .leaf (.seq .leaf .leaf))))))) (bodyOf Try.f7) (retK Try.prog Try.f7.results R) (argEnv []) h := by kernel_rfl
theorem law25_alive.walk  {h : Heap} {R : Value → Heap → Prop} (hv : law25_alive.vc h R) : CallsH Try.prog F.law25_alive #[] h R :=
  callsH_of_body _ Try.func7 rfl rfl (Eq.mp (law25_alive.den_eq h R) hv)

def law25_QuotaFits.vc (whole : Int) (share : Int) (owner : Int) (n : Int) (m : Int) (h : Heap) (R : Value → Heap → Prop) : Prop :=
  CallsH Try.prog F.quota_New #[.int .i64 whole, .int .i64 share] h fun v h_1 =>
  ∃ (t20_0 : Option Addr), ∃ (t20_1 : Int), v = .tuple #[.pointer t20_0, .int .i64 t20_1] ∧
  JoinP (fun (t28 : Bool) (h_2 : Heap) =>
    if t28 = true then
      CallsH Try.prog F.law25_alive #[] h_2 fun v_1 h_3 =>
      ∃ (t29 : Bool), v_1 = .bool t29 ∧
      R (.bool t29) h_3
    else
      CallsH Try.prog F.quota_Purse_Fits #[.pointer t20_0, .int .i64 owner, .int .i64 n] h_2 fun v_2 h_4 =>
      ∃ (t33 : Bool), v_2 = .bool t33 ∧
      CallsH Try.prog F.quota_Purse_Take #[.pointer t20_0, .int .i64 owner, .int .i64 n] h_4 fun v_3 h_5 =>
      ∃ (t37 : Int), v_3 = .int .i64 t37 ∧
      CallsH Try.prog F.quota_Purse_Fits #[.pointer t20_0, .int .i64 owner, .int .i64 m] h_5 fun v_4 h_6 =>
      ∃ (t41 : Bool), v_4 = .bool t41 ∧
      CallsH Try.prog F.quota_Purse_Take #[.pointer t20_0, .int .i64 owner, .int .i64 m] h_6 fun v_5 h_7 =>
      ∃ (t45 : Int), v_5 = .int .i64 t45 ∧
      JoinP (fun (t55 : Bool) (h_8 : Heap) =>
        if t55 = true then
          R (.bool false) h_8
        else
          JoinP (fun (t68 : Bool) (h_9 : Heap) =>
            if t68 = true then
              R (.bool false) h_9
            else
              CallsH Try.prog F.law25_alive #[] h_9 fun v_6 h_10 =>
              ∃ (t69 : Bool), v_6 = .bool t69 ∧
              if t69 = true then
                if (t37 != 0) = true then
                  R (.bool true) h_10
                else
                  CallsH Try.prog F.quota_Purse_Used #[.pointer t20_0, .int .i64 owner] h_10 fun v_7 h_11 =>
                  ∃ (t76 : Int), v_7 = .int .i64 t76 ∧
                  if (t76 == n) = true then
                    CallsH Try.prog F.quota_Purse_Give #[.pointer t20_0, .int .i64 owner, .int .i64 n] h_11 fun v_8 h_12 =>
                    ∃ (t83 : Int), v_8 = .int .i64 t83 ∧
                    if (t83 == 0) = true then
                      CallsH Try.prog F.quota_Purse_All #[.pointer t20_0] h_12 fun v_9 h_13 =>
                      ∃ (t88 : Int), v_9 = .int .i64 t88 ∧
                      if (t88 == 0) = true then
                        CallsH Try.prog F.quota_Purse_Fits #[.pointer t20_0, .int .i64 owner, .int .i64 n] h_13 fun v_10 h_14 =>
                        ∃ (t95 : Bool), v_10 = .bool t95 ∧
                        R (.bool t95) h_14
                      else
                        R (.bool false) h_13
                    else
                      R (.bool false) h_12
                  else
                    R (.bool false) h_11
              else
                R (.bool false) h_10)
          (fun J_2 =>
            if (t37 == 0) = true then
              if (t45 == 0) = true then
                CallsH Try.prog F.quota_Purse_Give #[.pointer t20_0, .int .i64 owner, .int .i64 m] h_8 fun v_11 h_15 =>
                ∃ (t66 : Int), v_11 = .int .i64 t66 ∧
                J_2 (t66 != 0) h_15
              else
                J_2 false h_8
            else
              J_2 false h_8))
      (fun J_1 =>
        if (!(t33 == (t37 == 0))) = true then
          J_1 true h_7
        else
          J_1 (!(t41 == (t45 == 0))) h_7))
  (fun J =>
    if (t20_1 != 0) = true then
      J true h_1
    else
      J t20_0.isNone h_1)
theorem law25_QuotaFits.den_eq (whole : Int) (share : Int) (owner : Int) (n : Int) (m : Int) (h : Heap) (R : Value → Heap → Prop) : law25_QuotaFits.vc whole share owner n m h R = den Try.prog Try.f5.ntmps (.seq .leaf (.seq .leaf (.seq (.seq (.join [(28, .one (.bool))] .leaf) (.cond (.seq .leaf .leaf) .leaf)) (.seq .leaf (.seq .leaf (.seq .leaf (.seq .leaf (.seq (.seq (.join [(55, .one (.bool))] .leaf) (.cond (.seq .leaf .leaf) .leaf)) (.seq (.seq (.join [(68, .one (.bool))] .leaf) (.cond (.seq .leaf .leaf) .leaf)) (.seq .leaf .leaf)))))))))) (bodyOf Try.f5) (retK Try.prog Try.f5.results R) (argEnv [.int .i64 whole, .int .i64 share, .int .i64 owner, .int .i64 n, .int .i64 m]) h := by kernel_rfl
theorem law25_QuotaFits.walk {whole : Int} {share : Int} {owner : Int} {n : Int} {m : Int} {h : Heap} {R : Value → Heap → Prop} (hv : law25_QuotaFits.vc whole share owner n m h R) : CallsH Try.prog F.law25_QuotaFits #[.int .i64 whole, .int .i64 share, .int .i64 owner, .int .i64 n, .int .i64 m] h R :=
  callsH_of_body _ Try.func5 rfl rfl (Eq.mp (law25_QuotaFits.den_eq whole share owner n m h R) hv)

def law25_QuotaSums.vc (whole : Int) (share : Int) (ops_p : Option Addr) (ops_l ops_c : Nat) (h : Heap) (R : Value → Heap → Prop) : Prop :=
  CallsH Try.prog F.quota_New #[.int .i64 whole, .int .i64 share] h fun v h_1 =>
  ∃ (t18_0 : Option Addr), ∃ (t18_1 : Int), v = .tuple #[.pointer t18_0, .int .i64 t18_1] ∧
  JoinP (fun (t26 : Bool) (h_2 : Heap) =>
    if t26 = true then
      CallsH Try.prog F.law25_alive #[] h_2 fun v_1 h_3 =>
      ∃ (t27 : Bool), v_1 = .bool t27 ∧
      R (.bool t27) h_3
    else
      ∃ (I : Int → Heap → Prop) (mu : Int → Heap → Nat), I 0 h_2 ∧ ∀ (i : Int) (h_4 : Heap), I i h_4 →
        JoinP (fun (t35 : Bool) (h_5 : Heap) =>
          if t35 = true then
            (0 ≤ i ∧ i < ((ops_l : Nat) : Int)) ∧
            onSome ops_p fun a =>
            ∃ (t41_0 : Bool), hcell h_5 (a.add (Int.toNat i * 3)) = some (.bool t41_0) ∧ ∃ (t41_1 : Int), hcell h_5 ((a.add (Int.toNat i * 3)).add 1) = some (.int .i64 t41_1) ∧ ∃ (t41_2 : Int), hcell h_5 ((a.add (Int.toNat i * 3)).add 2) = some (.int .i64 t41_2) ∧ 
            NewP h_5 (.cells #[.bool false, .int .i64 0, .int .i64 0] T.law25_Op) fun b h_6 =>
            StoreP h_6 ⟨b, 0, none⟩ (.bool t41_0) fun h_7 =>
            StoreP h_7 ⟨b, 1, none⟩ (.int .i64 t41_1) fun h_8 =>
            StoreP h_8 ⟨b, 2, none⟩ (.int .i64 t41_2) fun h_9 =>
            CallsH Try.prog F.quota_Purse_Used #[.pointer t18_0, .int .i64 (IntKind.wrap .i64 (1 + (Int.tmod i 5)))] h_9 fun v_2 h_10 =>
            ∃ (t47 : Int), v_2 = .int .i64 t47 ∧
            ∃ (t51 : Int), hcell h_10 ⟨b, 2, none⟩ = some (.int .i64 t51) ∧
            CallsH Try.prog F.quota_Purse_Take #[.pointer t18_0, .int .i64 (IntKind.wrap .i64 (1 + (Int.tmod i 5))), .int .i64 t51] h_10 fun v_3 h_11 =>
            ∃ (t52 : Int), v_3 = .int .i64 t52 ∧
            JoinP (fun (h_12 : Heap) =>
              ∃ (I_1 : Int → Int → Heap → Prop) (mu_1 : Int → Int → Heap → Nat), I_1 0 1 h_12 ∧ ∀ (sum : Int) (k : Int) (h_13 : Heap), I_1 sum k h_13 →
                if (decide (k ≤ 5)) = true then
                  JoinP (fun (t100 : Bool) (h_14 : Heap) =>
                    if t100 = true then
                      R (.bool false) h_14
                    else
                      CallsH Try.prog F.quota_Purse_Used #[.pointer t18_0, .int .i64 k] h_14 fun v_4 h_15 =>
                      ∃ (t104 : Int), v_4 = .int .i64 t104 ∧
                      (I_1 (IntKind.wrap .i64 (sum + t104)) (IntKind.wrap .i64 (k + 1)) h_15 ∧ mu_1 (IntKind.wrap .i64 (sum + t104)) (IntKind.wrap .i64 (k + 1)) h_15 < mu_1 sum k h_13))
                  (fun J_3 =>
                    CallsH Try.prog F.quota_Purse_Used #[.pointer t18_0, .int .i64 k] h_13 fun v_5 h_16 =>
                    ∃ (t92 : Int), v_5 = .int .i64 t92 ∧
                    if (decide (t92 > share)) = true then
                      J_3 true h_16
                    else
                      CallsH Try.prog F.quota_Purse_Used #[.pointer t18_0, .int .i64 k] h_16 fun v_6 h_17 =>
                      ∃ (t98 : Int), v_6 = .int .i64 t98 ∧
                      J_3 (decide (t98 < 0)) h_17)
                else
                  JoinP (fun (t114 : Bool) (h_18 : Heap) =>
                    if t114 = true then
                      R (.bool false) h_18
                    else
                      (I (IntKind.wrap .i64 (i + 1)) h_18 ∧ mu (IntKind.wrap .i64 (i + 1)) h_18 < mu i h_4))
                  (fun J_4 =>
                    CallsH Try.prog F.quota_Purse_All #[.pointer t18_0] h_13 fun v_7 h_19 =>
                    ∃ (t108 : Int), v_7 = .int .i64 t108 ∧
                    if (sum != t108) = true then
                      J_4 true h_19
                    else
                      J_4 (decide (sum > whole)) h_19))
            (fun J_2 =>
              if (t52 == 0) = true then
                JoinP (fun (t80 : Bool) (h_20 : Heap) =>
                  if t80 = true then
                    R (.bool false) h_20
                  else
                    J_2 h_20)
                (fun J_5 =>
                  ∃ (t59 : Int), hcell h_11 ⟨b, 2, none⟩ = some (.int .i64 t59) ∧
                  CallsH Try.prog F.quota_Purse_Used #[.pointer t18_0, .int .i64 (IntKind.wrap .i64 (1 + (Int.tmod i 5)))] h_11 fun v_8 h_21 =>
                  ∃ (t56 : Int), v_8 = .int .i64 t56 ∧
                  hcell h_21 ⟨b, 2, none⟩ = some (.int .i64 t59) ∧
                  if (t56 != (IntKind.wrap .i64 (t47 + t59))) = true then
                    J_5 true h_21
                  else
                    ∃ (t64 : Bool), hcell h_21 ⟨b, 0, none⟩ = some (.bool t64) ∧
                    if t64 = true then
                      ∃ (t69 : Int), hcell h_21 ⟨b, 2, none⟩ = some (.int .i64 t69) ∧
                      CallsH Try.prog F.quota_Purse_Give #[.pointer t18_0, .int .i64 (IntKind.wrap .i64 (1 + (Int.tmod i 5))), .int .i64 t69] h_21 fun v_9 h_22 =>
                      ∃ (t70 : Int), v_9 = .int .i64 t70 ∧
                      hcell h_22 ⟨b, 0, none⟩ = some (.bool t64) ∧
                      hcell h_22 ⟨b, 2, none⟩ = some (.int .i64 t59) ∧
                      if (t70 != 0) = true then
                        J_5 true h_22
                      else
                        CallsH Try.prog F.quota_Purse_Used #[.pointer t18_0, .int .i64 (IntKind.wrap .i64 (1 + (Int.tmod i 5)))] h_22 fun v_10 h_23 =>
                        ∃ (t75 : Int), v_10 = .int .i64 t75 ∧
                        hcell h_23 ⟨b, 0, none⟩ = some (.bool t64) ∧
                        hcell h_23 ⟨b, 2, none⟩ = some (.int .i64 t59) ∧
                        J_5 (t75 != t47) h_23
                    else
                      J_5 false h_21)
              else
                CallsH Try.prog F.quota_Purse_Used #[.pointer t18_0, .int .i64 (IntKind.wrap .i64 (1 + (Int.tmod i 5)))] h_11 fun v_11 h_24 =>
                ∃ (t83 : Int), v_11 = .int .i64 t83 ∧
                if (t83 != t47) = true then
                  R (.bool false) h_24
                else
                  J_2 h_24)
          else
            CallsH Try.prog F.law25_alive #[] h_5 fun v_12 h_25 =>
            ∃ (t115 : Bool), v_12 = .bool t115 ∧
            R (.bool t115) h_25)
        (fun J_1 =>
          if (decide (i < ((ops_l : Nat) : Int))) = true then
            J_1 (decide (i < 100)) h_4
          else
            J_1 false h_4))
  (fun J =>
    if (t18_1 != 0) = true then
      J true h_1
    else
      J t18_0.isNone h_1)
theorem law25_QuotaSums.den_eq (whole : Int) (share : Int) (ops_p : Option Addr) (ops_l ops_c : Nat) (h : Heap) (R : Value → Heap → Prop) : law25_QuotaSums.vc whole share ops_p ops_l ops_c h R = den Try.prog Try.f4.ntmps (.seq .leaf (.seq .leaf (.seq (.seq (.join [(26, .one (.bool))] .leaf) (.cond (.seq .leaf .leaf) .leaf)) (.seq (.seq .leaf (.block (.loop [(9, .one (.int .i64))] (.seq (.seq (.join [(35, .one (.bool))] .leaf) (.cond .leaf .leaf)) (.seq (.block (.seq .leaf (.seq .leaf (.seq .leaf (.seq (.seq .leaf (.join [] (.cond (.seq (.join [(80, .one (.bool))] (.plan [0, 1, 3, 4, 5, 6, 2, 7, 8, 9, 10, 11, 12, 13, 14, 15, 16, 17, 18, 19, 20, 22, 21, 23, 24, 25, 26])) (.cond (.seq .leaf .leaf) .leaf)) (.seq .leaf (.cond (.seq .leaf .leaf) .leaf))))) (.seq .leaf (.seq (.seq .leaf (.block (.loop [(13, .one (.int .i64)), (14, .one (.int .i64))] (.seq (.seq .leaf (.cond .leaf .leaf)) (.seq (.block (.seq (.seq (.join [(100, .one (.bool))] .leaf) (.cond (.seq .leaf .leaf) .leaf)) .leaf)) .leaf))))) (.seq (.join [(114, .one (.bool))] .leaf) (.cond (.seq .leaf .leaf) .leaf))))))))) .leaf))))) (.seq .leaf .leaf))))) (bodyOf Try.f4) (retK Try.prog Try.f4.results R) (argEnv [.int .i64 whole, .int .i64 share, .slice ops_p ops_l ops_c]) h := by kernel_rfl
theorem law25_QuotaSums.walk {whole : Int} {share : Int} {ops_p : Option Addr} {ops_l ops_c : Nat} {h : Heap} {R : Value → Heap → Prop} (hv : law25_QuotaSums.vc whole share ops_p ops_l ops_c h R) : CallsH Try.prog F.law25_QuotaSums #[.int .i64 whole, .int .i64 share, .slice ops_p ops_l ops_c] h R :=
  callsH_of_body _ Try.func4 rfl rfl (Eq.mp (law25_QuotaSums.den_eq whole share ops_p ops_l ops_c h R) hv)

def law25_QuotaLives.vc (whole : Int) (share : Int) (ops_p : Option Addr) (ops_l ops_c : Nat) (owner : Int) (n : Int) (h : Heap) (R : Value → Heap → Prop) : Prop :=
  CallsH Try.prog F.quota_New #[.int .i64 whole, .int .i64 share] h fun v h_1 =>
  ∃ (t23_0 : Option Addr), ∃ (t23_1 : Int), v = .tuple #[.pointer t23_0, .int .i64 t23_1] ∧
  JoinP (fun (t40 : Bool) (h_2 : Heap) =>
    if t40 = true then
      CallsH Try.prog F.law25_alive #[] h_2 fun v_1 h_3 =>
      ∃ (t41 : Bool), v_1 = .bool t41 ∧
      if t41 = true then
        if t23_0.isNone = true then
          R (.bool (t23_1 == 1)) h_3
        else
          R (.bool false) h_3
      else
        R (.bool false) h_3
    else
      JoinP (fun (t55 : Bool) (h_4 : Heap) =>
        if t55 = true then
          R (.bool false) h_4
        else
          NewP h_4 (.cells #[.int .i64 whole, .int .i64 share, .slice none 0 0] T.ref25_Purse) fun b h_5 =>
          ∃ (I : Int → Heap → Prop) (mu : Int → Heap → Nat), I 0 h_5 ∧ ∀ (i : Int) (h_6 : Heap), I i h_6 →
            JoinP (fun (t67 : Bool) (h_7 : Heap) =>
              if t67 = true then
                (0 ≤ i ∧ i < ((ops_l : Nat) : Int)) ∧
                onSome ops_p fun a =>
                ∃ (t73_0 : Bool), hcell h_7 (a.add (Int.toNat i * 3)) = some (.bool t73_0) ∧ ∃ (t73_1 : Int), hcell h_7 ((a.add (Int.toNat i * 3)).add 1) = some (.int .i64 t73_1) ∧ ∃ (t73_2 : Int), hcell h_7 ((a.add (Int.toNat i * 3)).add 2) = some (.int .i64 t73_2) ∧ 
                NewP h_7 (.cells #[.bool false, .int .i64 0, .int .i64 0] T.law25_Op) fun b_1 h_8 =>
                StoreP h_8 ⟨b_1, 0, none⟩ (.bool t73_0) fun h_9 =>
                StoreP h_9 ⟨b_1, 1, none⟩ (.int .i64 t73_1) fun h_10 =>
                StoreP h_10 ⟨b_1, 2, none⟩ (.int .i64 t73_2) fun h_11 =>
                ∃ (t75 : Bool), hcell h_11 ⟨b_1, 0, none⟩ = some (.bool t75) ∧
                JoinP (fun (fine : Bool) (h_12 : Heap) =>
                  ∃ (t107_p : Option Addr) (t107_l t107_c : Nat), hcell h_12 ⟨b, 2, none⟩ = some (.slice t107_p t107_l t107_c) ∧
                  NewP h_12 (.cells #[.int .i64 whole, .int .i64 share, .slice t107_p t107_l t107_c] T.ref25_Purse) fun b_2 h_13 =>
                  JoinP (fun (t146 : Bool) (h_14 : Heap) =>
                    if t146 = true then
                      R (.bool false) h_14
                    else
                      (I (IntKind.wrap .i64 (i + 1)) h_14 ∧ mu (IntKind.wrap .i64 (i + 1)) h_14 < mu i h_6))
                  (fun J_4 =>
                    if (!fine) = true then
                      J_4 true h_13
                    else
                      CallsH Try.prog F.quota_Purse_All #[.pointer t23_0] h_13 fun v_2 h_15 =>
                      ∃ (t114 : Int), v_2 = .int .i64 t114 ∧
                      CallsH Try.prog F.ref25_Purse_Used #[.pointer (some ⟨b, 0, none⟩), .int .i64 0] h_15 fun v_3 h_16 =>
                      ∃ (t116 : Int), v_3 = .int .i64 t116 ∧
                      if (t114 != t116) = true then
                        J_4 true h_16
                      else
                        ∃ (t121 : Int), hcell h_16 ⟨b_1, 1, none⟩ = some (.int .i64 t121) ∧
                        if (t121 != 0) = true then
                          ∃ (t126 : Int), hcell h_16 ⟨b_1, 1, none⟩ = some (.int .i64 t126) ∧
                          ∃ (t130 : Int), hcell h_16 ⟨b_1, 1, none⟩ = some (.int .i64 t130) ∧
                          CallsH Try.prog F.quota_Purse_Used #[.pointer t23_0, .int .i64 t126] h_16 fun v_4 h_17 =>
                          ∃ (t127 : Int), v_4 = .int .i64 t127 ∧
                          hcell h_17 ⟨b_1, 1, none⟩ = some (.int .i64 t130) ∧
                          hcell h_17 ⟨b_1, 1, none⟩ = some (.int .i64 t121) ∧
                          CallsH Try.prog F.ref25_Purse_Used #[.pointer (some ⟨b, 0, none⟩), .int .i64 t130] h_17 fun v_5 h_18 =>
                          ∃ (t131 : Int), v_5 = .int .i64 t131 ∧
                          hcell h_18 ⟨b_1, 1, none⟩ = some (.int .i64 t121) ∧
                          if (t127 != t131) = true then
                            J_4 true h_18
                          else
                            CallsH Try.prog F.quota_Purse_Fits #[.pointer t23_0, .int .i64 owner, .int .i64 n] h_18 fun v_6 h_19 =>
                            ∃ (t139 : Bool), v_6 = .bool t139 ∧
                            hcell h_19 ⟨b_1, 1, none⟩ = some (.int .i64 t121) ∧
                            CallsH Try.prog F.ref25_Purse_Take #[.pointer (some ⟨b_2, 0, none⟩), .int .i64 owner, .int .i64 n] h_19 fun v_7 h_20 =>
                            ∃ (t143 : Int), v_7 = .int .i64 t143 ∧
                            hcell h_20 ⟨b_1, 1, none⟩ = some (.int .i64 t121) ∧
                            J_4 (!(t139 == (t143 == 0))) h_20
                        else
                          CallsH Try.prog F.quota_Purse_Fits #[.pointer t23_0, .int .i64 owner, .int .i64 n] h_16 fun v_8 h_21 =>
                          ∃ (t139_1 : Bool), v_8 = .bool t139_1 ∧
                          hcell h_21 ⟨b_1, 1, none⟩ = some (.int .i64 t121) ∧
                          CallsH Try.prog F.ref25_Purse_Take #[.pointer (some ⟨b_2, 0, none⟩), .int .i64 owner, .int .i64 n] h_21 fun v_9 h_22 =>
                          ∃ (t143_1 : Int), v_9 = .int .i64 t143_1 ∧
                          hcell h_22 ⟨b_1, 1, none⟩ = some (.int .i64 t121) ∧
                          J_4 (!(t139_1 == (t143_1 == 0))) h_22))
                (fun J_3 =>
                  if t75 = true then
                    ∃ (t78 : Int), hcell h_11 ⟨b_1, 1, none⟩ = some (.int .i64 t78) ∧
                    ∃ (t80 : Int), hcell h_11 ⟨b_1, 2, none⟩ = some (.int .i64 t80) ∧
                    ∃ (t84 : Int), hcell h_11 ⟨b_1, 1, none⟩ = some (.int .i64 t84) ∧
                    ∃ (t86 : Int), hcell h_11 ⟨b_1, 2, none⟩ = some (.int .i64 t86) ∧
                    CallsH Try.prog F.quota_Purse_Give #[.pointer t23_0, .int .i64 t78, .int .i64 t80] h_11 fun v_10 h_23 =>
                    ∃ (t81 : Int), v_10 = .int .i64 t81 ∧
                    hcell h_23 ⟨b_1, 2, none⟩ = some (.int .i64 t86) ∧
                    hcell h_23 ⟨b_1, 1, none⟩ = some (.int .i64 t84) ∧
                    CallsH Try.prog F.ref25_Purse_Give #[.pointer (some ⟨b, 0, none⟩), .int .i64 t84, .int .i64 t86] h_23 fun v_11 h_24 =>
                    ∃ (t87 : Int), v_11 = .int .i64 t87 ∧
                    J_3 (t81 == t87) h_24
                  else
                    ∃ (t91 : Int), hcell h_11 ⟨b_1, 1, none⟩ = some (.int .i64 t91) ∧
                    ∃ (t93 : Int), hcell h_11 ⟨b_1, 2, none⟩ = some (.int .i64 t93) ∧
                    ∃ (t97 : Int), hcell h_11 ⟨b_1, 1, none⟩ = some (.int .i64 t97) ∧
                    ∃ (t99 : Int), hcell h_11 ⟨b_1, 2, none⟩ = some (.int .i64 t99) ∧
                    CallsH Try.prog F.quota_Purse_Take #[.pointer t23_0, .int .i64 t91, .int .i64 t93] h_11 fun v_12 h_25 =>
                    ∃ (t94 : Int), v_12 = .int .i64 t94 ∧
                    hcell h_25 ⟨b_1, 2, none⟩ = some (.int .i64 t99) ∧
                    hcell h_25 ⟨b_1, 1, none⟩ = some (.int .i64 t97) ∧
                    CallsH Try.prog F.ref25_Purse_Take #[.pointer (some ⟨b, 0, none⟩), .int .i64 t97, .int .i64 t99] h_25 fun v_13 h_26 =>
                    ∃ (t100 : Int), v_13 = .int .i64 t100 ∧
                    J_3 (t94 == t100) h_26)
              else
                NewP h_7 (.cells #[.int .i64 0, .int .i64 0, .map none, .int .i64 0] T.quota_Purse) fun b_3 h_27 =>
                CallsH Try.prog F.law25_alive #[] h_27 fun v_14 h_28 =>
                ∃ (t147 : Bool), v_14 = .bool t147 ∧
                if t147 = true then
                  CallsH Try.prog F.quota_Purse_Take #[.pointer none, .int .i64 1, .int .i64 1] h_28 fun v_15 h_29 =>
                  ∃ (t150 : Int), v_15 = .int .i64 t150 ∧
                  if (t150 == 6) = true then
                    CallsH Try.prog F.quota_Purse_Take #[.pointer (some ⟨b_3, 0, none⟩), .int .i64 1, .int .i64 1] h_29 fun v_16 h_30 =>
                    ∃ (t154 : Int), v_16 = .int .i64 t154 ∧
                    if (t154 == 6) = true then
                      CallsH Try.prog F.quota_Purse_Give #[.pointer none, .int .i64 1, .int .i64 1] h_30 fun v_17 h_31 =>
                      ∃ (t159 : Int), v_17 = .int .i64 t159 ∧
                      if (t159 == 6) = true then
                        CallsH Try.prog F.quota_Purse_Give #[.pointer (some ⟨b_3, 0, none⟩), .int .i64 1, .int .i64 0] h_31 fun v_18 h_32 =>
                        ∃ (t163 : Int), v_18 = .int .i64 t163 ∧
                        if (t163 == 6) = true then
                          CallsH Try.prog F.quota_Purse_Used #[.pointer none, .int .i64 1] h_32 fun v_19 h_33 =>
                          ∃ (t168 : Int), v_19 = .int .i64 t168 ∧
                          CallsH Try.prog F.quota_Purse_All #[.pointer (some ⟨b_3, 0, none⟩)] h_33 fun v_20 h_34 =>
                          ∃ (t169 : Int), v_20 = .int .i64 t169 ∧
                          if ((IntKind.wrap .i64 (t168 + t169)) == 0) = true then
                            CallsH Try.prog F.quota_Purse_Fits #[.pointer none, .int .i64 1, .int .i64 0] h_34 fun v_21 h_35 =>
                            ∃ (t175 : Bool), v_21 = .bool t175 ∧
                            if (!t175) = true then
                              CallsH Try.prog F.quota_Purse_Fits #[.pointer (some ⟨b_3, 0, none⟩), .int .i64 1, .int .i64 0] h_35 fun v_22 h_36 =>
                              ∃ (t179 : Bool), v_22 = .bool t179 ∧
                              R (.bool (!t179)) h_36
                            else
                              R (.bool false) h_35
                          else
                            R (.bool false) h_34
                        else
                          R (.bool false) h_32
                      else
                        R (.bool false) h_31
                    else
                      R (.bool false) h_30
                  else
                    R (.bool false) h_29
                else
                  R (.bool false) h_28)
            (fun J_2 =>
              if (decide (i < ((ops_l : Nat) : Int))) = true then
                J_2 (decide (i < 100)) h_6
              else
                J_2 false h_6))
      (fun J_1 =>
        if (t23_1 != 0) = true then
          J_1 true h_2
        else
          J_1 t23_0.isNone h_2))
  (fun J =>
    if (decide (whole < 1)) = true then
      J true h_1
    else
      if (decide (whole > 1048576)) = true then
        J true h_1
      else
        if (decide (share < 1)) = true then
          J true h_1
        else
          J (decide (share > whole)) h_1)
theorem law25_QuotaLives.den_eq (whole : Int) (share : Int) (ops_p : Option Addr) (ops_l ops_c : Nat) (owner : Int) (n : Int) (h : Heap) (R : Value → Heap → Prop) : law25_QuotaLives.vc whole share ops_p ops_l ops_c owner n h R = den Try.prog Try.f3.ntmps (.seq .leaf (.seq .leaf (.seq (.seq (.join [(40, .one (.bool))] .leaf) (.cond (.seq .leaf .leaf) .leaf)) (.seq (.seq (.join [(55, .one (.bool))] .leaf) (.cond (.seq .leaf .leaf) .leaf)) (.seq .leaf (.seq (.seq .leaf (.block (.loop [(14, .one (.int .i64))] (.seq (.seq (.join [(67, .one (.bool))] .leaf) (.cond .leaf .leaf)) (.seq (.block (.seq .leaf (.seq .leaf (.seq (.seq .leaf (.join [(16, .one (.bool))] (.cond (.plan [0, 1, 2, 3, 4, 6, 7, 8, 9, 10, 5, 11, 12, 13]) (.plan [0, 1, 2, 3, 4, 6, 7, 8, 9, 10, 5, 11, 12, 13])))) (.seq .leaf (.seq (.join [(146, .one (.bool))] (.plan [0, 1, 2, 3, 5, 4, 6, 7, 8, 9, 10, 11, 12, 13, 14, 15, 16, 18, 19, 20, 17, 21, 22, 23, 24, 25, 26, 27, 28, 30, 31, 32, 29, 33, 34, 35, 36])) (.cond (.seq .leaf .leaf) .leaf))))))) .leaf))))) (.seq .leaf (.seq .leaf (.seq .leaf .leaf))))))))) (bodyOf Try.f3) (retK Try.prog Try.f3.results R) (argEnv [.int .i64 whole, .int .i64 share, .slice ops_p ops_l ops_c, .int .i64 owner, .int .i64 n]) h := by kernel_rfl
theorem law25_QuotaLives.walk {whole : Int} {share : Int} {ops_p : Option Addr} {ops_l ops_c : Nat} {owner : Int} {n : Int} {h : Heap} {R : Value → Heap → Prop} (hv : law25_QuotaLives.vc whole share ops_p ops_l ops_c owner n h R) : CallsH Try.prog F.law25_QuotaLives #[.int .i64 whole, .int .i64 share, .slice ops_p ops_l ops_c, .int .i64 owner, .int .i64 n] h R :=
  callsH_of_body _ Try.func3 rfl rfl (Eq.mp (law25_QuotaLives.den_eq whole share ops_p ops_l ops_c owner n h R) hv)

end Go.Proofs.Ytjjmbohnchngcaa
