/-
  Printed by a program of this work (vc.py): the verification conditions of functions, and that each is enough for the call. No condition.
-/
import Derived.Test.YtjjmbohnchngcaaNames
set_option maxRecDepth 100000
set_option maxHeartbeats 4000000
namespace Go.Proofs.Ytjjmbohnchngcaa
open Go.Den
def ref25_Purse_Used.vc (p : Nat) (owner : Int) (h : Heap) (R : Value → Heap → Prop) : Prop :=
  ∃ (I : Int → Int → Heap → Prop) (mu : Int → Int → Heap → Nat), I 0 0 h ∧ ∀ (n : Int) (i : Int) (h_1 : Heap), I n i h_1 →
    ∃ (t11_p : Option Addr) (t11_l t11_c : Nat), hcell h_1 ⟨p, 2, none⟩ = some (.slice t11_p t11_l t11_c) ∧
    if (decide (i < ((t11_l : Nat) : Int))) = true then
      JoinP (fun (n_1 : Int) (h_2 : Heap) =>
        (I n_1 (IntKind.wrap .i64 (i + 1)) h_2 ∧ mu n_1 (IntKind.wrap .i64 (i + 1)) h_2 < mu n i h_1))
      (fun J =>
        JoinP (fun (t29 : Bool) (h_3 : Heap) =>
          JoinP (fun (n_2 : Int) (h_4 : Heap) =>
            J n_2 h_4)
          (fun J_2 =>
            if t29 = true then
              ∃ (t34_p : Option Addr) (t34_l t34_c : Nat), hcell h_3 ⟨p, 2, none⟩ = some (.slice t34_p t34_l t34_c) ∧
              (0 ≤ i ∧ i < ((t34_l : Nat) : Int)) ∧
              onSome t34_p fun a =>
              ∃ (t38 : Int), hcell h_3 ((a.add (Int.toNat i * 2)).add 1) = some (.int .i64 t38) ∧
              J_2 (IntKind.wrap .i64 (n + t38)) h_3
            else
              J_2 n h_3))
        (fun J_1 =>
          if (owner == 0) = true then
            J_1 true h_1
          else
            ∃ (t22_p : Option Addr) (t22_l t22_c : Nat), hcell h_1 ⟨p, 2, none⟩ = some (.slice t22_p t22_l t22_c) ∧
            (0 ≤ i ∧ i < ((t22_l : Nat) : Int)) ∧
            onSome t22_p fun a_1 =>
            ∃ (t26 : Int), hcell h_1 (a_1.add (Int.toNat i * 2)) = some (.int .i64 t26) ∧
            J_1 (t26 == owner) h_1))
    else
      R (.int .i64 n) h_1
theorem ref25_Purse_Used.den_eq (p : Nat) (owner : Int) (h : Heap) (R : Value → Heap → Prop) : ref25_Purse_Used.vc p owner h R = den Try.prog Try.f13.ntmps (.seq .leaf (.seq .leaf (.seq (.seq .leaf (.block (.loop [(5, .one (.int .i64)), (6, .one (.int .i64))] (.seq (.seq .leaf (.cond .leaf .leaf)) (.seq (.join [(5, .one (.int .i64))] (.block (.seq (.join [(29, .one (.bool))] .leaf) (.join [(5, .one (.int .i64))] (.cond .leaf .leaf))))) .leaf))))) (.seq .leaf .leaf)))) (bodyOf Try.f13) (retK Try.prog Try.f13.results R) (argEnv [.pointer (some ⟨p, 0, none⟩), .int .i64 owner]) h := by kernel_rfl
theorem ref25_Purse_Used.walk {p : Nat} {owner : Int} {h : Heap} {R : Value → Heap → Prop} (hv : ref25_Purse_Used.vc p owner h R) : CallsH Try.prog F.ref25_Purse_Used #[.pointer (some ⟨p, 0, none⟩), .int .i64 owner] h R :=
  callsH_of_body _ Try.func13 rfl rfl (Eq.mp (ref25_Purse_Used.den_eq p owner h R) hv)

def ref25_Purse_Take.vc (p : Nat) (owner : Int) (n : Int) (h : Heap) (R : Value → Heap → Prop) : Prop :=
  JoinP (fun (t16 : Bool) (h_1 : Heap) =>
    if t16 = true then
      R (.int .i64 1) h_1
    else
      JoinP (fun (t37 : Bool) (h_2 : Heap) =>
        if t37 = true then
          R (.int .i64 15) h_2
        else
          ∃ (t42_p : Option Addr) (t42_l t42_c : Nat), hcell h_2 ⟨p, 2, none⟩ = some (.slice t42_p t42_l t42_c) ∧
          NewP h_2 (.cells #[.int .i64 owner, .int .i64 n] T.ref25_Deal) fun b h_3 =>
          denSem Try.prog (Builtin.append_ #[T.s_ref25_Deal, T.s_ref25_Deal] T.s_ref25_Deal #[.slice t42_p t42_l t42_c, .slice (some ⟨b, 0, none⟩) 1 1]) h_3 fun v h_4 =>
          ∃ (t47_p : Option Addr) (t47_l t47_c : Nat), v = .slice t47_p t47_l t47_c ∧
          StoreP h_4 ⟨p, 2, none⟩ (.slice t47_p t47_l t47_c) fun h_5 =>
          R (.int .i64 0) h_5)
      (fun J_1 =>
        ∃ (t21 : Int), hcell h_1 ⟨p, 1, none⟩ = some (.int .i64 t21) ∧
        CallsH Try.prog F.ref25_Purse_Used #[.pointer (some ⟨p, 0, none⟩), .int .i64 owner] h_1 fun v_1 h_6 =>
        ∃ (t24 : Int), v_1 = .int .i64 t24 ∧
        hcell h_6 ⟨p, 1, none⟩ = some (.int .i64 t21) ∧
        if (decide (n > (IntKind.wrap .i64 (t21 - t24)))) = true then
          J_1 true h_6
        else
          ∃ (t32 : Int), hcell h_6 ⟨p, 0, none⟩ = some (.int .i64 t32) ∧
          CallsH Try.prog F.ref25_Purse_Used #[.pointer (some ⟨p, 0, none⟩), .int .i64 0] h_6 fun v_2 h_7 =>
          ∃ (t34 : Int), v_2 = .int .i64 t34 ∧
          hcell h_7 ⟨p, 0, none⟩ = some (.int .i64 t32) ∧
          hcell h_7 ⟨p, 1, none⟩ = some (.int .i64 t21) ∧
          J_1 (decide (n > (IntKind.wrap .i64 (t32 - t34)))) h_7))
  (fun J =>
    if (decide (owner < 1)) = true then
      J true h
    else
      if (decide (owner > 1099511627776)) = true then
        J true h
      else
        J (decide (n < 0)) h)
theorem ref25_Purse_Take.den_eq (p : Nat) (owner : Int) (n : Int) (h : Heap) (R : Value → Heap → Prop) : ref25_Purse_Take.vc p owner n h R = den Try.prog Try.f11.ntmps (.seq .leaf (.seq (.seq (.join [(16, .one (.bool))] .leaf) (.cond (.seq .leaf .leaf) .leaf)) (.seq (.seq (.join [(37, .one (.bool))] (.plan [0, 1, 2, 3, 4, 5, 6, 7, 8, 9, 10, 11, 12, 13, 14, 15, 16, 17, 18, 19, 20])) (.cond (.seq .leaf .leaf) .leaf)) (.seq .leaf (.seq .leaf .leaf))))) (bodyOf Try.f11) (retK Try.prog Try.f11.results R) (argEnv [.pointer (some ⟨p, 0, none⟩), .int .i64 owner, .int .i64 n]) h := by kernel_rfl
theorem ref25_Purse_Take.walk {p : Nat} {owner : Int} {n : Int} {h : Heap} {R : Value → Heap → Prop} (hv : ref25_Purse_Take.vc p owner n h R) : CallsH Try.prog F.ref25_Purse_Take #[.pointer (some ⟨p, 0, none⟩), .int .i64 owner, .int .i64 n] h R :=
  callsH_of_body _ Try.func11 rfl rfl (Eq.mp (ref25_Purse_Take.den_eq p owner n h R) hv)

def ref25_Purse_Give.vc (p : Nat) (owner : Int) (n : Int) (h : Heap) (R : Value → Heap → Prop) : Prop :=
  JoinP (fun (t16 : Bool) (h_1 : Heap) =>
    if t16 = true then
      R (.int .i64 1) h_1
    else
      CallsH Try.prog F.ref25_Purse_Used #[.pointer (some ⟨p, 0, none⟩), .int .i64 owner] h_1 fun v h_2 =>
      ∃ (t20 : Int), v = .int .i64 t20 ∧
      if (decide (n > t20)) = true then
        R (.int .i64 7) h_2
      else
        ∃ (t26_p : Option Addr) (t26_l t26_c : Nat), hcell h_2 ⟨p, 2, none⟩ = some (.slice t26_p t26_l t26_c) ∧
        NewP h_2 (.cells #[.int .i64 owner, .int .i64 (IntKind.wrap .i64 (0 - n))] T.ref25_Deal) fun b h_3 =>
        denSem Try.prog (Builtin.append_ #[T.s_ref25_Deal, T.s_ref25_Deal] T.s_ref25_Deal #[.slice t26_p t26_l t26_c, .slice (some ⟨b, 0, none⟩) 1 1]) h_3 fun v_1 h_4 =>
        ∃ (t32_p : Option Addr) (t32_l t32_c : Nat), v_1 = .slice t32_p t32_l t32_c ∧
        StoreP h_4 ⟨p, 2, none⟩ (.slice t32_p t32_l t32_c) fun h_5 =>
        R (.int .i64 0) h_5)
  (fun J =>
    if (decide (owner < 1)) = true then
      J true h
    else
      if (decide (owner > 1099511627776)) = true then
        J true h
      else
        J (decide (n < 0)) h)
theorem ref25_Purse_Give.den_eq (p : Nat) (owner : Int) (n : Int) (h : Heap) (R : Value → Heap → Prop) : ref25_Purse_Give.vc p owner n h R = den Try.prog Try.f9.ntmps (.seq .leaf (.seq (.seq (.join [(16, .one (.bool))] .leaf) (.cond (.seq .leaf .leaf) .leaf)) (.seq (.seq .leaf (.cond (.seq .leaf .leaf) .leaf)) (.seq .leaf (.seq .leaf .leaf))))) (bodyOf Try.f9) (retK Try.prog Try.f9.results R) (argEnv [.pointer (some ⟨p, 0, none⟩), .int .i64 owner, .int .i64 n]) h := by kernel_rfl
theorem ref25_Purse_Give.walk {p : Nat} {owner : Int} {n : Int} {h : Heap} {R : Value → Heap → Prop} (hv : ref25_Purse_Give.vc p owner n h R) : CallsH Try.prog F.ref25_Purse_Give #[.pointer (some ⟨p, 0, none⟩), .int .i64 owner, .int .i64 n] h R :=
  callsH_of_body _ Try.func9 rfl rfl (Eq.mp (ref25_Purse_Give.den_eq p owner n h R) hv)

end Go.Proofs.Ytjjmbohnchngcaa
