/-
  Printed by a program of this work (vc.py): the verification conditions of functions, and that each is enough for the call. No condition.
-/
import Derived.Test.YtgccegnmggjkjaaDoorNames
set_option maxRecDepth 100000
set_option maxHeartbeats 4000000
namespace Go.Proofs.YtgccegnmggjkjaaDoor
open Go.Den
def math_bits_Len.vc (x : Int) (h : Heap) (R : Value → Heap → Prop) : Prop :=
  CallsH Tryd.prog F.math_bits_Len64 #[.int .u64 x] h fun v h_1 =>
  ∃ (t7 : Int), v = .int .i64 t7 ∧
  R (.int .i64 t7) h_1
theorem math_bits_Len.den_eq (x : Int) (h : Heap) (R : Value → Heap → Prop) : math_bits_Len.vc x h R = den Tryd.prog Tryd.f46.ntmps (.seq .leaf (.seq (.cond (.seq .leaf .leaf) .leaf) (.seq .leaf .leaf))) none (bodyOf Tryd.f46) (retK Tryd.prog Tryd.f46.results R) (argEnv [.int .u64 x]) h := by kernel_rfl
theorem math_bits_Len.walk {x : Int} {h : Heap} {R : Value → Heap → Prop} (hv : math_bits_Len.vc x h R) : CallsH Tryd.prog F.math_bits_Len #[.int .u64 x] h R :=
  callsH_of_body _ Tryd.func46 rfl rfl (Eq.mp (math_bits_Len.den_eq x h R) hv)

def math_bits_Len64.vc (x : Int) (h : Heap) (R : Value → Heap → Prop) : Prop :=
  JoinP (fun (x_1 : Int) (n : Int) (h_1 : Heap) =>
    JoinP (fun (x_2 : Int) (n_1 : Int) (h_2 : Heap) =>
      JoinP (fun (x_3 : Int) (n_2 : Int) (h_3 : Heap) =>
        ((0 : Int) ≤ IntKind.wrap .u8 x_3 ∧ IntKind.wrap .u8 x_3 < (((⟨#[0, 1, 2, 2, 3, 3, 3, 3, 4, 4, 4, 4, 4, 4, 4, 4, 5, 5, 5, 5, 5, 5, 5, 5, 5, 5, 5, 5, 5, 5, 5, 5, 6, 6, 6, 6, 6, 6, 6, 6, 6, 6, 6, 6, 6, 6, 6, 6, 6, 6, 6, 6, 6, 6, 6, 6, 6, 6, 6, 6, 6, 6, 6, 6, 7, 7, 7, 7, 7, 7, 7, 7, 7, 7, 7, 7, 7, 7, 7, 7, 7, 7, 7, 7, 7, 7, 7, 7, 7, 7, 7, 7, 7, 7, 7, 7, 7, 7, 7, 7, 7, 7, 7, 7, 7, 7, 7, 7, 7, 7, 7, 7, 7, 7, 7, 7, 7, 7, 7, 7, 7, 7, 7, 7, 7, 7, 7, 7, 8, 8, 8, 8, 8, 8, 8, 8, 8, 8, 8, 8, 8, 8, 8, 8, 8, 8, 8, 8, 8, 8, 8, 8, 8, 8, 8, 8, 8, 8, 8, 8, 8, 8, 8, 8, 8, 8, 8, 8, 8, 8, 8, 8, 8, 8, 8, 8, 8, 8, 8, 8, 8, 8, 8, 8, 8, 8, 8, 8, 8, 8, 8, 8, 8, 8, 8, 8, 8, 8, 8, 8, 8, 8, 8, 8, 8, 8, 8, 8, 8, 8, 8, 8, 8, 8, 8, 8, 8, 8, 8, 8, 8, 8, 8, 8, 8, 8, 8, 8, 8, 8, 8, 8, 8, 8, 8, 8, 8, 8, 8, 8, 8, 8, 8, 8, 8, 8, 8, 8, 8, 8, 8, 8, 8, 8, 8, 8]⟩ : ByteArray).size : Nat) : Int)) ∧
        R (.int .i64 (IntKind.wrap .i64 (n_2 + (IntKind.wrap .i64 ((((⟨#[0, 1, 2, 2, 3, 3, 3, 3, 4, 4, 4, 4, 4, 4, 4, 4, 5, 5, 5, 5, 5, 5, 5, 5, 5, 5, 5, 5, 5, 5, 5, 5, 6, 6, 6, 6, 6, 6, 6, 6, 6, 6, 6, 6, 6, 6, 6, 6, 6, 6, 6, 6, 6, 6, 6, 6, 6, 6, 6, 6, 6, 6, 6, 6, 7, 7, 7, 7, 7, 7, 7, 7, 7, 7, 7, 7, 7, 7, 7, 7, 7, 7, 7, 7, 7, 7, 7, 7, 7, 7, 7, 7, 7, 7, 7, 7, 7, 7, 7, 7, 7, 7, 7, 7, 7, 7, 7, 7, 7, 7, 7, 7, 7, 7, 7, 7, 7, 7, 7, 7, 7, 7, 7, 7, 7, 7, 7, 7, 8, 8, 8, 8, 8, 8, 8, 8, 8, 8, 8, 8, 8, 8, 8, 8, 8, 8, 8, 8, 8, 8, 8, 8, 8, 8, 8, 8, 8, 8, 8, 8, 8, 8, 8, 8, 8, 8, 8, 8, 8, 8, 8, 8, 8, 8, 8, 8, 8, 8, 8, 8, 8, 8, 8, 8, 8, 8, 8, 8, 8, 8, 8, 8, 8, 8, 8, 8, 8, 8, 8, 8, 8, 8, 8, 8, 8, 8, 8, 8, 8, 8, 8, 8, 8, 8, 8, 8, 8, 8, 8, 8, 8, 8, 8, 8, 8, 8, 8, 8, 8, 8, 8, 8, 8, 8, 8, 8, 8, 8, 8, 8, 8, 8, 8, 8, 8, 8, 8, 8, 8, 8, 8, 8, 8, 8, 8, 8]⟩ : ByteArray).data.toList.getD (Int.toNat (IntKind.wrap .u8 x_3)) 0).toNat : Nat) : Int))))) h_3)
      (fun J_2 =>
        if (decide (x_2 ≥ 256)) = true then
          J_2 (Int.fdiv x_2 (2 ^ min (Int.toNat 8) (IntKind.bits .u64))) (IntKind.wrap .i64 (n_1 + 8)) h_2
        else
          J_2 x_2 n_1 h_2))
    (fun J_1 =>
      if (decide (x_1 ≥ 65536)) = true then
        J_1 (Int.fdiv x_1 (2 ^ min (Int.toNat 16) (IntKind.bits .u64))) (IntKind.wrap .i64 (n + 16)) h_1
      else
        J_1 x_1 n h_1))
  (fun J =>
    if (decide (x ≥ 4294967296)) = true then
      J (Int.fdiv x (2 ^ min (Int.toNat 32) (IntKind.bits .u64))) 32 h
    else
      J x 0 h)
theorem math_bits_Len64.den_eq (x : Int) (h : Heap) (R : Value → Heap → Prop) : math_bits_Len64.vc x h R = den Tryd.prog Tryd.f62.ntmps (.seq .leaf (.seq (.seq .leaf (.join [(0, .one (.int .u64)), (2, .one (.int .i64))] (.cond (.seq .leaf .leaf) .leaf))) (.seq (.seq .leaf (.join [(0, .one (.int .u64)), (2, .one (.int .i64))] (.cond (.seq .leaf .leaf) .leaf))) (.seq (.seq .leaf (.join [(0, .one (.int .u64)), (2, .one (.int .i64))] (.cond (.seq .leaf .leaf) .leaf))) (.seq .leaf .leaf))))) none (bodyOf Tryd.f62) (retK Tryd.prog Tryd.f62.results R) (argEnv [.int .u64 x]) h := by kernel_rfl
theorem math_bits_Len64.walk {x : Int} {h : Heap} {R : Value → Heap → Prop} (hv : math_bits_Len64.vc x h R) : CallsH Tryd.prog F.math_bits_Len64 #[.int .u64 x] h R :=
  callsH_of_body _ Tryd.func62 rfl rfl (Eq.mp (math_bits_Len64.den_eq x h R) hv)

end Go.Proofs.YtgccegnmggjkjaaDoor
