/-
  Printed by a program of this work (vc.py): the verification conditions of functions, and that each is enough for the call. No condition.
-/
import Derived.Test.YtgccegnmggjkjaaDoorNames
set_option maxRecDepth 100000
set_option maxHeartbeats 4000000
namespace Go.Proofs.YtgccegnmggjkjaaDoor
open Go.Den
def ref15_Num.vc (n : Int) (h : Heap) (R : Value → Heap → Prop) : Prop :=
  ∃ (I : Int → Option Addr → Nat → Nat → Heap → Prop) (mu : Int → Option Addr → Nat → Nat → Heap → Nat), I n none 0 0 h ∧ ∀ (n_1 : Int) (out_p : Option Addr) (out_l out_c : Nat) (h_1 : Heap), I n_1 out_p out_l out_c h_1 →
    if (decide (n_1 > 127)) = true then
      NewP h_1 (.cells #[.int .u8 (IntKind.wrap .u8 (IntKind.wrap .u64 (128 + (Int.tmod n_1 128))))] T.uint8) fun b h_2 =>
      denSem Tryd.prog (Builtin.append_ #[T.s_uint8, T.s_uint8] T.s_uint8 #[.slice out_p out_l out_c, .slice (some ⟨b, 0, none⟩) 1 1]) h_2 fun v h_3 =>
      ∃ (t12_p : Option Addr) (t12_l t12_c : Nat), v = .slice t12_p t12_l t12_c ∧
      (I (IntKind.wrap .u64 (Int.tdiv n_1 128)) t12_p t12_l t12_c h_3 ∧ mu (IntKind.wrap .u64 (Int.tdiv n_1 128)) t12_p t12_l t12_c h_3 < mu n_1 out_p out_l out_c h_1)
    else
      NewP h_1 (.cells #[.int .u8 (IntKind.wrap .u8 n_1)] T.uint8) fun b_1 h_4 =>
      denSem Tryd.prog (Builtin.append_ #[T.s_uint8, T.s_uint8] T.s_uint8 #[.slice out_p out_l out_c, .slice (some ⟨b_1, 0, none⟩) 1 1]) h_4 fun v_1 h_5 =>
      ∃ (t19_p : Option Addr) (t19_l t19_c : Nat), v_1 = .slice t19_p t19_l t19_c ∧
      R (.slice t19_p t19_l t19_c) h_5
theorem ref15_Num.den_eq (n : Int) (h : Heap) (R : Value → Heap → Prop) : ref15_Num.vc n h R = den Tryd.prog Tryd.f32.ntmps (.seq .leaf (.seq .leaf (.seq (.block (.loop [(0, .one (.int .u64)), (3, .one (.slice))] (.seq (.seq .leaf (.cond .leaf .leaf)) (.block (.seq .leaf .leaf))))) (.seq .leaf .leaf)))) none (bodyOf Tryd.f32) (retK Tryd.prog Tryd.f32.results R) (argEnv [.int .u64 n]) h := by kernel_rfl
theorem ref15_Num.walk {n : Int} {h : Heap} {R : Value → Heap → Prop} (hv : ref15_Num.vc n h R) : CallsH Tryd.prog F.ref15_Num #[.int .u64 n] h R :=
  callsH_of_body _ Tryd.func32 rfl rfl (Eq.mp (ref15_Num.den_eq n h R) hv)

def ref15_Text.vc (b_p : Option Addr) (b_l b_c : Nat) (h : Heap) (R : Value → Heap → Prop) : Prop :=
  CallsH Tryd.prog F.ref15_Num #[.int .u64 (IntKind.wrap .u64 ((b_l : Nat) : Int))] h fun v h_1 =>
  ∃ (t6_p : Option Addr) (t6_l t6_c : Nat), v = .slice t6_p t6_l t6_c ∧
  denSem Tryd.prog (Builtin.append_ #[T.s_uint8, T.s_uint8] T.s_uint8 #[.slice t6_p t6_l t6_c, .slice b_p b_l b_c]) h_1 fun v_1 h_2 =>
  ∃ (t8_p : Option Addr) (t8_l t8_c : Nat), v_1 = .slice t8_p t8_l t8_c ∧
  R (.slice t8_p t8_l t8_c) h_2
theorem ref15_Text.den_eq (b_p : Option Addr) (b_l b_c : Nat) (h : Heap) (R : Value → Heap → Prop) : ref15_Text.vc b_p b_l b_c h R = den Tryd.prog Tryd.f30.ntmps (.seq .leaf (.seq .leaf .leaf)) none (bodyOf Tryd.f30) (retK Tryd.prog Tryd.f30.results R) (argEnv [.slice b_p b_l b_c]) h := by kernel_rfl
theorem ref15_Text.walk {b_p : Option Addr} {b_l b_c : Nat} {h : Heap} {R : Value → Heap → Prop} (hv : ref15_Text.vc b_p b_l b_c h R) : CallsH Tryd.prog F.ref15_Text #[.slice b_p b_l b_c] h R :=
  callsH_of_body _ Tryd.func30 rfl rfl (Eq.mp (ref15_Text.den_eq b_p b_l b_c h R) hv)

end Go.Proofs.YtgccegnmggjkjaaDoor
