/-
  Printed by a program of this work (vc.py): the verification conditions of functions, and that each is enough for the call. No condition.
-/
import Derived.Test.YtgccegnmggjkjaaDoorNames
set_option maxRecDepth 100000
set_option maxHeartbeats 4000000
namespace Go.Proofs.YtgccegnmggjkjaaDoor
open Go.Den
def law19_Same.vc (a_p : Option Addr) (a_l a_c : Nat) (b_p : Option Addr) (b_l b_c : Nat) (h : Heap) (R : Value → Heap → Prop) : Prop :=
  if (((a_l : Nat) : Int) != ((b_l : Nat) : Int)) = true then
    R (.bool false) h
  else
    ∃ (I : Int → Heap → Prop) (mu : Int → Heap → Nat), I 0 h ∧ ∀ (i : Int) (h_1 : Heap), I i h_1 →
      if (decide (i < ((a_l : Nat) : Int))) = true then
        ((0 : Int) ≤ i ∧ i < ((a_l : Nat) : Int)) ∧
        onSome a_p fun a =>
        ∃ (t20_p : Option Addr) (t20_l t20_c : Nat), hcell h_1 (a.add (Int.toNat i * 1)) = some (.slice t20_p t20_l t20_c) ∧
        ∃ (t21 : ByteArray), ConvV Tryd.prog T.s_uint8 T.string (.slice t20_p t20_l t20_c) h_1 t21 ∧
        ((0 : Int) ≤ i ∧ i < ((b_l : Nat) : Int)) ∧
        onSome b_p fun a_1 =>
        ∃ (t25_p : Option Addr) (t25_l t25_c : Nat), hcell h_1 (a_1.add (Int.toNat i * 1)) = some (.slice t25_p t25_l t25_c) ∧
        ∃ (t26 : ByteArray), ConvV Tryd.prog T.s_uint8 T.string (.slice t25_p t25_l t25_c) h_1 t26 ∧
        if (!(t21.toList == t26.toList)) = true then
          R (.bool false) h_1
        else
          (I (IntKind.wrap .i64 (i + 1)) h_1 ∧ mu (IntKind.wrap .i64 (i + 1)) h_1 < mu i h_1)
      else
        R (.bool true) h_1
theorem law19_Same.den_eq (a_p : Option Addr) (a_l a_c : Nat) (b_p : Option Addr) (b_l b_c : Nat) (h : Heap) (R : Value → Heap → Prop) : law19_Same.vc a_p a_l a_c b_p b_l b_c h R = den Tryd.prog Tryd.f18.ntmps (.seq .leaf (.seq (.seq .leaf (.cond (.seq .leaf .leaf) .leaf)) (.seq (.seq .leaf (.block (.loop [(5, .one (.int .i64))] (.seq (.seq .leaf (.cond .leaf .leaf)) (.seq (.block (.seq (.plan (.op 0 (.op 1 (.op 2 (.op 3 (.op 4 (.op 5 (.op 6 (.op 7 (.op 8 (.op 9 (.op 10 .done)))))))))))) (.cond (.seq .leaf .leaf) .leaf))) .leaf))))) (.seq .leaf .leaf)))) none (bodyOf Tryd.f18) (retK Tryd.prog Tryd.f18.results R) (argEnv [.slice a_p a_l a_c, .slice b_p b_l b_c]) h := by kernel_rfl
theorem law19_Same.walk {a_p : Option Addr} {a_l a_c : Nat} {b_p : Option Addr} {b_l b_c : Nat} {h : Heap} {R : Value → Heap → Prop} (hv : law19_Same.vc a_p a_l a_c b_p b_l b_c h R) : CallsH Tryd.prog F.law19_Same #[.slice a_p a_l a_c, .slice b_p b_l b_c] h R :=
  callsH_of_body _ Tryd.func18 rfl rfl (Eq.mp (law19_Same.den_eq a_p a_l a_c b_p b_l b_c h R) hv)

end Go.Proofs.YtgccegnmggjkjaaDoor
