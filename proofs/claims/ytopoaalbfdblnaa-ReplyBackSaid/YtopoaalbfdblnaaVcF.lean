/-
  Printed by a program of this work (vc.py): the verification conditions of functions, and that each is enough for the call. No condition.
-/
import Derived.Test.YtopoaalbfdblnaaNames
set_option maxRecDepth 100000
set_option maxHeartbeats 4000000
namespace Go.Proofs.Ytopoaalbfdblnaa
open Go.Den
def slices_ContainsFunc_s_int_int.within.vc (s_p : Option Addr) (s_l s_c : Nat) (h : Heap) (R : Value → Heap → Prop) : Prop :=
  CallsH Try.prog F.slices_IndexFunc_s_int_int #[.slice s_p s_l s_c, .func (.func F.reply_within_1) #[] #[]] h fun v h_1 =>
  ∃ (t7 : Int), v = .int .i64 t7 ∧
  R (.bool (decide (t7 ≥ 0))) h_1
theorem slices_ContainsFunc_s_int_int.within.den_eq (s_p : Option Addr) (s_l s_c : Nat) (h : Heap) (R : Value → Heap → Prop) : slices_ContainsFunc_s_int_int.within.vc s_p s_l s_c h R = den Try.prog Try.f39.ntmps (.seq .leaf (.seq .leaf .leaf)) none (bodyOf Try.f39) (retK Try.prog Try.f39.results R) (argEnv [.slice s_p s_l s_c, .func (.func F.reply_within_1) #[] #[]]) h := by kernel_rfl
theorem slices_ContainsFunc_s_int_int.within.walk {s_p : Option Addr} {s_l s_c : Nat} {h : Heap} {R : Value → Heap → Prop} (hv : slices_ContainsFunc_s_int_int.within.vc s_p s_l s_c h R) : CallsH Try.prog F.slices_ContainsFunc_s_int_int #[.slice s_p s_l s_c, .func (.func F.reply_within_1) #[] #[]] h R :=
  callsH_of_body _ Try.func39 rfl rfl (Eq.mp (slices_ContainsFunc_s_int_int.within.den_eq s_p s_l s_c h R) hv)

def slices_IndexFunc_s_int_int.within.vc (s_p : Option Addr) (s_l s_c : Nat) (h : Heap) (R : Value → Heap → Prop) : Prop :=
  ∃ (I : Int → Heap → Prop) (mu : Int → Heap → Nat), I 0 h ∧ ∀ (t8 : Int) (h_1 : Heap), I t8 h_1 →
    if (decide (t8 < ((s_l : Nat) : Int))) = true then
      ((0 : Int) ≤ t8 ∧ t8 < ((s_l : Nat) : Int)) ∧
      onSome s_p fun a =>
      ∃ (t15 : Int), hcell h_1 (a.add (Int.toNat t8 * 1)) = some (.int .i64 t15) ∧
      CallsH Try.prog F.reply_within_1 #[.int .i64 t15] h_1 fun v h_2 =>
      ∃ (t16 : Bool), v = .bool t16 ∧
      if t16 = true then
        R (.int .i64 t8) h_2
      else
        (I (IntKind.wrap .i64 (t8 + 1)) h_2 ∧ mu (IntKind.wrap .i64 (t8 + 1)) h_2 < mu t8 h_1)
    else
      R (.int .i64 (-1)) h_1
theorem slices_IndexFunc_s_int_int.within.den_eq (s_p : Option Addr) (s_l s_c : Nat) (h : Heap) (R : Value → Heap → Prop) : slices_IndexFunc_s_int_int.within.vc s_p s_l s_c h R = den Try.prog Try.f41.ntmps (.seq .leaf (.seq (.seq .leaf (.block (.loop [(8, .one (.int .i64))] (.seq .leaf (.seq (.cond .leaf .leaf) (.seq (.block (.seq .leaf (.seq .leaf (.cond (.seq .leaf .leaf) .leaf)))) .leaf)))))) (.seq .leaf .leaf))) none (bodyOf Try.f41) (retK Try.prog Try.f41.results R) (argEnv [.slice s_p s_l s_c, .func (.func F.reply_within_1) #[] #[]]) h := by kernel_rfl
theorem slices_IndexFunc_s_int_int.within.walk {s_p : Option Addr} {s_l s_c : Nat} {h : Heap} {R : Value → Heap → Prop} (hv : slices_IndexFunc_s_int_int.within.vc s_p s_l s_c h R) : CallsH Try.prog F.slices_IndexFunc_s_int_int #[.slice s_p s_l s_c, .func (.func F.reply_within_1) #[] #[]] h R :=
  callsH_of_body _ Try.func41 rfl rfl (Eq.mp (slices_IndexFunc_s_int_int.within.den_eq s_p s_l s_c h R) hv)

end Go.Proofs.Ytopoaalbfdblnaa
