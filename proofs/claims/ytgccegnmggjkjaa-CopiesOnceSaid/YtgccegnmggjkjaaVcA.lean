/-
  Printed by a program of this work (vc.py): the verification conditions of functions, and that each is enough for the call. No condition.
-/
import Derived.Test.YtgccegnmggjkjaaNames
set_option maxRecDepth 100000
set_option maxHeartbeats 4000000
namespace Go.Proofs.Ytgccegnmggjkjaa
open Go.Den
def slices_Clone_s_byte_byte.vc (s_p : Option Addr) (s_l s_c : Nat) (h : Heap) (R : Value → Heap → Prop) : Prop :=
  if s_p.isNone = true then
    R (.slice none 0 0) h
  else
    NewP h (.cells #[] T.uint8) fun b h_1 =>
    denSem Try.prog (Builtin.append_ #[T.s_uint8, T.s_uint8] T.s_uint8 #[.slice (some ⟨b, 0, none⟩) 0 0, .slice s_p s_l s_c]) h_1 fun v h_2 =>
    ∃ (t7_p : Option Addr) (t7_l t7_c : Nat), v = .slice t7_p t7_l t7_c ∧
    R (.slice t7_p t7_l t7_c) h_2
theorem slices_Clone_s_byte_byte.den_eq (s_p : Option Addr) (s_l s_c : Nat) (h : Heap) (R : Value → Heap → Prop) : slices_Clone_s_byte_byte.vc s_p s_l s_c h R = den Try.prog Try.f36.ntmps (.seq .leaf (.seq (.seq .leaf (.cond (.seq .leaf .leaf) .leaf)) (.seq .leaf .leaf))) none (bodyOf Try.f36) (retK Try.prog Try.f36.results R) (argEnv [.slice s_p s_l s_c]) h := by kernel_rfl
theorem slices_Clone_s_byte_byte.walk {s_p : Option Addr} {s_l s_c : Nat} {h : Heap} {R : Value → Heap → Prop} (hv : slices_Clone_s_byte_byte.vc s_p s_l s_c h R) : CallsH Try.prog F.slices_Clone_s_byte_byte #[.slice s_p s_l s_c] h R :=
  callsH_of_body _ Try.func36 rfl rfl (Eq.mp (slices_Clone_s_byte_byte.den_eq s_p s_l s_c h R) hv)

end Go.Proofs.Ytgccegnmggjkjaa
