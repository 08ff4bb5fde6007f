/-
  Printed by a program of this work (vc.py): the verification conditions of functions, and that each is enough for the call. No condition.
-/
import Derived.Test.YtgccegnmggjkjaaDoorNames
set_option maxRecDepth 100000
set_option maxHeartbeats 4000000
namespace Go.Proofs.YtgccegnmggjkjaaDoor
open Go.Den
def internal_strconv_FormatUint.vc (i : Int) (base : Int) (h : Heap) (R : Value → Heap → Prop) : Prop :=
  if (base == 10) = true then
    if (decide (i < 100)) = true then
      CallsH Tryd.prog F.internal_strconv_small #[.int .i64 (IntKind.wrap .i64 i)] h fun v h_1 =>
      ∃ (t15 : ByteArray), v = .string t15 ∧
      R (.string t15) h_1
    else
      NewP h (.cells #[.int .u8 0, .int .u8 0, .int .u8 0, .int .u8 0, .int .u8 0, .int .u8 0, .int .u8 0, .int .u8 0, .int .u8 0, .int .u8 0, .int .u8 0, .int .u8 0, .int .u8 0, .int .u8 0, .int .u8 0, .int .u8 0, .int .u8 0, .int .u8 0, .int .u8 0, .int .u8 0, .int .u8 0, .int .u8 0, .int .u8 0, .int .u8 0] T.a24_uint8) fun b h_2 =>
      CallsH Tryd.prog F.internal_strconv_numDigits #[.int .u64 i] h_2 fun v_1 h_3 =>
      ∃ (t17 : Int), v_1 = .int .i64 t17 ∧
      ((0 : Int) ≤ t17 ∧ t17 ≤ ((24 : Nat) : Int)) ∧ 
      CallsH Tryd.prog F.internal_strconv_formatBase10 #[.slice (slBase (some ⟨b, 0, none⟩) 24 0 1) ((Int.toNat t17) - 0) (24 - 0), .int .u64 i] h_3 fun v_2 h_4 =>
      v_2 = .tuple #[] ∧
      ((0 : Int) ≤ t17 ∧ t17 ≤ ((24 : Nat) : Int)) ∧ 
      ∃ (t24 : ByteArray), ConvV Tryd.prog T.s_uint8 T.string (.slice (slBase (some ⟨b, 0, none⟩) 24 0 1) ((Int.toNat t17) - 0) (24 - 0)) h_4 t24 ∧
      R (.string t24) h_4
  else
    CallsH Tryd.prog F.internal_strconv_formatBits #[.slice none 0 0, .int .u64 i, .int .i64 base, .bool false, .bool false] h fun v_3 h_5 =>
    ∃ (t28_0_p : Option Addr) (t28_0_l t28_0_c : Nat), ∃ (t28_1 : ByteArray), v_3 = .tuple #[.slice t28_0_p t28_0_l t28_0_c, .string t28_1] ∧
    R (.string t28_1) h_5
theorem internal_strconv_FormatUint.den_eq (i : Int) (base : Int) (h : Heap) (R : Value → Heap → Prop) : internal_strconv_FormatUint.vc i base h R = den Tryd.prog Tryd.f63.ntmps (.seq .leaf (.seq (.seq .leaf (.cond (.seq (.seq .leaf (.cond (.seq .leaf .leaf) .leaf)) (.seq .leaf (.seq .leaf (.seq .leaf (.seq .leaf .leaf))))) .leaf)) (.seq .leaf (.seq .leaf .leaf)))) none (bodyOf Tryd.f63) (retK Tryd.prog Tryd.f63.results R) (argEnv [.int .u64 i, .int .i64 base]) h := by kernel_rfl
theorem internal_strconv_FormatUint.walk {i : Int} {base : Int} {h : Heap} {R : Value → Heap → Prop} (hv : internal_strconv_FormatUint.vc i base h R) : CallsH Tryd.prog F.internal_strconv_FormatUint #[.int .u64 i, .int .i64 base] h R :=
  callsH_of_body _ Tryd.func63 rfl rfl (Eq.mp (internal_strconv_FormatUint.den_eq i base h R) hv)

def strconv_FormatUint.vc (i : Int) (base : Int) (h : Heap) (R : Value → Heap → Prop) : Prop :=
  CallsH Tryd.prog F.internal_strconv_FormatUint #[.int .u64 i, .int .i64 base] h fun v h_1 =>
  ∃ (t7 : ByteArray), v = .string t7 ∧
  R (.string t7) h_1
theorem strconv_FormatUint.den_eq (i : Int) (base : Int) (h : Heap) (R : Value → Heap → Prop) : strconv_FormatUint.vc i base h R = den Tryd.prog Tryd.f49.ntmps (.seq .leaf (.seq .leaf .leaf)) none (bodyOf Tryd.f49) (retK Tryd.prog Tryd.f49.results R) (argEnv [.int .u64 i, .int .i64 base]) h := by kernel_rfl
theorem strconv_FormatUint.walk {i : Int} {base : Int} {h : Heap} {R : Value → Heap → Prop} (hv : strconv_FormatUint.vc i base h R) : CallsH Tryd.prog F.strconv_FormatUint #[.int .u64 i, .int .i64 base] h R :=
  callsH_of_body _ Tryd.func49 rfl rfl (Eq.mp (strconv_FormatUint.den_eq i base h R) hv)

end Go.Proofs.YtgccegnmggjkjaaDoor
