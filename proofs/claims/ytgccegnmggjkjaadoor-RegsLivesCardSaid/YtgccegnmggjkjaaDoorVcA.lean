/-
  Printed by a program of this work (vc.py): the verification conditions of functions, and that each is enough for the call. No condition.
-/
import Derived.Test.YtgccegnmggjkjaaDoorNames
set_option maxRecDepth 100000
set_option maxHeartbeats 4000000
namespace Go.Proofs.YtgccegnmggjkjaaDoor
open Go.Den
def slices_Clone_s_byte_byte.vc (s_p : Option Addr) (s_l s_c : Nat) (h : Heap) (R : Value → Heap → Prop) : Prop :=
  if s_p.isNone = true then
    R (.slice none 0 0) h
  else
    NewP h (.cells #[] T.uint8) fun b h_1 =>
    denSem Tryd.prog (Builtin.append_ #[T.s_uint8, T.s_uint8] T.s_uint8 #[.slice (some ⟨b, 0, none⟩) 0 0, .slice s_p s_l s_c]) h_1 fun v h_2 =>
    ∃ (t7_p : Option Addr) (t7_l t7_c : Nat), v = .slice t7_p t7_l t7_c ∧
    R (.slice t7_p t7_l t7_c) h_2
theorem slices_Clone_s_byte_byte.den_eq (s_p : Option Addr) (s_l s_c : Nat) (h : Heap) (R : Value → Heap → Prop) : slices_Clone_s_byte_byte.vc s_p s_l s_c h R = den Tryd.prog Tryd.f52.ntmps (.seq .leaf (.seq (.seq .leaf (.cond (.seq .leaf .leaf) .leaf)) (.seq .leaf .leaf))) none (bodyOf Tryd.f52) (retK Tryd.prog Tryd.f52.results R) (argEnv [.slice s_p s_l s_c]) h := by kernel_rfl
theorem slices_Clone_s_byte_byte.walk {s_p : Option Addr} {s_l s_c : Nat} {h : Heap} {R : Value → Heap → Prop} (hv : slices_Clone_s_byte_byte.vc s_p s_l s_c h R) : CallsH Tryd.prog F.slices_Clone_s_byte_byte #[.slice s_p s_l s_c] h R :=
  callsH_of_body _ Tryd.func52 rfl rfl (Eq.mp (slices_Clone_s_byte_byte.den_eq s_p s_l s_c h R) hv)

def fields_New.vc  (h : Heap) (R : Value → Heap → Prop) : Prop :=
  NewP h (.cells #[.bool true, .slice none 0 0] T.fields_Writer) fun b h_1 =>
  R (.pointer (some ⟨b, 0, none⟩)) h_1
theorem fields_New.den_eq  (h : Heap) (R : Value → Heap → Prop) : fields_New.vc h R = den Tryd.prog Tryd.f40.ntmps (.seq .leaf (.seq .leaf .leaf)) none (bodyOf Tryd.f40) (retK Tryd.prog Tryd.f40.results R) (argEnv []) h := by kernel_rfl
theorem fields_New.walk  {h : Heap} {R : Value → Heap → Prop} (hv : fields_New.vc h R) : CallsH Tryd.prog F.fields_New #[] h R :=
  callsH_of_body _ Tryd.func40 rfl rfl (Eq.mp (fields_New.den_eq h R) hv)

def fields_Writer_Num.vc (w : Nat) (n : Int) (h : Heap) (R : Value → Heap → Prop) : Prop :=
  JoinP (fun (t13 : Bool) (h_1 : Heap) =>
    if t13 = true then
      R (.pointer (some ⟨w, 0, none⟩)) h_1
    else
      ∃ (I : Int → Heap → Prop) (mu : Int → Heap → Nat), I n h_1 ∧ ∀ (n_1 : Int) (h_2 : Heap), I n_1 h_2 →
        if (decide (n_1 > 127)) = true then
          ∃ (t21_p : Option Addr) (t21_l t21_c : Nat), hcell h_2 ⟨w, 1, none⟩ = some (.slice t21_p t21_l t21_c) ∧
          NewP h_2 (.cells #[.int .u8 (IntKind.wrap .u8 ((BitVec.ofInt (IntKind.bits .u8) (IntKind.wrap .u8 n_1) ||| BitVec.ofInt (IntKind.bits .u8) 128).toNat : Int))] T.uint8) fun b h_3 =>
          denSem Tryd.prog (Builtin.append_ #[T.s_uint8, T.s_uint8] T.s_uint8 #[.slice t21_p t21_l t21_c, .slice (some ⟨b, 0, none⟩) 1 1]) h_3 fun v h_4 =>
          ∃ (t26_p : Option Addr) (t26_l t26_c : Nat), v = .slice t26_p t26_l t26_c ∧
          StoreP h_4 ⟨w, 1, none⟩ (.slice t26_p t26_l t26_c) fun h_5 =>
          (I (Int.fdiv n_1 (2 ^ min (Int.toNat 7) (IntKind.bits .u64))) h_5 ∧ mu (Int.fdiv n_1 (2 ^ min (Int.toNat 7) (IntKind.bits .u64))) h_5 < mu n_1 h_2)
        else
          ∃ (t35_p : Option Addr) (t35_l t35_c : Nat), hcell h_2 ⟨w, 1, none⟩ = some (.slice t35_p t35_l t35_c) ∧
          NewP h_2 (.cells #[.int .u8 (IntKind.wrap .u8 n_1)] T.uint8) fun b_1 h_6 =>
          denSem Tryd.prog (Builtin.append_ #[T.s_uint8, T.s_uint8] T.s_uint8 #[.slice t35_p t35_l t35_c, .slice (some ⟨b_1, 0, none⟩) 1 1]) h_6 fun v_1 h_7 =>
          ∃ (t39_p : Option Addr) (t39_l t39_c : Nat), v_1 = .slice t39_p t39_l t39_c ∧
          StoreP h_7 ⟨w, 1, none⟩ (.slice t39_p t39_l t39_c) fun h_8 =>
          R (.pointer (some ⟨w, 0, none⟩)) h_8)
  (fun J =>
    ∃ (t11 : Bool), hcell h ⟨w, 0, none⟩ = some (.bool t11) ∧
    J (!t11) h)
theorem fields_Writer_Num.den_eq (w : Nat) (n : Int) (h : Heap) (R : Value → Heap → Prop) : fields_Writer_Num.vc w n h R = den Tryd.prog Tryd.f51.ntmps (.seq .leaf (.seq (.seq (.join [(13, .one (.bool))] .leaf) (.cond (.seq .leaf .leaf) .leaf)) (.seq (.block (.loop [(1, .one (.int .u64))] (.seq (.seq .leaf (.cond .leaf .leaf)) (.block (.seq .leaf .leaf))))) (.seq .leaf (.seq .leaf .leaf))))) none (bodyOf Tryd.f51) (retK Tryd.prog Tryd.f51.results R) (argEnv [.pointer (some ⟨w, 0, none⟩), .int .u64 n]) h := by kernel_rfl
theorem fields_Writer_Num.walk {w : Nat} {n : Int} {h : Heap} {R : Value → Heap → Prop} (hv : fields_Writer_Num.vc w n h R) : CallsH Tryd.prog F.fields_Writer_Num #[.pointer (some ⟨w, 0, none⟩), .int .u64 n] h R :=
  callsH_of_body _ Tryd.func51 rfl rfl (Eq.mp (fields_Writer_Num.den_eq w n h R) hv)

def fields_Writer_Num.nil.vc (n : Int) (h : Heap) (R : Value → Heap → Prop) : Prop :=
  JoinP (fun (t13 : Bool) (h_1 : Heap) =>
    if t13 = true then
      R (.pointer none) h_1
    else
      ∃ (I : Int → Heap → Prop) (mu : Int → Heap → Nat), I n h_1 ∧ ∀ (n_1 : Int) (h_2 : Heap), I n_1 h_2 →
        if (decide (n_1 > 127)) = true then
          False
        else
          False)
  (fun J =>
    J true h)
theorem fields_Writer_Num.nil.den_eq (n : Int) (h : Heap) (R : Value → Heap → Prop) : fields_Writer_Num.nil.vc n h R = den Tryd.prog Tryd.f51.ntmps (.seq .leaf (.seq (.seq (.join [(13, .one (.bool))] .leaf) (.cond (.seq .leaf .leaf) .leaf)) (.seq (.block (.loop [(1, .one (.int .u64))] (.seq (.seq .leaf (.cond .leaf .leaf)) (.block (.seq .leaf .leaf))))) (.seq .leaf (.seq .leaf .leaf))))) none (bodyOf Tryd.f51) (retK Tryd.prog Tryd.f51.results R) (argEnv [.pointer none, .int .u64 n]) h := by kernel_rfl
theorem fields_Writer_Num.nil.walk {n : Int} {h : Heap} {R : Value → Heap → Prop} (hv : fields_Writer_Num.nil.vc n h R) : CallsH Tryd.prog F.fields_Writer_Num #[.pointer none, .int .u64 n] h R :=
  callsH_of_body _ Tryd.func51 rfl rfl (Eq.mp (fields_Writer_Num.nil.den_eq n h R) hv)

def fields_Writer_Int.vc (w : Nat) (n : Int) (h : Heap) (R : Value → Heap → Prop) : Prop :=
  CallsH Tryd.prog F.fields_Writer_Num #[.pointer (some ⟨w, 0, none⟩), .int .u64 (IntKind.wrap .u64 (if 0 > n then 0 else n))] h fun v h_1 =>
  ∃ (t9 : Option Addr), v = .pointer t9 ∧
  R (.pointer t9) h_1
theorem fields_Writer_Int.den_eq (w : Nat) (n : Int) (h : Heap) (R : Value → Heap → Prop) : fields_Writer_Int.vc w n h R = den Tryd.prog Tryd.f42.ntmps (.seq .leaf (.seq .leaf .leaf)) none (bodyOf Tryd.f42) (retK Tryd.prog Tryd.f42.results R) (argEnv [.pointer (some ⟨w, 0, none⟩), .int .i64 n]) h := by kernel_rfl
theorem fields_Writer_Int.walk {w : Nat} {n : Int} {h : Heap} {R : Value → Heap → Prop} (hv : fields_Writer_Int.vc w n h R) : CallsH Tryd.prog F.fields_Writer_Int #[.pointer (some ⟨w, 0, none⟩), .int .i64 n] h R :=
  callsH_of_body _ Tryd.func42 rfl rfl (Eq.mp (fields_Writer_Int.den_eq w n h R) hv)

def fields_Writer_Int.nil.vc (n : Int) (h : Heap) (R : Value → Heap → Prop) : Prop :=
  CallsH Tryd.prog F.fields_Writer_Num #[.pointer none, .int .u64 (IntKind.wrap .u64 (if 0 > n then 0 else n))] h fun v h_1 =>
  ∃ (t9 : Option Addr), v = .pointer t9 ∧
  R (.pointer t9) h_1
theorem fields_Writer_Int.nil.den_eq (n : Int) (h : Heap) (R : Value → Heap → Prop) : fields_Writer_Int.nil.vc n h R = den Tryd.prog Tryd.f42.ntmps (.seq .leaf (.seq .leaf .leaf)) none (bodyOf Tryd.f42) (retK Tryd.prog Tryd.f42.results R) (argEnv [.pointer none, .int .i64 n]) h := by kernel_rfl
theorem fields_Writer_Int.nil.walk {n : Int} {h : Heap} {R : Value → Heap → Prop} (hv : fields_Writer_Int.nil.vc n h R) : CallsH Tryd.prog F.fields_Writer_Int #[.pointer none, .int .i64 n] h R :=
  callsH_of_body _ Tryd.func42 rfl rfl (Eq.mp (fields_Writer_Int.nil.den_eq n h R) hv)

def fields_Writer_Text.vc (w : Nat) (b_p : Option Addr) (b_l b_c : Nat) (h : Heap) (R : Value → Heap → Prop) : Prop :=
  CallsH Tryd.prog F.fields_Writer_Num #[.pointer (some ⟨w, 0, none⟩), .int .u64 (IntKind.wrap .u64 ((b_l : Nat) : Int))] h fun v h_1 =>
  ∃ (t9 : Option Addr), v = .pointer t9 ∧
  JoinP (fun (t17 : Bool) (h_2 : Heap) =>
    JoinP (fun (h_3 : Heap) =>
      R (.pointer (some ⟨w, 0, none⟩)) h_3)
    (fun J_1 =>
      if t17 = true then
        ∃ (t22_p : Option Addr) (t22_l t22_c : Nat), hcell h_2 ⟨w, 1, none⟩ = some (.slice t22_p t22_l t22_c) ∧
        denSem Tryd.prog (Builtin.append_ #[T.s_uint8, T.s_uint8] T.s_uint8 #[.slice t22_p t22_l t22_c, .slice b_p b_l b_c]) h_2 fun v_1 h_4 =>
        ∃ (t24_p : Option Addr) (t24_l t24_c : Nat), v_1 = .slice t24_p t24_l t24_c ∧
        StoreP h_4 ⟨w, 1, none⟩ (.slice t24_p t24_l t24_c) fun h_5 =>
        J_1 h_5
      else
        J_1 h_2))
  (fun J =>
    ∃ (t16 : Bool), hcell h_1 ⟨w, 0, none⟩ = some (.bool t16) ∧
    J t16 h_1)
theorem fields_Writer_Text.den_eq (w : Nat) (b_p : Option Addr) (b_l b_c : Nat) (h : Heap) (R : Value → Heap → Prop) : fields_Writer_Text.vc w b_p b_l b_c h R = den Tryd.prog Tryd.f41.ntmps (.seq .leaf (.seq .leaf (.seq (.seq (.join [(17, .one (.bool))] .leaf) (.join [] (.cond .leaf .leaf))) (.seq .leaf .leaf)))) none (bodyOf Tryd.f41) (retK Tryd.prog Tryd.f41.results R) (argEnv [.pointer (some ⟨w, 0, none⟩), .slice b_p b_l b_c]) h := by kernel_rfl
theorem fields_Writer_Text.walk {w : Nat} {b_p : Option Addr} {b_l b_c : Nat} {h : Heap} {R : Value → Heap → Prop} (hv : fields_Writer_Text.vc w b_p b_l b_c h R) : CallsH Tryd.prog F.fields_Writer_Text #[.pointer (some ⟨w, 0, none⟩), .slice b_p b_l b_c] h R :=
  callsH_of_body _ Tryd.func41 rfl rfl (Eq.mp (fields_Writer_Text.den_eq w b_p b_l b_c h R) hv)

def fields_Writer_Text.nil.vc (b_p : Option Addr) (b_l b_c : Nat) (h : Heap) (R : Value → Heap → Prop) : Prop :=
  CallsH Tryd.prog F.fields_Writer_Num #[.pointer none, .int .u64 (IntKind.wrap .u64 ((b_l : Nat) : Int))] h fun v h_1 =>
  ∃ (t9 : Option Addr), v = .pointer t9 ∧
  JoinP (fun (t17 : Bool) (h_2 : Heap) =>
    JoinP (fun (h_3 : Heap) =>
      R (.pointer none) h_3)
    (fun J_1 =>
      if t17 = true then
        False
      else
        J_1 h_2))
  (fun J =>
    J false h_1)
theorem fields_Writer_Text.nil.den_eq (b_p : Option Addr) (b_l b_c : Nat) (h : Heap) (R : Value → Heap → Prop) : fields_Writer_Text.nil.vc b_p b_l b_c h R = den Tryd.prog Tryd.f41.ntmps (.seq .leaf (.seq .leaf (.seq (.seq (.join [(17, .one (.bool))] .leaf) (.join [] (.cond .leaf .leaf))) (.seq .leaf .leaf)))) none (bodyOf Tryd.f41) (retK Tryd.prog Tryd.f41.results R) (argEnv [.pointer none, .slice b_p b_l b_c]) h := by kernel_rfl
theorem fields_Writer_Text.nil.walk {b_p : Option Addr} {b_l b_c : Nat} {h : Heap} {R : Value → Heap → Prop} (hv : fields_Writer_Text.nil.vc b_p b_l b_c h R) : CallsH Tryd.prog F.fields_Writer_Text #[.pointer none, .slice b_p b_l b_c] h R :=
  callsH_of_body _ Tryd.func41 rfl rfl (Eq.mp (fields_Writer_Text.nil.den_eq b_p b_l b_c h R) hv)

def fields_Writer_Bytes.vc (w : Nat) (h : Heap) (R : Value → Heap → Prop) : Prop :=
  ∃ (t8_p : Option Addr) (t8_l t8_c : Nat), hcell h ⟨w, 1, none⟩ = some (.slice t8_p t8_l t8_c) ∧
  CallsH Tryd.prog F.slices_Clone_s_byte_byte #[.slice t8_p t8_l t8_c] h fun v h_1 =>
  ∃ (t9_p : Option Addr) (t9_l t9_c : Nat), v = .slice t9_p t9_l t9_c ∧
  R (.slice t9_p t9_l t9_c) h_1
theorem fields_Writer_Bytes.den_eq (w : Nat) (h : Heap) (R : Value → Heap → Prop) : fields_Writer_Bytes.vc w h R = den Tryd.prog Tryd.f43.ntmps (.seq .leaf (.seq (.seq .leaf (.cond (.seq .leaf .leaf) .leaf)) (.seq .leaf .leaf))) none (bodyOf Tryd.f43) (retK Tryd.prog Tryd.f43.results R) (argEnv [.pointer (some ⟨w, 0, none⟩)]) h := by kernel_rfl
theorem fields_Writer_Bytes.walk {w : Nat} {h : Heap} {R : Value → Heap → Prop} (hv : fields_Writer_Bytes.vc w h R) : CallsH Tryd.prog F.fields_Writer_Bytes #[.pointer (some ⟨w, 0, none⟩)] h R :=
  callsH_of_body _ Tryd.func43 rfl rfl (Eq.mp (fields_Writer_Bytes.den_eq w h R) hv)

def fields_Writer_Bytes.nil.vc  (h : Heap) (R : Value → Heap → Prop) : Prop :=
  R (.slice none 0 0) h
theorem fields_Writer_Bytes.nil.den_eq  (h : Heap) (R : Value → Heap → Prop) : fields_Writer_Bytes.nil.vc h R = den Tryd.prog Tryd.f43.ntmps (.seq .leaf (.seq (.seq .leaf (.cond (.seq .leaf .leaf) .leaf)) (.seq .leaf .leaf))) none (bodyOf Tryd.f43) (retK Tryd.prog Tryd.f43.results R) (argEnv [.pointer none]) h := by kernel_rfl
theorem fields_Writer_Bytes.nil.walk  {h : Heap} {R : Value → Heap → Prop} (hv : fields_Writer_Bytes.nil.vc h R) : CallsH Tryd.prog F.fields_Writer_Bytes #[.pointer none] h R :=
  callsH_of_body _ Tryd.func43 rfl rfl (Eq.mp (fields_Writer_Bytes.nil.den_eq h R) hv)

end Go.Proofs.YtgccegnmggjkjaaDoor
