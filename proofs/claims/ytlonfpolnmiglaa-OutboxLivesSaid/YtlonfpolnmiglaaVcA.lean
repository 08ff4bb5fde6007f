/-
  Printed by a program of this work (vc.py): the verification conditions of functions, and that each is enough for the call. No condition.
-/
import Derived.Test.YtlonfpolnmiglaaNames
set_option maxRecDepth 100000
set_option maxHeartbeats 4000000
namespace Go.Proofs.Ytlonfpolnmiglaa
open Go.Den
def slices_Clone_s_byte_byte.vc (s_p : Option Addr) (s_l s_c : Nat) (h : Heap) (R : Value → Heap → Prop) : Prop :=
  if s_p.isNone = true then
    R (.slice none 0 0) h
  else
    NewP h (.cells #[] T.uint8) fun b h_1 =>
    denSem Try.prog (Builtin.append_ #[T.s_uint8, T.s_uint8] T.s_uint8 #[.slice (some ⟨b, 0, none⟩) 0 0, .slice s_p s_l s_c]) h_1 fun v h_2 =>
    ∃ (t7_p : Option Addr) (t7_l t7_c : Nat), v = .slice t7_p t7_l t7_c ∧
    R (.slice t7_p t7_l t7_c) h_2
theorem slices_Clone_s_byte_byte.den_eq (s_p : Option Addr) (s_l s_c : Nat) (h : Heap) (R : Value → Heap → Prop) : slices_Clone_s_byte_byte.vc s_p s_l s_c h R = den Try.prog Try.f46.ntmps (.seq .leaf (.seq (.seq .leaf (.cond (.seq .leaf .leaf) .leaf)) (.seq .leaf .leaf))) none (bodyOf Try.f46) (retK Try.prog Try.f46.results R) (argEnv [.slice s_p s_l s_c]) h := by kernel_rfl
theorem slices_Clone_s_byte_byte.walk {s_p : Option Addr} {s_l s_c : Nat} {h : Heap} {R : Value → Heap → Prop} (hv : slices_Clone_s_byte_byte.vc s_p s_l s_c h R) : CallsH Try.prog F.slices_Clone_s_byte_byte #[.slice s_p s_l s_c] h R :=
  callsH_of_body _ Try.func46 rfl rfl (Eq.mp (slices_Clone_s_byte_byte.den_eq s_p s_l s_c h R) hv)

def fields_New.vc  (h : Heap) (R : Value → Heap → Prop) : Prop :=
  NewP h (.cells #[.bool true, .slice none 0 0] T.fields_Writer) fun b h_1 =>
  R (.pointer (some ⟨b, 0, none⟩)) h_1
theorem fields_New.den_eq  (h : Heap) (R : Value → Heap → Prop) : fields_New.vc h R = den Try.prog Try.f34.ntmps (.seq .leaf (.seq .leaf .leaf)) none (bodyOf Try.f34) (retK Try.prog Try.f34.results R) (argEnv []) h := by kernel_rfl
theorem fields_New.walk  {h : Heap} {R : Value → Heap → Prop} (hv : fields_New.vc h R) : CallsH Try.prog F.fields_New #[] h R :=
  callsH_of_body _ Try.func34 rfl rfl (Eq.mp (fields_New.den_eq h R) hv)

def fields_Writer_Num.vc (w : Nat) (n : Int) (h : Heap) (R : Value → Heap → Prop) : Prop :=
  JoinP (fun (t13 : Bool) (h_1 : Heap) =>
    if t13 = true then
      R (.pointer (some ⟨w, 0, none⟩)) h_1
    else
      ∃ (I : Int → Heap → Prop) (mu : Int → Heap → Nat), I n h_1 ∧ ∀ (n_1 : Int) (h_2 : Heap), I n_1 h_2 →
        if (decide (n_1 > 127)) = true then
          ∃ (t21_p : Option Addr) (t21_l t21_c : Nat), hcell h_2 ⟨w, 1, none⟩ = some (.slice t21_p t21_l t21_c) ∧
          NewP h_2 (.cells #[.int .u8 (IntKind.wrap .u8 ((BitVec.ofInt (IntKind.bits .u8) (IntKind.wrap .u8 n_1) ||| BitVec.ofInt (IntKind.bits .u8) 128).toNat : Int))] T.uint8) fun b h_3 =>
          denSem Try.prog (Builtin.append_ #[T.s_uint8, T.s_uint8] T.s_uint8 #[.slice t21_p t21_l t21_c, .slice (some ⟨b, 0, none⟩) 1 1]) h_3 fun v h_4 =>
          ∃ (t26_p : Option Addr) (t26_l t26_c : Nat), v = .slice t26_p t26_l t26_c ∧
          StoreP h_4 ⟨w, 1, none⟩ (.slice t26_p t26_l t26_c) fun h_5 =>
          (I (Int.fdiv n_1 (2 ^ min (Int.toNat 7) (IntKind.bits .u64))) h_5 ∧ mu (Int.fdiv n_1 (2 ^ min (Int.toNat 7) (IntKind.bits .u64))) h_5 < mu n_1 h_2)
        else
          ∃ (t35_p : Option Addr) (t35_l t35_c : Nat), hcell h_2 ⟨w, 1, none⟩ = some (.slice t35_p t35_l t35_c) ∧
          NewP h_2 (.cells #[.int .u8 (IntKind.wrap .u8 n_1)] T.uint8) fun b_1 h_6 =>
          denSem Try.prog (Builtin.append_ #[T.s_uint8, T.s_uint8] T.s_uint8 #[.slice t35_p t35_l t35_c, .slice (some ⟨b_1, 0, none⟩) 1 1]) h_6 fun v_1 h_7 =>
          ∃ (t39_p : Option Addr) (t39_l t39_c : Nat), v_1 = .slice t39_p t39_l t39_c ∧
          StoreP h_7 ⟨w, 1, none⟩ (.slice t39_p t39_l t39_c) fun h_8 =>
          R (.pointer (some ⟨w, 0, none⟩)) h_8)
  (fun J =>
    ∃ (t11 : Bool), hcell h ⟨w, 0, none⟩ = some (.bool t11) ∧
    J (!t11) h)
theorem fields_Writer_Num.den_eq (w : Nat) (n : Int) (h : Heap) (R : Value → Heap → Prop) : fields_Writer_Num.vc w n h R = den Try.prog Try.f38.ntmps (.seq .leaf (.seq (.seq (.join [(13, .one (.bool))] .leaf) (.cond (.seq .leaf .leaf) .leaf)) (.seq (.block (.loop [(1, .one (.int .u64))] (.seq (.seq .leaf (.cond .leaf .leaf)) (.block (.seq .leaf .leaf))))) (.seq .leaf (.seq .leaf .leaf))))) none (bodyOf Try.f38) (retK Try.prog Try.f38.results R) (argEnv [.pointer (some ⟨w, 0, none⟩), .int .u64 n]) h := by kernel_rfl
theorem fields_Writer_Num.walk {w : Nat} {n : Int} {h : Heap} {R : Value → Heap → Prop} (hv : fields_Writer_Num.vc w n h R) : CallsH Try.prog F.fields_Writer_Num #[.pointer (some ⟨w, 0, none⟩), .int .u64 n] h R :=
  callsH_of_body _ Try.func38 rfl rfl (Eq.mp (fields_Writer_Num.den_eq w n h R) hv)

def fields_Writer_Num.nil.vc (n : Int) (h : Heap) (R : Value → Heap → Prop) : Prop :=
  JoinP (fun (t13 : Bool) (h_1 : Heap) =>
    if t13 = true then
      R (.pointer none) h_1
    else
      ∃ (I : Int → Heap → Prop) (mu : Int → Heap → Nat), I n h_1 ∧ ∀ (n_1 : Int) (h_2 : Heap), I n_1 h_2 →
        if (decide (n_1 > 127)) = true then
          False
        else
          False)
  (fun J =>
    J true h)
theorem fields_Writer_Num.nil.den_eq (n : Int) (h : Heap) (R : Value → Heap → Prop) : fields_Writer_Num.nil.vc n h R = den Try.prog Try.f38.ntmps (.seq .leaf (.seq (.seq (.join [(13, .one (.bool))] .leaf) (.cond (.seq .leaf .leaf) .leaf)) (.seq (.block (.loop [(1, .one (.int .u64))] (.seq (.seq .leaf (.cond .leaf .leaf)) (.block (.seq .leaf .leaf))))) (.seq .leaf (.seq .leaf .leaf))))) none (bodyOf Try.f38) (retK Try.prog Try.f38.results R) (argEnv [.pointer none, .int .u64 n]) h := by kernel_rfl
theorem fields_Writer_Num.nil.walk {n : Int} {h : Heap} {R : Value → Heap → Prop} (hv : fields_Writer_Num.nil.vc n h R) : CallsH Try.prog F.fields_Writer_Num #[.pointer none, .int .u64 n] h R :=
  callsH_of_body _ Try.func38 rfl rfl (Eq.mp (fields_Writer_Num.nil.den_eq n h R) hv)

def fields_Writer_Int.vc (w : Nat) (n : Int) (h : Heap) (R : Value → Heap → Prop) : Prop :=
  CallsH Try.prog F.fields_Writer_Num #[.pointer (some ⟨w, 0, none⟩), .int .u64 (IntKind.wrap .u64 (if 0 > n then 0 else n))] h fun v h_1 =>
  ∃ (t9 : Option Addr), v = .pointer t9 ∧
  R (.pointer t9) h_1
theorem fields_Writer_Int.den_eq (w : Nat) (n : Int) (h : Heap) (R : Value → Heap → Prop) : fields_Writer_Int.vc w n h R = den Try.prog Try.f35.ntmps (.seq .leaf (.seq .leaf .leaf)) none (bodyOf Try.f35) (retK Try.prog Try.f35.results R) (argEnv [.pointer (some ⟨w, 0, none⟩), .int .i64 n]) h := by kernel_rfl
theorem fields_Writer_Int.walk {w : Nat} {n : Int} {h : Heap} {R : Value → Heap → Prop} (hv : fields_Writer_Int.vc w n h R) : CallsH Try.prog F.fields_Writer_Int #[.pointer (some ⟨w, 0, none⟩), .int .i64 n] h R :=
  callsH_of_body _ Try.func35 rfl rfl (Eq.mp (fields_Writer_Int.den_eq w n h R) hv)

def fields_Writer_Int.nil.vc (n : Int) (h : Heap) (R : Value → Heap → Prop) : Prop :=
  CallsH Try.prog F.fields_Writer_Num #[.pointer none, .int .u64 (IntKind.wrap .u64 (if 0 > n then 0 else n))] h fun v h_1 =>
  ∃ (t9 : Option Addr), v = .pointer t9 ∧
  R (.pointer t9) h_1
theorem fields_Writer_Int.nil.den_eq (n : Int) (h : Heap) (R : Value → Heap → Prop) : fields_Writer_Int.nil.vc n h R = den Try.prog Try.f35.ntmps (.seq .leaf (.seq .leaf .leaf)) none (bodyOf Try.f35) (retK Try.prog Try.f35.results R) (argEnv [.pointer none, .int .i64 n]) h := by kernel_rfl
theorem fields_Writer_Int.nil.walk {n : Int} {h : Heap} {R : Value → Heap → Prop} (hv : fields_Writer_Int.nil.vc n h R) : CallsH Try.prog F.fields_Writer_Int #[.pointer none, .int .i64 n] h R :=
  callsH_of_body _ Try.func35 rfl rfl (Eq.mp (fields_Writer_Int.nil.den_eq n h R) hv)

def fields_Writer_Text.vc (w : Nat) (b_p : Option Addr) (b_l b_c : Nat) (h : Heap) (R : Value → Heap → Prop) : Prop :=
  CallsH Try.prog F.fields_Writer_Num #[.pointer (some ⟨w, 0, none⟩), .int .u64 (IntKind.wrap .u64 ((b_l : Nat) : Int))] h fun v h_1 =>
  ∃ (t9 : Option Addr), v = .pointer t9 ∧
  JoinP (fun (t17 : Bool) (h_2 : Heap) =>
    JoinP (fun (h_3 : Heap) =>
      R (.pointer (some ⟨w, 0, none⟩)) h_3)
    (fun J_1 =>
      if t17 = true then
        ∃ (t22_p : Option Addr) (t22_l t22_c : Nat), hcell h_2 ⟨w, 1, none⟩ = some (.slice t22_p t22_l t22_c) ∧
        denSem Try.prog (Builtin.append_ #[T.s_uint8, T.s_uint8] T.s_uint8 #[.slice t22_p t22_l t22_c, .slice b_p b_l b_c]) h_2 fun v_1 h_4 =>
        ∃ (t24_p : Option Addr) (t24_l t24_c : Nat), v_1 = .slice t24_p t24_l t24_c ∧
        StoreP h_4 ⟨w, 1, none⟩ (.slice t24_p t24_l t24_c) fun h_5 =>
        J_1 h_5
      else
        J_1 h_2))
  (fun J =>
    ∃ (t16 : Bool), hcell h_1 ⟨w, 0, none⟩ = some (.bool t16) ∧
    J t16 h_1)
theorem fields_Writer_Text.den_eq (w : Nat) (b_p : Option Addr) (b_l b_c : Nat) (h : Heap) (R : Value → Heap → Prop) : fields_Writer_Text.vc w b_p b_l b_c h R = den Try.prog Try.f37.ntmps (.seq .leaf (.seq .leaf (.seq (.seq (.join [(17, .one (.bool))] .leaf) (.join [] (.cond .leaf .leaf))) (.seq .leaf .leaf)))) none (bodyOf Try.f37) (retK Try.prog Try.f37.results R) (argEnv [.pointer (some ⟨w, 0, none⟩), .slice b_p b_l b_c]) h := by kernel_rfl
theorem fields_Writer_Text.walk {w : Nat} {b_p : Option Addr} {b_l b_c : Nat} {h : Heap} {R : Value → Heap → Prop} (hv : fields_Writer_Text.vc w b_p b_l b_c h R) : CallsH Try.prog F.fields_Writer_Text #[.pointer (some ⟨w, 0, none⟩), .slice b_p b_l b_c] h R :=
  callsH_of_body _ Try.func37 rfl rfl (Eq.mp (fields_Writer_Text.den_eq w b_p b_l b_c h R) hv)

def fields_Writer_Text.nil.vc (b_p : Option Addr) (b_l b_c : Nat) (h : Heap) (R : Value → Heap → Prop) : Prop :=
  CallsH Try.prog F.fields_Writer_Num #[.pointer none, .int .u64 (IntKind.wrap .u64 ((b_l : Nat) : Int))] h fun v h_1 =>
  ∃ (t9 : Option Addr), v = .pointer t9 ∧
  JoinP (fun (t17 : Bool) (h_2 : Heap) =>
    JoinP (fun (h_3 : Heap) =>
      R (.pointer none) h_3)
    (fun J_1 =>
      if t17 = true then
        False
      else
        J_1 h_2))
  (fun J =>
    J false h_1)
theorem fields_Writer_Text.nil.den_eq (b_p : Option Addr) (b_l b_c : Nat) (h : Heap) (R : Value → Heap → Prop) : fields_Writer_Text.nil.vc b_p b_l b_c h R = den Try.prog Try.f37.ntmps (.seq .leaf (.seq .leaf (.seq (.seq (.join [(17, .one (.bool))] .leaf) (.join [] (.cond .leaf .leaf))) (.seq .leaf .leaf)))) none (bodyOf Try.f37) (retK Try.prog Try.f37.results R) (argEnv [.pointer none, .slice b_p b_l b_c]) h := by kernel_rfl
theorem fields_Writer_Text.nil.walk {b_p : Option Addr} {b_l b_c : Nat} {h : Heap} {R : Value → Heap → Prop} (hv : fields_Writer_Text.nil.vc b_p b_l b_c h R) : CallsH Try.prog F.fields_Writer_Text #[.pointer none, .slice b_p b_l b_c] h R :=
  callsH_of_body _ Try.func37 rfl rfl (Eq.mp (fields_Writer_Text.nil.den_eq b_p b_l b_c h R) hv)

def fields_Writer_Bytes.vc (w : Nat) (h : Heap) (R : Value → Heap → Prop) : Prop :=
  ∃ (t8_p : Option Addr) (t8_l t8_c : Nat), hcell h ⟨w, 1, none⟩ = some (.slice t8_p t8_l t8_c) ∧
  CallsH Try.prog F.slices_Clone_s_byte_byte #[.slice t8_p t8_l t8_c] h fun v h_1 =>
  ∃ (t9_p : Option Addr) (t9_l t9_c : Nat), v = .slice t9_p t9_l t9_c ∧
  R (.slice t9_p t9_l t9_c) h_1
theorem fields_Writer_Bytes.den_eq (w : Nat) (h : Heap) (R : Value → Heap → Prop) : fields_Writer_Bytes.vc w h R = den Try.prog Try.f36.ntmps (.seq .leaf (.seq (.seq .leaf (.cond (.seq .leaf .leaf) .leaf)) (.seq .leaf .leaf))) none (bodyOf Try.f36) (retK Try.prog Try.f36.results R) (argEnv [.pointer (some ⟨w, 0, none⟩)]) h := by kernel_rfl
theorem fields_Writer_Bytes.walk {w : Nat} {h : Heap} {R : Value → Heap → Prop} (hv : fields_Writer_Bytes.vc w h R) : CallsH Try.prog F.fields_Writer_Bytes #[.pointer (some ⟨w, 0, none⟩)] h R :=
  callsH_of_body _ Try.func36 rfl rfl (Eq.mp (fields_Writer_Bytes.den_eq w h R) hv)

def fields_Writer_Bytes.nil.vc  (h : Heap) (R : Value → Heap → Prop) : Prop :=
  R (.slice none 0 0) h
theorem fields_Writer_Bytes.nil.den_eq  (h : Heap) (R : Value → Heap → Prop) : fields_Writer_Bytes.nil.vc h R = den Try.prog Try.f36.ntmps (.seq .leaf (.seq (.seq .leaf (.cond (.seq .leaf .leaf) .leaf)) (.seq .leaf .leaf))) none (bodyOf Try.f36) (retK Try.prog Try.f36.results R) (argEnv [.pointer none]) h := by kernel_rfl
theorem fields_Writer_Bytes.nil.walk  {h : Heap} {R : Value → Heap → Prop} (hv : fields_Writer_Bytes.nil.vc h R) : CallsH Try.prog F.fields_Writer_Bytes #[.pointer none] h R :=
  callsH_of_body _ Try.func36 rfl rfl (Eq.mp (fields_Writer_Bytes.nil.den_eq h R) hv)

def fields_fault_fail.vc (f : Nat) (e : Int) (h : Heap) (R : Value → Heap → Prop) : Prop :=
  ∃ (t7 : Int), hcell h ⟨f, 0, none⟩ = some (.int .i64 t7) ∧
  if (t7 == 0) = true then
    StoreP h ⟨f, 0, none⟩ (.int .i64 e) fun h_1 =>
    R (.tuple #[]) h_1
  else
    R (.tuple #[]) h
theorem fields_fault_fail.den_eq (f : Nat) (e : Int) (h : Heap) (R : Value → Heap → Prop) : fields_fault_fail.vc f e h R = den Try.prog Try.f57.ntmps (.seq .leaf (.cond .leaf .leaf)) none (bodyOf Try.f57) (retK Try.prog Try.f57.results R) (argEnv [.pointer (some ⟨f, 0, none⟩), .int .i64 e]) h := by kernel_rfl
theorem fields_fault_fail.walk {f : Nat} {e : Int} {h : Heap} {R : Value → Heap → Prop} (hv : fields_fault_fail.vc f e h R) : CallsH Try.prog F.fields_fault_fail #[.pointer (some ⟨f, 0, none⟩), .int .i64 e] h R :=
  callsH_of_body _ Try.func57 rfl rfl (Eq.mp (fields_fault_fail.den_eq f e h R) hv)

def fields_Read.vc (b_p : Option Addr) (b_l b_c : Nat) (h : Heap) (R : Value → Heap → Prop) : Prop :=
  CallsH Try.prog F.slices_Clone_s_byte_byte #[.slice b_p b_l b_c] h fun v h_1 =>
  ∃ (t4_p : Option Addr) (t4_l t4_c : Nat), v = .slice t4_p t4_l t4_c ∧
  NewP h_1 (.cells #[.int .i64 0, .bool true, .slice t4_p t4_l t4_c] T.fields_Reader) fun b h_2 =>
  R (.pointer (some ⟨b, 0, none⟩)) h_2
theorem fields_Read.den_eq (b_p : Option Addr) (b_l b_c : Nat) (h : Heap) (R : Value → Heap → Prop) : fields_Read.vc b_p b_l b_c h R = den Try.prog Try.f41.ntmps (.seq .leaf (.seq .leaf .leaf)) none (bodyOf Try.f41) (retK Try.prog Try.f41.results R) (argEnv [.slice b_p b_l b_c]) h := by kernel_rfl
theorem fields_Read.walk {b_p : Option Addr} {b_l b_c : Nat} {h : Heap} {R : Value → Heap → Prop} (hv : fields_Read.vc b_p b_l b_c h R) : CallsH Try.prog F.fields_Read #[.slice b_p b_l b_c] h R :=
  callsH_of_body _ Try.func41 rfl rfl (Eq.mp (fields_Read.den_eq b_p b_l b_c h R) hv)

def fields_Reader_fine.vc (r : Nat) (h : Heap) (R : Value → Heap → Prop) : Prop :=
  ∃ (t9 : Bool), hcell h ⟨r, 1, none⟩ = some (.bool t9) ∧
  if t9 = true then
    ∃ (t16 : Int), hcell h ⟨r, 0, none⟩ = some (.int .i64 t16) ∧
    R (.bool (t16 == 0)) h
  else
    R (.bool false) h
theorem fields_Reader_fine.den_eq (r : Nat) (h : Heap) (R : Value → Heap → Prop) : fields_Reader_fine.vc r h R = den Try.prog Try.f56.ntmps (.seq .leaf (.seq .leaf .leaf)) none (bodyOf Try.f56) (retK Try.prog Try.f56.results R) (argEnv [.pointer (some ⟨r, 0, none⟩)]) h := by kernel_rfl
theorem fields_Reader_fine.walk {r : Nat} {h : Heap} {R : Value → Heap → Prop} (hv : fields_Reader_fine.vc r h R) : CallsH Try.prog F.fields_Reader_fine #[.pointer (some ⟨r, 0, none⟩)] h R :=
  callsH_of_body _ Try.func56 rfl rfl (Eq.mp (fields_Reader_fine.den_eq r h R) hv)

def fields_Reader_fine.nil.vc  (h : Heap) (R : Value → Heap → Prop) : Prop :=
  R (.bool false) h
theorem fields_Reader_fine.nil.den_eq  (h : Heap) (R : Value → Heap → Prop) : fields_Reader_fine.nil.vc h R = den Try.prog Try.f56.ntmps (.seq .leaf (.seq .leaf .leaf)) none (bodyOf Try.f56) (retK Try.prog Try.f56.results R) (argEnv [.pointer none]) h := by kernel_rfl
theorem fields_Reader_fine.nil.walk  {h : Heap} {R : Value → Heap → Prop} (hv : fields_Reader_fine.nil.vc h R) : CallsH Try.prog F.fields_Reader_fine #[.pointer none] h R :=
  callsH_of_body _ Try.func56 rfl rfl (Eq.mp (fields_Reader_fine.nil.den_eq h R) hv)

def fields_Reader_Num.vc (r : Nat) (h : Heap) (R : Value → Heap → Prop) : Prop :=
  JoinP (fun (h_1 : Heap) =>
    R (.int .u64 0) h_1)
  (fun J =>
    ∃ (I : Int → Int → Heap → Prop) (mu : Int → Int → Heap → Nat), I 0 0 h ∧ ∀ (n : Int) (i : Int) (h_2 : Heap), I n i h_2 →
      CallsH Try.prog F.fields_Reader_fine #[.pointer (some ⟨r, 0, none⟩)] h_2 fun v h_3 =>
      ∃ (t7 : Bool), v = .bool t7 ∧
      if t7 = true then
        ∃ (t13_p : Option Addr) (t13_l t13_c : Nat), hcell h_3 ⟨r, 2, none⟩ = some (.slice t13_p t13_l t13_c) ∧
        if (((t13_l : Nat) : Int) == 0) = true then
          CallsH Try.prog F.fields_fault_fail #[.pointer (some ⟨r, 0, none⟩), .int .i64 8] h_3 fun v_1 h_4 =>
          v_1 = .tuple #[] ∧
          J h_4
        else
          ∃ (t23_p : Option Addr) (t23_l t23_c : Nat), hcell h_3 ⟨r, 2, none⟩ = some (.slice t23_p t23_l t23_c) ∧
          ((0 : Int) ≤ 0 ∧ 0 < ((t23_l : Nat) : Int)) ∧
          onSome t23_p fun a =>
          ∃ (t25 : Int), hcell h_3 (a.add (Int.toNat 0 * 1)) = some (.int .u8 t25) ∧
          ∃ (t30_p : Option Addr) (t30_l t30_c : Nat), hcell h_3 ⟨r, 2, none⟩ = some (.slice t30_p t30_l t30_c) ∧
          ((0 : Int) ≤ 1 ∧ 1 ≤ ((t30_l : Nat) : Int)) ∧ 
          StoreP h_3 ⟨r, 2, none⟩ (.slice (slBase t30_p t30_c (Int.toNat 1) 1) (t30_l - (Int.toNat 1)) (t30_c - (Int.toNat 1))) fun h_5 =>
          JoinP (fun (t52 : Bool) (h_6 : Heap) =>
            if t52 = true then
              CallsH Try.prog F.fields_fault_fail #[.pointer (some ⟨r, 0, none⟩), .int .i64 3] h_6 fun v_2 h_7 =>
              v_2 = .tuple #[] ∧
              J h_7
            else
              if IntKind.wrap .i64 (7 * i) < 0 then False else
              if ((IntKind.wrap .u8 ((BitVec.ofInt (IntKind.bits .u8) t25 &&& BitVec.ofInt (IntKind.bits .u8) 128).toNat : Int)) == 0) = true then
                R (.int .u64 (IntKind.wrap .u64 ((BitVec.ofInt (IntKind.bits .u64) n ||| BitVec.ofInt (IntKind.bits .u64) (IntKind.wrap .u64 ((IntKind.wrap .u64 (IntKind.wrap .u8 ((BitVec.ofInt (IntKind.bits .u8) t25 &&& BitVec.ofInt (IntKind.bits .u8) 127).toNat : Int))) * 2 ^ min (Int.toNat (IntKind.wrap .i64 (7 * i))) (IntKind.bits .u64)))).toNat : Int))) h_6
              else
                (I (IntKind.wrap .u64 ((BitVec.ofInt (IntKind.bits .u64) n ||| BitVec.ofInt (IntKind.bits .u64) (IntKind.wrap .u64 ((IntKind.wrap .u64 (IntKind.wrap .u8 ((BitVec.ofInt (IntKind.bits .u8) t25 &&& BitVec.ofInt (IntKind.bits .u8) 127).toNat : Int))) * 2 ^ min (Int.toNat (IntKind.wrap .i64 (7 * i))) (IntKind.bits .u64)))).toNat : Int)) (IntKind.wrap .i64 (i + 1)) h_6 ∧ mu (IntKind.wrap .u64 ((BitVec.ofInt (IntKind.bits .u64) n ||| BitVec.ofInt (IntKind.bits .u64) (IntKind.wrap .u64 ((IntKind.wrap .u64 (IntKind.wrap .u8 ((BitVec.ofInt (IntKind.bits .u8) t25 &&& BitVec.ofInt (IntKind.bits .u8) 127).toNat : Int))) * 2 ^ min (Int.toNat (IntKind.wrap .i64 (7 * i))) (IntKind.bits .u64)))).toNat : Int)) (IntKind.wrap .i64 (i + 1)) h_6 < mu n i h_2))
          (fun J_1 =>
            if (i == 10) = true then
              J_1 true h_5
            else
              if ((IntKind.wrap .i64 (i * 7)) == 63) = true then
                if (decide (t25 > 1)) = true then
                  J_1 true h_5
                else
                  if (t25 == 0) = true then
                    J_1 (decide (i > 0)) h_5
                  else
                    J_1 false h_5
              else
                if (t25 == 0) = true then
                  J_1 (decide (i > 0)) h_5
                else
                  J_1 false h_5)
      else
        J h_3)
theorem fields_Reader_Num.den_eq (r : Nat) (h : Heap) (R : Value → Heap → Prop) : fields_Reader_Num.vc r h R = den Try.prog Try.f45.ntmps (.seq .leaf (.seq .leaf (.seq (.seq .leaf (.join [] (.block (.loop [(3, .one (.int .u64)), (4, .one (.int .i64))] (.seq (.seq .leaf (.cond .leaf .leaf)) (.seq (.block (.seq (.seq .leaf (.cond (.seq .leaf .leaf) .leaf)) (.seq .leaf (.seq .leaf (.seq (.seq (.join [(52, .one (.bool))] .leaf) (.cond (.seq .leaf .leaf) .leaf)) (.seq .leaf (.seq .leaf (.cond (.seq .leaf .leaf) .leaf)))))))) .leaf)))))) (.seq .leaf .leaf)))) none (bodyOf Try.f45) (retK Try.prog Try.f45.results R) (argEnv [.pointer (some ⟨r, 0, none⟩)]) h := by kernel_rfl
theorem fields_Reader_Num.walk {r : Nat} {h : Heap} {R : Value → Heap → Prop} (hv : fields_Reader_Num.vc r h R) : CallsH Try.prog F.fields_Reader_Num #[.pointer (some ⟨r, 0, none⟩)] h R :=
  callsH_of_body _ Try.func45 rfl rfl (Eq.mp (fields_Reader_Num.den_eq r h R) hv)

def fields_Reader_Num.nil.vc  (h : Heap) (R : Value → Heap → Prop) : Prop :=
  JoinP (fun (h_1 : Heap) =>
    R (.int .u64 0) h_1)
  (fun J =>
    ∃ (I : Int → Int → Heap → Prop) (mu : Int → Int → Heap → Nat), I 0 0 h ∧ ∀ (n : Int) (i : Int) (h_2 : Heap), I n i h_2 →
      CallsH Try.prog F.fields_Reader_fine #[.pointer none] h_2 fun v h_3 =>
      ∃ (t7 : Bool), v = .bool t7 ∧
      if t7 = true then
        False
      else
        J h_3)
theorem fields_Reader_Num.nil.den_eq  (h : Heap) (R : Value → Heap → Prop) : fields_Reader_Num.nil.vc h R = den Try.prog Try.f45.ntmps (.seq .leaf (.seq .leaf (.seq (.seq .leaf (.join [] (.block (.loop [(3, .one (.int .u64)), (4, .one (.int .i64))] (.seq (.seq .leaf (.cond .leaf .leaf)) (.seq (.block (.seq (.seq .leaf (.cond (.seq .leaf .leaf) .leaf)) (.seq .leaf (.seq .leaf (.seq (.seq (.join [(52, .one (.bool))] .leaf) (.cond (.seq .leaf .leaf) .leaf)) (.seq .leaf (.seq .leaf (.cond (.seq .leaf .leaf) .leaf)))))))) .leaf)))))) (.seq .leaf .leaf)))) none (bodyOf Try.f45) (retK Try.prog Try.f45.results R) (argEnv [.pointer none]) h := by kernel_rfl
theorem fields_Reader_Num.nil.walk  {h : Heap} {R : Value → Heap → Prop} (hv : fields_Reader_Num.nil.vc h R) : CallsH Try.prog F.fields_Reader_Num #[.pointer none] h R :=
  callsH_of_body _ Try.func45 rfl rfl (Eq.mp (fields_Reader_Num.nil.den_eq h R) hv)

def fields_Reader_atMost.vc (r : Nat) (top : Int) (h : Heap) (R : Value → Heap → Prop) : Prop :=
  CallsH Try.prog F.fields_Reader_Num #[.pointer (some ⟨r, 0, none⟩)] h fun v h_1 =>
  ∃ (t7 : Int), v = .int .u64 t7 ∧
  if (decide (t7 > top)) = true then
    CallsH Try.prog F.fields_fault_fail #[.pointer (some ⟨r, 0, none⟩), .int .i64 3] h_1 fun v_1 h_2 =>
    v_1 = .tuple #[] ∧
    R (.int .u64 0) h_2
  else
    R (.int .u64 t7) h_1
theorem fields_Reader_atMost.den_eq (r : Nat) (top : Int) (h : Heap) (R : Value → Heap → Prop) : fields_Reader_atMost.vc r top h R = den Try.prog Try.f55.ntmps (.seq .leaf (.seq .leaf (.seq (.seq .leaf (.cond (.seq .leaf (.seq .leaf .leaf)) .leaf)) (.seq .leaf .leaf)))) none (bodyOf Try.f55) (retK Try.prog Try.f55.results R) (argEnv [.pointer (some ⟨r, 0, none⟩), .int .u64 top]) h := by kernel_rfl
theorem fields_Reader_atMost.walk {r : Nat} {top : Int} {h : Heap} {R : Value → Heap → Prop} (hv : fields_Reader_atMost.vc r top h R) : CallsH Try.prog F.fields_Reader_atMost #[.pointer (some ⟨r, 0, none⟩), .int .u64 top] h R :=
  callsH_of_body _ Try.func55 rfl rfl (Eq.mp (fields_Reader_atMost.den_eq r top h R) hv)

def fields_Reader_atMost.nil.vc (top : Int) (h : Heap) (R : Value → Heap → Prop) : Prop :=
  CallsH Try.prog F.fields_Reader_Num #[.pointer none] h fun v h_1 =>
  ∃ (t7 : Int), v = .int .u64 t7 ∧
  if (decide (t7 > top)) = true then
    False
  else
    R (.int .u64 t7) h_1
theorem fields_Reader_atMost.nil.den_eq (top : Int) (h : Heap) (R : Value → Heap → Prop) : fields_Reader_atMost.nil.vc top h R = den Try.prog Try.f55.ntmps (.seq .leaf (.seq .leaf (.seq (.seq .leaf (.cond (.seq .leaf (.seq .leaf .leaf)) .leaf)) (.seq .leaf .leaf)))) none (bodyOf Try.f55) (retK Try.prog Try.f55.results R) (argEnv [.pointer none, .int .u64 top]) h := by kernel_rfl
theorem fields_Reader_atMost.nil.walk {top : Int} {h : Heap} {R : Value → Heap → Prop} (hv : fields_Reader_atMost.nil.vc top h R) : CallsH Try.prog F.fields_Reader_atMost #[.pointer none, .int .u64 top] h R :=
  callsH_of_body _ Try.func55 rfl rfl (Eq.mp (fields_Reader_atMost.nil.den_eq top h R) hv)

def fields_Reader_Int.vc (r : Nat) (h : Heap) (R : Value → Heap → Prop) : Prop :=
  CallsH Try.prog F.fields_Reader_atMost #[.pointer (some ⟨r, 0, none⟩), .int .u64 1099511627776] h fun v h_1 =>
  ∃ (t4 : Int), v = .int .u64 t4 ∧
  R (.int .i64 (IntKind.wrap .i64 t4)) h_1
theorem fields_Reader_Int.den_eq (r : Nat) (h : Heap) (R : Value → Heap → Prop) : fields_Reader_Int.vc r h R = den Try.prog Try.f42.ntmps (.seq .leaf (.seq .leaf .leaf)) none (bodyOf Try.f42) (retK Try.prog Try.f42.results R) (argEnv [.pointer (some ⟨r, 0, none⟩)]) h := by kernel_rfl
theorem fields_Reader_Int.walk {r : Nat} {h : Heap} {R : Value → Heap → Prop} (hv : fields_Reader_Int.vc r h R) : CallsH Try.prog F.fields_Reader_Int #[.pointer (some ⟨r, 0, none⟩)] h R :=
  callsH_of_body _ Try.func42 rfl rfl (Eq.mp (fields_Reader_Int.den_eq r h R) hv)

def fields_Reader_Text.vc (r : Nat) (h : Heap) (R : Value → Heap → Prop) : Prop :=
  CallsH Try.prog F.fields_Reader_Num #[.pointer (some ⟨r, 0, none⟩)] h fun v h_1 =>
  ∃ (t6 : Int), v = .int .u64 t6 ∧
  CallsH Try.prog F.fields_Reader_fine #[.pointer (some ⟨r, 0, none⟩)] h_1 fun v_1 h_2 =>
  ∃ (t8 : Bool), v_1 = .bool t8 ∧
  if (!t8) = true then
    R (.slice none 0 0) h_2
  else
    ∃ (t14_p : Option Addr) (t14_l t14_c : Nat), hcell h_2 ⟨r, 2, none⟩ = some (.slice t14_p t14_l t14_c) ∧
    if (decide (t6 > (IntKind.wrap .u64 ((t14_l : Nat) : Int)))) = true then
      CallsH Try.prog F.fields_fault_fail #[.pointer (some ⟨r, 0, none⟩), .int .i64 8] h_2 fun v_2 h_3 =>
      v_2 = .tuple #[] ∧
      R (.slice none 0 0) h_3
    else
      ∃ (t25_p : Option Addr) (t25_l t25_c : Nat), hcell h_2 ⟨r, 2, none⟩ = some (.slice t25_p t25_l t25_c) ∧
      ((0 : Int) ≤ t6 ∧ t6 ≤ ((t25_c : Nat) : Int)) ∧ 
      CallsH Try.prog F.slices_Clone_s_byte_byte #[.slice (slBase t25_p t25_c 0 1) ((Int.toNat t6) - 0) (t25_c - 0)] h_2 fun v_3 h_4 =>
      ∃ (t28_p : Option Addr) (t28_l t28_c : Nat), v_3 = .slice t28_p t28_l t28_c ∧
      ∃ (t33_p : Option Addr) (t33_l t33_c : Nat), hcell h_4 ⟨r, 2, none⟩ = some (.slice t33_p t33_l t33_c) ∧
      ((0 : Int) ≤ t6 ∧ t6 ≤ ((t33_l : Nat) : Int)) ∧ 
      StoreP h_4 ⟨r, 2, none⟩ (.slice (slBase t33_p t33_c (Int.toNat t6) 1) (t33_l - (Int.toNat t6)) (t33_c - (Int.toNat t6))) fun h_5 =>
      R (.slice t28_p t28_l t28_c) h_5
theorem fields_Reader_Text.den_eq (r : Nat) (h : Heap) (R : Value → Heap → Prop) : fields_Reader_Text.vc r h R = den Try.prog Try.f44.ntmps (.seq .leaf (.seq .leaf (.seq (.seq .leaf (.cond (.seq .leaf .leaf) .leaf)) (.seq (.seq .leaf (.cond (.seq .leaf (.seq .leaf .leaf)) .leaf)) (.seq .leaf (.seq .leaf (.seq .leaf .leaf))))))) none (bodyOf Try.f44) (retK Try.prog Try.f44.results R) (argEnv [.pointer (some ⟨r, 0, none⟩)]) h := by kernel_rfl
theorem fields_Reader_Text.walk {r : Nat} {h : Heap} {R : Value → Heap → Prop} (hv : fields_Reader_Text.vc r h R) : CallsH Try.prog F.fields_Reader_Text #[.pointer (some ⟨r, 0, none⟩)] h R :=
  callsH_of_body _ Try.func44 rfl rfl (Eq.mp (fields_Reader_Text.den_eq r h R) hv)

def fields_Reader_End.vc (r : Nat) (h : Heap) (R : Value → Heap → Prop) : Prop :=
  JoinP (fun (t3 : Bool) (h_1 : Heap) =>
    if t3 = true then
      R (.int .i64 6) h_1
    else
      ∃ (t18 : Int), hcell h_1 ⟨r, 0, none⟩ = some (.int .i64 t18) ∧
      if (t18 != 0) = true then
        ∃ (t24 : Int), hcell h_1 ⟨r, 0, none⟩ = some (.int .i64 t24) ∧
        R (.int .i64 t24) h_1
      else
        ∃ (t29_p : Option Addr) (t29_l t29_c : Nat), hcell h_1 ⟨r, 2, none⟩ = some (.slice t29_p t29_l t29_c) ∧
        if (decide (((t29_l : Nat) : Int) > 0)) = true then
          R (.int .i64 2) h_1
        else
          R (.int .i64 0) h_1)
  (fun J =>
    ∃ (t10 : Bool), hcell h ⟨r, 1, none⟩ = some (.bool t10) ∧
    J (!t10) h)
theorem fields_Reader_End.den_eq (r : Nat) (h : Heap) (R : Value → Heap → Prop) : fields_Reader_End.vc r h R = den Try.prog Try.f43.ntmps (.seq .leaf (.seq (.block (.seq (.join [(3, .one (.bool))] .leaf) (.cond (.seq .leaf .leaf) (.seq .leaf (.cond (.seq .leaf .leaf) (.seq .leaf (.cond (.seq .leaf .leaf) .leaf))))))) (.seq .leaf .leaf))) none (bodyOf Try.f43) (retK Try.prog Try.f43.results R) (argEnv [.pointer (some ⟨r, 0, none⟩)]) h := by kernel_rfl
theorem fields_Reader_End.walk {r : Nat} {h : Heap} {R : Value → Heap → Prop} (hv : fields_Reader_End.vc r h R) : CallsH Try.prog F.fields_Reader_End #[.pointer (some ⟨r, 0, none⟩)] h R :=
  callsH_of_body _ Try.func43 rfl rfl (Eq.mp (fields_Reader_End.den_eq r h R) hv)

def fields_Reader_End.nil.vc  (h : Heap) (R : Value → Heap → Prop) : Prop :=
  JoinP (fun (t3 : Bool) (h_1 : Heap) =>
    if t3 = true then
      R (.int .i64 6) h_1
    else
      False)
  (fun J =>
    J true h)
theorem fields_Reader_End.nil.den_eq  (h : Heap) (R : Value → Heap → Prop) : fields_Reader_End.nil.vc h R = den Try.prog Try.f43.ntmps (.seq .leaf (.seq (.block (.seq (.join [(3, .one (.bool))] .leaf) (.cond (.seq .leaf .leaf) (.seq .leaf (.cond (.seq .leaf .leaf) (.seq .leaf (.cond (.seq .leaf .leaf) .leaf))))))) (.seq .leaf .leaf))) none (bodyOf Try.f43) (retK Try.prog Try.f43.results R) (argEnv [.pointer none]) h := by kernel_rfl
theorem fields_Reader_End.nil.walk  {h : Heap} {R : Value → Heap → Prop} (hv : fields_Reader_End.nil.vc h R) : CallsH Try.prog F.fields_Reader_End #[.pointer none] h R :=
  callsH_of_body _ Try.func43 rfl rfl (Eq.mp (fields_Reader_End.nil.den_eq h R) hv)

end Go.Proofs.Ytlonfpolnmiglaa
