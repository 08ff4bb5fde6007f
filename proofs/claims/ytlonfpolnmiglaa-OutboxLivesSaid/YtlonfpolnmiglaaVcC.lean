/-
  Printed by a program of this work (vc.py): the verification conditions of functions, and that each is enough for the call. No condition.
-/
import Derived.Test.YtlonfpolnmiglaaNames
set_option maxRecDepth 100000
set_option maxHeartbeats 4000000
namespace Go.Proofs.Ytlonfpolnmiglaa
open Go.Den
def outbox_New.vc  (h : Heap) (R : Value → Heap → Prop) : Prop :=
  CallsH Try.prog F.alarm_New #[] h fun v h_1 =>
  ∃ (t1 : Option Addr), v = .pointer t1 ∧
  NewP h_1 (.cells #[.slice none 0 0, .int .i64 1, .int .i64 0, .int .i64 0, .int .i64 0, .pointer t1] T.outbox_Box) fun b h_2 =>
  R (.pointer (some ⟨b, 0, none⟩)) h_2
theorem outbox_New.den_eq  (h : Heap) (R : Value → Heap → Prop) : outbox_New.vc h R = den Try.prog Try.f6.ntmps (.seq .leaf (.seq .leaf .leaf)) none (bodyOf Try.f6) (retK Try.prog Try.f6.results R) (argEnv []) h := by kernel_rfl
theorem outbox_New.walk  {h : Heap} {R : Value → Heap → Prop} (hv : outbox_New.vc h R) : CallsH Try.prog F.outbox_New #[] h R :=
  callsH_of_body _ Try.func6 rfl rfl (Eq.mp (outbox_New.den_eq h R) hv)

def outbox_Box_made.vc (b : Nat) (h : Heap) (R : Value → Heap → Prop) : Prop :=
  ∃ (t9 : Option Addr), hcell h ⟨b, 5, none⟩ = some (.pointer t9) ∧
  R (.bool (!t9.isNone)) h
theorem outbox_Box_made.den_eq (b : Nat) (h : Heap) (R : Value → Heap → Prop) : outbox_Box_made.vc b h R = den Try.prog Try.f25.ntmps (.seq .leaf (.seq .leaf .leaf)) none (bodyOf Try.f25) (retK Try.prog Try.f25.results R) (argEnv [.pointer (some ⟨b, 0, none⟩)]) h := by kernel_rfl
theorem outbox_Box_made.walk {b : Nat} {h : Heap} {R : Value → Heap → Prop} (hv : outbox_Box_made.vc b h R) : CallsH Try.prog F.outbox_Box_made #[.pointer (some ⟨b, 0, none⟩)] h R :=
  callsH_of_body _ Try.func25 rfl rfl (Eq.mp (outbox_Box_made.den_eq b h R) hv)

def outbox_Box_made.nil.vc  (h : Heap) (R : Value → Heap → Prop) : Prop :=
  R (.bool false) h
theorem outbox_Box_made.nil.den_eq  (h : Heap) (R : Value → Heap → Prop) : outbox_Box_made.nil.vc h R = den Try.prog Try.f25.ntmps (.seq .leaf (.seq .leaf .leaf)) none (bodyOf Try.f25) (retK Try.prog Try.f25.results R) (argEnv [.pointer none]) h := by kernel_rfl
theorem outbox_Box_made.nil.walk  {h : Heap} {R : Value → Heap → Prop} (hv : outbox_Box_made.nil.vc h R) : CallsH Try.prog F.outbox_Box_made #[.pointer none] h R :=
  callsH_of_body _ Try.func25 rfl rfl (Eq.mp (outbox_Box_made.nil.den_eq h R) hv)

def outbox_copied.vc (x_0 : Int) (x_1 : Int) (x_2_p : Option Addr) (x_2_l x_2_c : Nat) (x_3 : Int) (h : Heap) (R : Value → Heap → Prop) : Prop :=
  NewP h (.cells #[.int .i64 x_0, .int .i64 x_1, .slice x_2_p x_2_l x_2_c, .int .u64 x_3] T.outbox_Item) fun b h_1 =>
  NewP h_1 (.cells #[.int .i64 0, .int .i64 0, .slice none 0 0, .int .u64 0] T.outbox_Item) fun b_1 h_2 =>
  ∃ (t4_p : Option Addr) (t4_l t4_c : Nat), hcell h_2 ⟨b, 2, none⟩ = some (.slice t4_p t4_l t4_c) ∧
  CallsH Try.prog F.slices_Clone_s_byte_byte #[.slice t4_p t4_l t4_c] h_2 fun v h_3 =>
  ∃ (t5_p : Option Addr) (t5_l t5_c : Nat), v = .slice t5_p t5_l t5_c ∧
  StoreP h_3 ⟨b, 2, none⟩ (.slice t5_p t5_l t5_c) fun h_4 =>
  ∃ (t7_0 : Int), hcell h_4 ⟨b, 0, none⟩ = some (.int .i64 t7_0) ∧ ∃ (t7_1 : Int), hcell h_4 ⟨b, 1, none⟩ = some (.int .i64 t7_1) ∧ ∃ (t7_2_p : Option Addr) (t7_2_l t7_2_c : Nat), hcell h_4 ⟨b, 2, none⟩ = some (.slice t7_2_p t7_2_l t7_2_c) ∧ ∃ (t7_3 : Int), hcell h_4 ⟨b, 3, none⟩ = some (.int .u64 t7_3) ∧ 
  StoreP h_4 ⟨b_1, 0, none⟩ (.int .i64 t7_0) fun h_5 =>
  StoreP h_5 ⟨b_1, 1, none⟩ (.int .i64 t7_1) fun h_6 =>
  StoreP h_6 ⟨b_1, 2, none⟩ (.slice t7_2_p t7_2_l t7_2_c) fun h_7 =>
  StoreP h_7 ⟨b_1, 3, none⟩ (.int .u64 t7_3) fun h_8 =>
  ∃ (r_0 : Int), hcell h_8 ⟨b_1, 0, none⟩ = some (.int .i64 r_0) ∧ ∃ (r_1 : Int), hcell h_8 ⟨b_1, 1, none⟩ = some (.int .i64 r_1) ∧ ∃ (r_2_p : Option Addr) (r_2_l r_2_c : Nat), hcell h_8 ⟨b_1, 2, none⟩ = some (.slice r_2_p r_2_l r_2_c) ∧ ∃ (r_3 : Int), hcell h_8 ⟨b_1, 3, none⟩ = some (.int .u64 r_3) ∧ 
  R (.agg #[.int .i64 r_0, .int .i64 r_1, .slice r_2_p r_2_l r_2_c, .int .u64 r_3]) h_8
theorem outbox_copied.den_eq (x_0 : Int) (x_1 : Int) (x_2_p : Option Addr) (x_2_l x_2_c : Nat) (x_3 : Int) (h : Heap) (R : Value → Heap → Prop) : outbox_copied.vc x_0 x_1 x_2_p x_2_l x_2_c x_3 h R = den Try.prog Try.f26.ntmps (.seq .leaf (.seq .leaf (.seq .leaf .leaf))) none (bodyOf Try.f26) (retK Try.prog Try.f26.results R) (argEnv [.agg #[.int .i64 x_0, .int .i64 x_1, .slice x_2_p x_2_l x_2_c, .int .u64 x_3]]) h := by kernel_rfl
theorem outbox_copied.walk {x_0 : Int} {x_1 : Int} {x_2_p : Option Addr} {x_2_l x_2_c : Nat} {x_3 : Int} {h : Heap} {R : Value → Heap → Prop} (hv : outbox_copied.vc x_0 x_1 x_2_p x_2_l x_2_c x_3 h R) : CallsH Try.prog F.outbox_copied #[.agg #[.int .i64 x_0, .int .i64 x_1, .slice x_2_p x_2_l x_2_c, .int .u64 x_3]] h R :=
  callsH_of_body _ Try.func26 rfl rfl (Eq.mp (outbox_copied.den_eq x_0 x_1 x_2_p x_2_l x_2_c x_3 h R) hv)

def outbox_right.vc (x_0 : Int) (x_1 : Int) (x_2_p : Option Addr) (x_2_l x_2_c : Nat) (x_3 : Int) (h : Heap) (R : Value → Heap → Prop) : Prop :=
  NewP h (.cells #[.int .i64 x_0, .int .i64 x_1, .slice x_2_p x_2_l x_2_c, .int .u64 x_3] T.outbox_Item) fun b h_1 =>
  ∃ (t4 : Int), hcell h_1 ⟨b, 1, none⟩ = some (.int .i64 t4) ∧
  if (decide (t4 ≥ 1)) = true then
    ∃ (t8 : Int), hcell h_1 ⟨b, 1, none⟩ = some (.int .i64 t8) ∧
    if (decide (t8 ≤ 1099511627776)) = true then
      ∃ (t13_p : Option Addr) (t13_l t13_c : Nat), hcell h_1 ⟨b, 2, none⟩ = some (.slice t13_p t13_l t13_c) ∧
      if (decide (((t13_l : Nat) : Int) ≥ 1)) = true then
        ∃ (t19_p : Option Addr) (t19_l t19_c : Nat), hcell h_1 ⟨b, 2, none⟩ = some (.slice t19_p t19_l t19_c) ∧
        if (decide (((t19_l : Nat) : Int) ≤ 600)) = true then
          ∃ (t25 : Int), hcell h_1 ⟨b, 3, none⟩ = some (.int .u64 t25) ∧
          R (.bool (decide (t25 ≤ 1099511627776))) h_1
        else
          R (.bool false) h_1
      else
        R (.bool false) h_1
    else
      R (.bool false) h_1
  else
    R (.bool false) h_1
theorem outbox_right.den_eq (x_0 : Int) (x_1 : Int) (x_2_p : Option Addr) (x_2_l x_2_c : Nat) (x_3 : Int) (h : Heap) (R : Value → Heap → Prop) : outbox_right.vc x_0 x_1 x_2_p x_2_l x_2_c x_3 h R = den Try.prog Try.f27.ntmps (.seq .leaf (.seq .leaf .leaf)) none (bodyOf Try.f27) (retK Try.prog Try.f27.results R) (argEnv [.agg #[.int .i64 x_0, .int .i64 x_1, .slice x_2_p x_2_l x_2_c, .int .u64 x_3]]) h := by kernel_rfl
theorem outbox_right.walk {x_0 : Int} {x_1 : Int} {x_2_p : Option Addr} {x_2_l x_2_c : Nat} {x_3 : Int} {h : Heap} {R : Value → Heap → Prop} (hv : outbox_right.vc x_0 x_1 x_2_p x_2_l x_2_c x_3 h R) : CallsH Try.prog F.outbox_right #[.agg #[.int .i64 x_0, .int .i64 x_1, .slice x_2_p x_2_l x_2_c, .int .u64 x_3]] h R :=
  callsH_of_body _ Try.func27 rfl rfl (Eq.mp (outbox_right.den_eq x_0 x_1 x_2_p x_2_l x_2_c x_3 h R) hv)

def outbox_Box_find.vc (b : Nat) (num : Int) (h : Heap) (R : Value → Heap → Prop) : Prop :=
  NewP h (.cells #[.int .i64 num] T.int) fun b_1 h_1 =>
  ∃ (t8_p : Option Addr) (t8_l t8_c : Nat), hcell h_1 ⟨b, 0, none⟩ = some (.slice t8_p t8_l t8_c) ∧
  CallsH Try.prog F.slices_IndexFunc_s_outbox_Item_outbox_Item #[.slice t8_p t8_l t8_c, .func (.func F.outbox_Box_find_1) #[] #[.pointer (some ⟨b_1, 0, none⟩)]] h_1 fun v h_2 =>
  ∃ (t10 : Int), v = .int .i64 t10 ∧
  R (.int .i64 t10) h_2
theorem outbox_Box_find.den_eq (b : Nat) (num : Int) (h : Heap) (R : Value → Heap → Prop) : outbox_Box_find.vc b num h R = den Try.prog Try.f31.ntmps (.seq .leaf (.seq .leaf .leaf)) none (bodyOf Try.f31) (retK Try.prog Try.f31.results R) (argEnv [.pointer (some ⟨b, 0, none⟩), .int .i64 num]) h := by kernel_rfl
theorem outbox_Box_find.walk {b : Nat} {num : Int} {h : Heap} {R : Value → Heap → Prop} (hv : outbox_Box_find.vc b num h R) : CallsH Try.prog F.outbox_Box_find #[.pointer (some ⟨b, 0, none⟩), .int .i64 num] h R :=
  callsH_of_body _ Try.func31 rfl rfl (Eq.mp (outbox_Box_find.den_eq b num h R) hv)

def outbox_Box_find_1.vc (x_0 : Int) (x_1 : Int) (x_2_p : Option Addr) (x_2_l x_2_c : Nat) (x_3 : Int) (c0 : Nat) (h : Heap) (R : Value → Heap → Prop) : Prop :=
  NewP h (.cells #[.int .i64 x_0, .int .i64 x_1, .slice x_2_p x_2_l x_2_c, .int .u64 x_3] T.outbox_Item) fun b h_1 =>
  ∃ (t5 : Int), hcell h_1 ⟨b, 0, none⟩ = some (.int .i64 t5) ∧
  ∃ (t6 : Int), hcell h_1 ⟨c0, 0, none⟩ = some (.int .i64 t6) ∧
  R (.bool (t5 == t6)) h_1
theorem outbox_Box_find_1.den_eq (x_0 : Int) (x_1 : Int) (x_2_p : Option Addr) (x_2_l x_2_c : Nat) (x_3 : Int) (c0 : Nat) (h : Heap) (R : Value → Heap → Prop) : outbox_Box_find_1.vc x_0 x_1 x_2_p x_2_l x_2_c x_3 c0 h R = den Try.prog Try.f54.ntmps (.seq .leaf (.seq .leaf .leaf)) none (bodyOf Try.f54) (retK Try.prog Try.f54.results R) (argEnv [.agg #[.int .i64 x_0, .int .i64 x_1, .slice x_2_p x_2_l x_2_c, .int .u64 x_3], .pointer (some ⟨c0, 0, none⟩)]) h := by kernel_rfl
theorem outbox_Box_find_1.walk {x_0 : Int} {x_1 : Int} {x_2_p : Option Addr} {x_2_l x_2_c : Nat} {x_3 : Int} {c0 : Nat} {h : Heap} {R : Value → Heap → Prop} (hv : outbox_Box_find_1.vc x_0 x_1 x_2_p x_2_l x_2_c x_3 c0 h R) : CallsH Try.prog F.outbox_Box_find_1 #[.agg #[.int .i64 x_0, .int .i64 x_1, .slice x_2_p x_2_l x_2_c, .int .u64 x_3], .pointer (some ⟨c0, 0, none⟩)] h R :=
  callsH_of_body _ Try.func54 rfl rfl (Eq.mp (outbox_Box_find_1.den_eq x_0 x_1 x_2_p x_2_l x_2_c x_3 c0 h R) hv)

def outbox_Box_cut.vc (b : Nat) (i : Int) (h : Heap) (R : Value → Heap → Prop) : Prop :=
  NewP h (.cells #[.int .i64 0, .int .i64 0, .slice none 0 0, .int .u64 0] T.outbox_Item) fun b_1 h_1 =>
  ∃ (t9_p : Option Addr) (t9_l t9_c : Nat), hcell h_1 ⟨b, 0, none⟩ = some (.slice t9_p t9_l t9_c) ∧
  ((0 : Int) ≤ i ∧ i < ((t9_l : Nat) : Int)) ∧
  onSome t9_p fun a =>
  ∃ (t12_0 : Int), hcell h_1 (a.add (Int.toNat i * 4)) = some (.int .i64 t12_0) ∧ ∃ (t12_1 : Int), hcell h_1 ((a.add (Int.toNat i * 4)).add 1) = some (.int .i64 t12_1) ∧ ∃ (t12_2_p : Option Addr) (t12_2_l t12_2_c : Nat), hcell h_1 ((a.add (Int.toNat i * 4)).add 2) = some (.slice t12_2_p t12_2_l t12_2_c) ∧ ∃ (t12_3 : Int), hcell h_1 ((a.add (Int.toNat i * 4)).add 3) = some (.int .u64 t12_3) ∧ 
  NewP h_1 (.cells #[.int .i64 0, .int .i64 0, .slice none 0 0, .int .u64 0] T.outbox_Item) fun b_2 h_2 =>
  StoreP h_2 ⟨b_2, 0, none⟩ (.int .i64 t12_0) fun h_3 =>
  StoreP h_3 ⟨b_2, 1, none⟩ (.int .i64 t12_1) fun h_4 =>
  StoreP h_4 ⟨b_2, 2, none⟩ (.slice t12_2_p t12_2_l t12_2_c) fun h_5 =>
  StoreP h_5 ⟨b_2, 3, none⟩ (.int .u64 t12_3) fun h_6 =>
  ∃ (t16 : Option Addr), hcell h_6 ⟨b, 5, none⟩ = some (.pointer t16) ∧
  ∃ (t18 : Int), hcell h_6 ⟨b_2, 0, none⟩ = some (.int .i64 t18) ∧
  CallsH Try.prog F.alarm_Alarm_Drop #[.pointer t16, .int .i64 t18] h_6 fun v h_7 =>
  ∃ (t19 : Int), v = .int .i64 t19 ∧
  ∃ (t24_p : Option Addr) (t24_l t24_c : Nat), hcell h_7 ⟨b, 0, none⟩ = some (.slice t24_p t24_l t24_c) ∧
  ((0 : Int) ≤ i ∧ i ≤ ((t24_c : Nat) : Int)) ∧ 
  ∃ (t30_p : Option Addr) (t30_l t30_c : Nat), hcell h_7 ⟨b, 0, none⟩ = some (.slice t30_p t30_l t30_c) ∧
  ((0 : Int) ≤ IntKind.wrap .i64 (i + 1) ∧ IntKind.wrap .i64 (i + 1) ≤ ((t30_l : Nat) : Int)) ∧ 
  NewP h_7 (.cells #[.slice (slBase t24_p t24_c 0 4) ((Int.toNat i) - 0) (t24_c - 0), .slice (slBase t30_p t30_c (Int.toNat (IntKind.wrap .i64 (i + 1))) 4) (t30_l - (Int.toNat (IntKind.wrap .i64 (i + 1)))) (t30_c - (Int.toNat (IntKind.wrap .i64 (i + 1))))] T.s_outbox_Item) fun b_3 h_8 =>
  hcell h_8 ⟨b, 0, none⟩ = some (.slice t30_p t30_l t30_c) ∧
  hcell h_8 ⟨b, 0, none⟩ = some (.slice t24_p t24_l t24_c) ∧
  CallsH Try.prog F.slices_Concat_s_outbox_Item_outbox_Item #[.slice (some ⟨b_3, 0, none⟩) 2 2] h_8 fun v_1 h_9 =>
  ∃ (t35_p : Option Addr) (t35_l t35_c : Nat), v_1 = .slice t35_p t35_l t35_c ∧
  hcell h_9 ⟨b, 0, none⟩ = some (.slice t30_p t30_l t30_c) ∧
  hcell h_9 ⟨b, 0, none⟩ = some (.slice t24_p t24_l t24_c) ∧
  StoreP h_9 ⟨b, 0, none⟩ (.slice t35_p t35_l t35_c) fun h_10 =>
  ∃ (t38_0 : Int), hcell h_10 ⟨b_2, 0, none⟩ = some (.int .i64 t38_0) ∧ ∃ (t38_1 : Int), hcell h_10 ⟨b_2, 1, none⟩ = some (.int .i64 t38_1) ∧ ∃ (t38_2_p : Option Addr) (t38_2_l t38_2_c : Nat), hcell h_10 ⟨b_2, 2, none⟩ = some (.slice t38_2_p t38_2_l t38_2_c) ∧ ∃ (t38_3 : Int), hcell h_10 ⟨b_2, 3, none⟩ = some (.int .u64 t38_3) ∧ 
  StoreP h_10 ⟨b_1, 0, none⟩ (.int .i64 t38_0) fun h_11 =>
  StoreP h_11 ⟨b_1, 1, none⟩ (.int .i64 t38_1) fun h_12 =>
  StoreP h_12 ⟨b_1, 2, none⟩ (.slice t38_2_p t38_2_l t38_2_c) fun h_13 =>
  StoreP h_13 ⟨b_1, 3, none⟩ (.int .u64 t38_3) fun h_14 =>
  ∃ (r_0 : Int), hcell h_14 ⟨b_1, 0, none⟩ = some (.int .i64 r_0) ∧ ∃ (r_1 : Int), hcell h_14 ⟨b_1, 1, none⟩ = some (.int .i64 r_1) ∧ ∃ (r_2_p : Option Addr) (r_2_l r_2_c : Nat), hcell h_14 ⟨b_1, 2, none⟩ = some (.slice r_2_p r_2_l r_2_c) ∧ ∃ (r_3 : Int), hcell h_14 ⟨b_1, 3, none⟩ = some (.int .u64 r_3) ∧ 
  R (.agg #[.int .i64 r_0, .int .i64 r_1, .slice r_2_p r_2_l r_2_c, .int .u64 r_3]) h_14
theorem outbox_Box_cut.den_eq (b : Nat) (i : Int) (h : Heap) (R : Value → Heap → Prop) : outbox_Box_cut.vc b i h R = den Try.prog Try.f30.ntmps (.seq .leaf (.seq .leaf (.seq (.plan (.op 0 (.op 1 (.op 2 (.op 3 (.op 4 (.op 5 (.op 6 .done)))))))) (.seq (.plan (.op 0 (.op 1 (.op 2 (.op 3 (.op 4 (.op 5 (.op 6 (.op 7 (.op 8 (.op 9 (.op 10 (.op 11 (.op 12 (.op 13 (.op 14 (.op 15 (.op 16 (.op 17 (.op 18 .done)))))))))))))))))))) (.seq .leaf .leaf))))) none (bodyOf Try.f30) (retK Try.prog Try.f30.results R) (argEnv [.pointer (some ⟨b, 0, none⟩), .int .i64 i]) h := by kernel_rfl
theorem outbox_Box_cut.walk {b : Nat} {i : Int} {h : Heap} {R : Value → Heap → Prop} (hv : outbox_Box_cut.vc b i h R) : CallsH Try.prog F.outbox_Box_cut #[.pointer (some ⟨b, 0, none⟩), .int .i64 i] h R :=
  callsH_of_body _ Try.func30 rfl rfl (Eq.mp (outbox_Box_cut.den_eq b i h R) hv)

def outbox_Box_All.vc (b : Nat) (h : Heap) (R : Value → Heap → Prop) : Prop :=
  CallsH Try.prog F.outbox_Box_made #[.pointer (some ⟨b, 0, none⟩)] h fun v h_1 =>
  ∃ (t7 : Bool), v = .bool t7 ∧
  JoinP (fun (out_p : Option Addr) (out_l out_c : Nat) (h_2 : Heap) =>
    R (.slice out_p out_l out_c) h_2)
  (fun J =>
    if t7 = true then
      ∃ (t11_p : Option Addr) (t11_l t11_c : Nat), hcell h_1 ⟨b, 0, none⟩ = some (.slice t11_p t11_l t11_c) ∧
      ∃ (I : Option Addr → Nat → Nat → Int → Heap → Prop) (mu : Option Addr → Nat → Nat → Int → Heap → Nat), I none 0 0 0 h_1 ∧ ∀ (out_p_1 : Option Addr) (out_l_1 out_c_1 : Nat) (t13 : Int) (h_3 : Heap), I out_p_1 out_l_1 out_c_1 t13 h_3 →
        if (decide (t13 < ((t11_l : Nat) : Int))) = true then
          ((0 : Int) ≤ t13 ∧ t13 < ((t11_l : Nat) : Int)) ∧
          onSome t11_p fun a =>
          ∃ (t16_0 : Int), hcell h_3 (a.add (Int.toNat t13 * 4)) = some (.int .i64 t16_0) ∧ ∃ (t16_1 : Int), hcell h_3 ((a.add (Int.toNat t13 * 4)).add 1) = some (.int .i64 t16_1) ∧ ∃ (t16_2_p : Option Addr) (t16_2_l t16_2_c : Nat), hcell h_3 ((a.add (Int.toNat t13 * 4)).add 2) = some (.slice t16_2_p t16_2_l t16_2_c) ∧ ∃ (t16_3 : Int), hcell h_3 ((a.add (Int.toNat t13 * 4)).add 3) = some (.int .u64 t16_3) ∧ 
          NewP h_3 (.cells #[.int .i64 0, .int .i64 0, .slice none 0 0, .int .u64 0] T.outbox_Item) fun b_1 h_4 =>
          StoreP h_4 ⟨b_1, 0, none⟩ (.int .i64 t16_0) fun h_5 =>
          StoreP h_5 ⟨b_1, 1, none⟩ (.int .i64 t16_1) fun h_6 =>
          StoreP h_6 ⟨b_1, 2, none⟩ (.slice t16_2_p t16_2_l t16_2_c) fun h_7 =>
          StoreP h_7 ⟨b_1, 3, none⟩ (.int .u64 t16_3) fun h_8 =>
          ∃ (t18_0 : Int), hcell h_8 ⟨b_1, 0, none⟩ = some (.int .i64 t18_0) ∧ ∃ (t18_1 : Int), hcell h_8 ⟨b_1, 1, none⟩ = some (.int .i64 t18_1) ∧ ∃ (t18_2_p : Option Addr) (t18_2_l t18_2_c : Nat), hcell h_8 ⟨b_1, 2, none⟩ = some (.slice t18_2_p t18_2_l t18_2_c) ∧ ∃ (t18_3 : Int), hcell h_8 ⟨b_1, 3, none⟩ = some (.int .u64 t18_3) ∧ 
          CallsH Try.prog F.outbox_copied #[.agg #[.int .i64 t18_0, .int .i64 t18_1, .slice t18_2_p t18_2_l t18_2_c, .int .u64 t18_3]] h_8 fun v_1 h_9 =>
          ∃ (t19_0 : Int), ∃ (t19_1 : Int), ∃ (t19_2_p : Option Addr) (t19_2_l t19_2_c : Nat), ∃ (t19_3 : Int), v_1 = .agg #[.int .i64 t19_0, .int .i64 t19_1, .slice t19_2_p t19_2_l t19_2_c, .int .u64 t19_3] ∧
          NewP h_9 (.cells #[.int .i64 t19_0, .int .i64 t19_1, .slice t19_2_p t19_2_l t19_2_c, .int .u64 t19_3] T.outbox_Item) fun b_2 h_10 =>
          denSem Try.prog (Builtin.append_ #[T.s_outbox_Item, T.s_outbox_Item] T.s_outbox_Item #[.slice out_p_1 out_l_1 out_c_1, .slice (some ⟨b_2, 0, none⟩) 1 1]) h_10 fun v_2 h_11 =>
          ∃ (t21_p : Option Addr) (t21_l t21_c : Nat), v_2 = .slice t21_p t21_l t21_c ∧
          (I t21_p t21_l t21_c (IntKind.wrap .i64 (t13 + 1)) h_11 ∧ mu t21_p t21_l t21_c (IntKind.wrap .i64 (t13 + 1)) h_11 < mu out_p_1 out_l_1 out_c_1 t13 h_3)
        else
          J out_p_1 out_l_1 out_c_1 h_3
    else
      J none 0 0 h_1)
theorem outbox_Box_All.den_eq (b : Nat) (h : Heap) (R : Value → Heap → Prop) : outbox_Box_All.vc b h R = den Try.prog Try.f21.ntmps (.seq .leaf (.seq .leaf (.seq (.seq .leaf (.join [(3, .one (.slice))] (.cond (.seq .leaf (.block (.loop [(3, .one (.slice)), (13, .one (.int .i64))] (.seq .leaf (.seq (.cond .leaf .leaf) (.seq (.block (.seq .leaf .leaf)) .leaf)))))) .leaf))) (.seq .leaf .leaf)))) none (bodyOf Try.f21) (retK Try.prog Try.f21.results R) (argEnv [.pointer (some ⟨b, 0, none⟩)]) h := by kernel_rfl
theorem outbox_Box_All.walk {b : Nat} {h : Heap} {R : Value → Heap → Prop} (hv : outbox_Box_All.vc b h R) : CallsH Try.prog F.outbox_Box_All #[.pointer (some ⟨b, 0, none⟩)] h R :=
  callsH_of_body _ Try.func21 rfl rfl (Eq.mp (outbox_Box_All.den_eq b h R) hv)

def outbox_Box_All.nil.vc  (h : Heap) (R : Value → Heap → Prop) : Prop :=
  CallsH Try.prog F.outbox_Box_made #[.pointer none] h fun v h_1 =>
  ∃ (t7 : Bool), v = .bool t7 ∧
  JoinP (fun (out_p : Option Addr) (out_l out_c : Nat) (h_2 : Heap) =>
    R (.slice out_p out_l out_c) h_2)
  (fun J =>
    if t7 = true then
      False
    else
      J none 0 0 h_1)
theorem outbox_Box_All.nil.den_eq  (h : Heap) (R : Value → Heap → Prop) : outbox_Box_All.nil.vc h R = den Try.prog Try.f21.ntmps (.seq .leaf (.seq .leaf (.seq (.seq .leaf (.join [(3, .one (.slice))] (.cond (.seq .leaf (.block (.loop [(3, .one (.slice)), (13, .one (.int .i64))] (.seq .leaf (.seq (.cond .leaf .leaf) (.seq (.block (.seq .leaf .leaf)) .leaf)))))) .leaf))) (.seq .leaf .leaf)))) none (bodyOf Try.f21) (retK Try.prog Try.f21.results R) (argEnv [.pointer none]) h := by kernel_rfl
theorem outbox_Box_All.nil.walk  {h : Heap} {R : Value → Heap → Prop} (hv : outbox_Box_All.nil.vc h R) : CallsH Try.prog F.outbox_Box_All #[.pointer none] h R :=
  callsH_of_body _ Try.func21 rfl rfl (Eq.mp (outbox_Box_All.nil.den_eq h R) hv)

def outbox_Box_Counts.vc (b : Nat) (h : Heap) (R : Value → Heap → Prop) : Prop :=
  NewP h (.cells #[.int .i64 0, .int .i64 0, .int .i64 0, .int .i64 0, .int .i64 0] T.a5_int) fun b_1 h_1 =>
  CallsH Try.prog F.outbox_Box_made #[.pointer (some ⟨b, 0, none⟩)] h_1 fun v h_2 =>
  ∃ (t4 : Bool), v = .bool t4 ∧
  if (!t4) = true then
    StoreP h_2 ⟨b_1, 0, none⟩ (.int .i64 0) fun h_3 =>
    StoreP h_3 ⟨b_1, 1, none⟩ (.int .i64 0) fun h_4 =>
    StoreP h_4 ⟨b_1, 2, none⟩ (.int .i64 0) fun h_5 =>
    StoreP h_5 ⟨b_1, 3, none⟩ (.int .i64 0) fun h_6 =>
    StoreP h_6 ⟨b_1, 4, none⟩ (.int .i64 0) fun h_7 =>
    ∃ (r_0 : Int), hcell h_7 ⟨b_1, 0, none⟩ = some (.int .i64 r_0) ∧ ∃ (r_1 : Int), hcell h_7 ⟨b_1, 1, none⟩ = some (.int .i64 r_1) ∧ ∃ (r_2 : Int), hcell h_7 ⟨b_1, 2, none⟩ = some (.int .i64 r_2) ∧ ∃ (r_3 : Int), hcell h_7 ⟨b_1, 3, none⟩ = some (.int .i64 r_3) ∧ ∃ (r_4 : Int), hcell h_7 ⟨b_1, 4, none⟩ = some (.int .i64 r_4) ∧ 
    R (.agg #[.int .i64 r_0, .int .i64 r_1, .int .i64 r_2, .int .i64 r_3, .int .i64 r_4]) h_7
  else
    ∃ (t10 : Int), hcell h_2 ⟨b, 1, none⟩ = some (.int .i64 t10) ∧
    ∃ (t15_p : Option Addr) (t15_l t15_c : Nat), hcell h_2 ⟨b, 0, none⟩ = some (.slice t15_p t15_l t15_c) ∧
    ∃ (t20 : Int), hcell h_2 ⟨b, 2, none⟩ = some (.int .i64 t20) ∧
    ∃ (t24 : Int), hcell h_2 ⟨b, 3, none⟩ = some (.int .i64 t24) ∧
    ∃ (t28 : Int), hcell h_2 ⟨b, 4, none⟩ = some (.int .i64 t28) ∧
    StoreP h_2 ⟨b_1, 0, none⟩ (.int .i64 (IntKind.wrap .i64 (t10 - 1))) fun h_8 =>
    StoreP h_8 ⟨b_1, 1, none⟩ (.int .i64 ((t15_l : Nat) : Int)) fun h_9 =>
    StoreP h_9 ⟨b_1, 2, none⟩ (.int .i64 t20) fun h_10 =>
    StoreP h_10 ⟨b_1, 3, none⟩ (.int .i64 t24) fun h_11 =>
    StoreP h_11 ⟨b_1, 4, none⟩ (.int .i64 t28) fun h_12 =>
    ∃ (r_0_1 : Int), hcell h_12 ⟨b_1, 0, none⟩ = some (.int .i64 r_0_1) ∧ ∃ (r_1_1 : Int), hcell h_12 ⟨b_1, 1, none⟩ = some (.int .i64 r_1_1) ∧ ∃ (r_2_1 : Int), hcell h_12 ⟨b_1, 2, none⟩ = some (.int .i64 r_2_1) ∧ ∃ (r_3_1 : Int), hcell h_12 ⟨b_1, 3, none⟩ = some (.int .i64 r_3_1) ∧ ∃ (r_4_1 : Int), hcell h_12 ⟨b_1, 4, none⟩ = some (.int .i64 r_4_1) ∧ 
    R (.agg #[.int .i64 r_0_1, .int .i64 r_1_1, .int .i64 r_2_1, .int .i64 r_3_1, .int .i64 r_4_1]) h_12
theorem outbox_Box_Counts.den_eq (b : Nat) (h : Heap) (R : Value → Heap → Prop) : outbox_Box_Counts.vc b h R = den Try.prog Try.f22.ntmps (.seq .leaf (.seq (.seq .leaf (.cond (.seq .leaf .leaf) .leaf)) (.seq (.plan (.op 0 (.op 1 (.op 2 (.op 3 (.op 4 (.op 5 (.op 6 (.op 7 (.op 8 (.op 9 (.op 10 (.op 11 (.op 12 (.op 13 (.op 14 (.op 15 (.op 16 (.op 17 (.op 18 (.op 19 (.op 20 (.op 21 (.op 22 (.op 23 .done))))))))))))))))))))))))) .leaf))) none (bodyOf Try.f22) (retK Try.prog Try.f22.results R) (argEnv [.pointer (some ⟨b, 0, none⟩)]) h := by kernel_rfl
theorem outbox_Box_Counts.walk {b : Nat} {h : Heap} {R : Value → Heap → Prop} (hv : outbox_Box_Counts.vc b h R) : CallsH Try.prog F.outbox_Box_Counts #[.pointer (some ⟨b, 0, none⟩)] h R :=
  callsH_of_body _ Try.func22 rfl rfl (Eq.mp (outbox_Box_Counts.den_eq b h R) hv)

def outbox_Box_Counts.nil.vc  (h : Heap) (R : Value → Heap → Prop) : Prop :=
  NewP h (.cells #[.int .i64 0, .int .i64 0, .int .i64 0, .int .i64 0, .int .i64 0] T.a5_int) fun b h_1 =>
  CallsH Try.prog F.outbox_Box_made #[.pointer none] h_1 fun v h_2 =>
  ∃ (t4 : Bool), v = .bool t4 ∧
  if (!t4) = true then
    StoreP h_2 ⟨b, 0, none⟩ (.int .i64 0) fun h_3 =>
    StoreP h_3 ⟨b, 1, none⟩ (.int .i64 0) fun h_4 =>
    StoreP h_4 ⟨b, 2, none⟩ (.int .i64 0) fun h_5 =>
    StoreP h_5 ⟨b, 3, none⟩ (.int .i64 0) fun h_6 =>
    StoreP h_6 ⟨b, 4, none⟩ (.int .i64 0) fun h_7 =>
    ∃ (r_0 : Int), hcell h_7 ⟨b, 0, none⟩ = some (.int .i64 r_0) ∧ ∃ (r_1 : Int), hcell h_7 ⟨b, 1, none⟩ = some (.int .i64 r_1) ∧ ∃ (r_2 : Int), hcell h_7 ⟨b, 2, none⟩ = some (.int .i64 r_2) ∧ ∃ (r_3 : Int), hcell h_7 ⟨b, 3, none⟩ = some (.int .i64 r_3) ∧ ∃ (r_4 : Int), hcell h_7 ⟨b, 4, none⟩ = some (.int .i64 r_4) ∧ 
    R (.agg #[.int .i64 r_0, .int .i64 r_1, .int .i64 r_2, .int .i64 r_3, .int .i64 r_4]) h_7
  else
    False
theorem outbox_Box_Counts.nil.den_eq  (h : Heap) (R : Value → Heap → Prop) : outbox_Box_Counts.nil.vc h R = den Try.prog Try.f22.ntmps (.seq .leaf (.seq (.seq .leaf (.cond (.seq .leaf .leaf) .leaf)) (.seq (.plan (.op 0 (.op 1 (.op 2 (.op 3 (.op 4 (.op 5 (.op 6 (.op 7 (.op 8 (.op 9 (.op 10 (.op 11 (.op 12 (.op 13 (.op 14 (.op 15 (.op 16 (.op 17 (.op 18 (.op 19 (.op 20 (.op 21 (.op 22 (.op 23 .done))))))))))))))))))))))))) .leaf))) none (bodyOf Try.f22) (retK Try.prog Try.f22.results R) (argEnv [.pointer none]) h := by kernel_rfl
theorem outbox_Box_Counts.nil.walk  {h : Heap} {R : Value → Heap → Prop} (hv : outbox_Box_Counts.nil.vc h R) : CallsH Try.prog F.outbox_Box_Counts #[.pointer none] h R :=
  callsH_of_body _ Try.func22 rfl rfl (Eq.mp (outbox_Box_Counts.nil.den_eq h R) hv)

def outbox_Box_Add.vc (b : Nat) (owner : Int) (data_p : Option Addr) (data_l data_c : Nat) (v_until : Int) (h : Heap) (R : Value → Heap → Prop) : Prop :=
  CallsH Try.prog F.outbox_Box_made #[.pointer (some ⟨b, 0, none⟩)] h fun v h_1 =>
  ∃ (t12 : Bool), v = .bool t12 ∧
  if (!t12) = true then
    R (.tuple #[.int .i64 0, .int .i64 6]) h_1
  else
    ∃ (t17 : Int), hcell h_1 ⟨b, 1, none⟩ = some (.int .i64 t17) ∧
    CallsH Try.prog F.outbox_copied #[.agg #[.int .i64 t17, .int .i64 owner, .slice data_p data_l data_c, .int .u64 v_until]] h_1 fun v_1 h_2 =>
    ∃ (t22_0 : Int), ∃ (t22_1 : Int), ∃ (t22_2_p : Option Addr) (t22_2_l t22_2_c : Nat), ∃ (t22_3 : Int), v_1 = .agg #[.int .i64 t22_0, .int .i64 t22_1, .slice t22_2_p t22_2_l t22_2_c, .int .u64 t22_3] ∧
    NewP h_2 (.cells #[.int .i64 0, .int .i64 0, .slice none 0 0, .int .u64 0] T.outbox_Item) fun b_1 h_3 =>
    StoreP h_3 ⟨b_1, 0, none⟩ (.int .i64 t22_0) fun h_4 =>
    StoreP h_4 ⟨b_1, 1, none⟩ (.int .i64 t22_1) fun h_5 =>
    StoreP h_5 ⟨b_1, 2, none⟩ (.slice t22_2_p t22_2_l t22_2_c) fun h_6 =>
    StoreP h_6 ⟨b_1, 3, none⟩ (.int .u64 t22_3) fun h_7 =>
    ∃ (t24_0 : Int), hcell h_7 ⟨b_1, 0, none⟩ = some (.int .i64 t24_0) ∧ ∃ (t24_1 : Int), hcell h_7 ⟨b_1, 1, none⟩ = some (.int .i64 t24_1) ∧ ∃ (t24_2_p : Option Addr) (t24_2_l t24_2_c : Nat), hcell h_7 ⟨b_1, 2, none⟩ = some (.slice t24_2_p t24_2_l t24_2_c) ∧ ∃ (t24_3 : Int), hcell h_7 ⟨b_1, 3, none⟩ = some (.int .u64 t24_3) ∧ 
    CallsH Try.prog F.outbox_right #[.agg #[.int .i64 t24_0, .int .i64 t24_1, .slice t24_2_p t24_2_l t24_2_c, .int .u64 t24_3]] h_7 fun v_2 h_8 =>
    ∃ (t25 : Bool), v_2 = .bool t25 ∧
    if (!t25) = true then
      R (.tuple #[.int .i64 0, .int .i64 1]) h_8
    else
      ∃ (t31_p : Option Addr) (t31_l t31_c : Nat), hcell h_8 ⟨b, 0, none⟩ = some (.slice t31_p t31_l t31_c) ∧
      if (decide (((t31_l : Nat) : Int) ≥ 16)) = true then
        R (.tuple #[.int .i64 0, .int .i64 15]) h_8
      else
        ∃ (t38_p : Option Addr) (t38_l t38_c : Nat), hcell h_8 ⟨b, 0, none⟩ = some (.slice t38_p t38_l t38_c) ∧
        ∃ (t39_0 : Int), hcell h_8 ⟨b_1, 0, none⟩ = some (.int .i64 t39_0) ∧ ∃ (t39_1 : Int), hcell h_8 ⟨b_1, 1, none⟩ = some (.int .i64 t39_1) ∧ ∃ (t39_2_p : Option Addr) (t39_2_l t39_2_c : Nat), hcell h_8 ⟨b_1, 2, none⟩ = some (.slice t39_2_p t39_2_l t39_2_c) ∧ ∃ (t39_3 : Int), hcell h_8 ⟨b_1, 3, none⟩ = some (.int .u64 t39_3) ∧ 
        NewP h_8 (.cells #[.int .i64 t39_0, .int .i64 t39_1, .slice t39_2_p t39_2_l t39_2_c, .int .u64 t39_3] T.outbox_Item) fun b_2 h_9 =>
        hcell h_9 ⟨b, 0, none⟩ = some (.slice t38_p t38_l t38_c) ∧
        denSem Try.prog (Builtin.append_ #[T.s_outbox_Item, T.s_outbox_Item] T.s_outbox_Item #[.slice t38_p t38_l t38_c, .slice (some ⟨b_2, 0, none⟩) 1 1]) h_9 fun v_3 h_10 =>
        ∃ (t41_p : Option Addr) (t41_l t41_c : Nat), v_3 = .slice t41_p t41_l t41_c ∧
        StoreP h_10 ⟨b, 0, none⟩ (.slice t41_p t41_l t41_c) fun h_11 =>
        ∃ (t47 : Int), hcell h_11 ⟨b, 1, none⟩ = some (.int .i64 t47) ∧
        StoreP h_11 ⟨b, 1, none⟩ (.int .i64 (IntKind.wrap .i64 (t47 + 1))) fun h_12 =>
        ∃ (t54 : Option Addr), hcell h_12 ⟨b, 5, none⟩ = some (.pointer t54) ∧
        ∃ (t56 : Int), hcell h_12 ⟨b_1, 0, none⟩ = some (.int .i64 t56) ∧
        CallsH Try.prog F.alarm_Alarm_Set #[.pointer t54, .int .i64 t56, .int .u64 v_until] h_12 fun v_4 h_13 =>
        ∃ (t58 : Int), v_4 = .int .i64 t58 ∧
        ∃ (t60 : Int), hcell h_13 ⟨b_1, 0, none⟩ = some (.int .i64 t60) ∧
        R (.tuple #[.int .i64 t60, .int .i64 0]) h_13
theorem outbox_Box_Add.den_eq (b : Nat) (owner : Int) (data_p : Option Addr) (data_l data_c : Nat) (v_until : Int) (h : Heap) (R : Value → Heap → Prop) : outbox_Box_Add.vc b owner data_p data_l data_c v_until h R = den Try.prog Try.f8.ntmps (.seq .leaf (.seq (.seq .leaf (.cond (.seq .leaf .leaf) .leaf)) (.seq .leaf (.seq (.block (.seq .leaf (.cond (.seq .leaf .leaf) (.seq .leaf (.cond (.seq .leaf .leaf) .leaf))))) (.seq (.plan (.op 0 (.op 1 (.op 2 (.op 3 (.op 4 (.op 5 (.op 6 (.op 7 (.op 8 (.op 9 (.op 10 .done)))))))))))) (.seq .leaf (.seq (.plan (.op 0 (.op 1 (.op 2 (.op 3 (.op 4 (.op 5 (.op 6 (.op 7 .done))))))))) (.seq .leaf .leaf)))))))) none (bodyOf Try.f8) (retK Try.prog Try.f8.results R) (argEnv [.pointer (some ⟨b, 0, none⟩), .int .i64 owner, .slice data_p data_l data_c, .int .u64 v_until]) h := by kernel_rfl
theorem outbox_Box_Add.walk {b : Nat} {owner : Int} {data_p : Option Addr} {data_l data_c : Nat} {v_until : Int} {h : Heap} {R : Value → Heap → Prop} (hv : outbox_Box_Add.vc b owner data_p data_l data_c v_until h R) : CallsH Try.prog F.outbox_Box_Add #[.pointer (some ⟨b, 0, none⟩), .int .i64 owner, .slice data_p data_l data_c, .int .u64 v_until] h R :=
  callsH_of_body _ Try.func8 rfl rfl (Eq.mp (outbox_Box_Add.den_eq b owner data_p data_l data_c v_until h R) hv)

def outbox_Box_Add.nil.vc (owner : Int) (data_p : Option Addr) (data_l data_c : Nat) (v_until : Int) (h : Heap) (R : Value → Heap → Prop) : Prop :=
  CallsH Try.prog F.outbox_Box_made #[.pointer none] h fun v h_1 =>
  ∃ (t12 : Bool), v = .bool t12 ∧
  if (!t12) = true then
    R (.tuple #[.int .i64 0, .int .i64 6]) h_1
  else
    False
theorem outbox_Box_Add.nil.den_eq (owner : Int) (data_p : Option Addr) (data_l data_c : Nat) (v_until : Int) (h : Heap) (R : Value → Heap → Prop) : outbox_Box_Add.nil.vc owner data_p data_l data_c v_until h R = den Try.prog Try.f8.ntmps (.seq .leaf (.seq (.seq .leaf (.cond (.seq .leaf .leaf) .leaf)) (.seq .leaf (.seq (.block (.seq .leaf (.cond (.seq .leaf .leaf) (.seq .leaf (.cond (.seq .leaf .leaf) .leaf))))) (.seq (.plan (.op 0 (.op 1 (.op 2 (.op 3 (.op 4 (.op 5 (.op 6 (.op 7 (.op 8 (.op 9 (.op 10 .done)))))))))))) (.seq .leaf (.seq (.plan (.op 0 (.op 1 (.op 2 (.op 3 (.op 4 (.op 5 (.op 6 (.op 7 .done))))))))) (.seq .leaf .leaf)))))))) none (bodyOf Try.f8) (retK Try.prog Try.f8.results R) (argEnv [.pointer none, .int .i64 owner, .slice data_p data_l data_c, .int .u64 v_until]) h := by kernel_rfl
theorem outbox_Box_Add.nil.walk {owner : Int} {data_p : Option Addr} {data_l data_c : Nat} {v_until : Int} {h : Heap} {R : Value → Heap → Prop} (hv : outbox_Box_Add.nil.vc owner data_p data_l data_c v_until h R) : CallsH Try.prog F.outbox_Box_Add #[.pointer none, .int .i64 owner, .slice data_p data_l data_c, .int .u64 v_until] h R :=
  callsH_of_body _ Try.func8 rfl rfl (Eq.mp (outbox_Box_Add.nil.den_eq owner data_p data_l data_c v_until h R) hv)

def outbox_Box_Cancel.vc (b : Nat) (num : Int) (owner : Int) (h : Heap) (R : Value → Heap → Prop) : Prop :=
  CallsH Try.prog F.outbox_Box_made #[.pointer (some ⟨b, 0, none⟩)] h fun v h_1 =>
  ∃ (t9 : Bool), v = .bool t9 ∧
  if (!t9) = true then
    R (.int .i64 6) h_1
  else
    CallsH Try.prog F.outbox_Box_find #[.pointer (some ⟨b, 0, none⟩), .int .i64 num] h_1 fun v_1 h_2 =>
    ∃ (t13 : Int), v_1 = .int .i64 t13 ∧
    if (decide (t13 < 0)) = true then
      R (.int .i64 4) h_2
    else
      ∃ (t21_p : Option Addr) (t21_l t21_c : Nat), hcell h_2 ⟨b, 0, none⟩ = some (.slice t21_p t21_l t21_c) ∧
      ((0 : Int) ≤ t13 ∧ t13 < ((t21_l : Nat) : Int)) ∧
      onSome t21_p fun a =>
      ∃ (t25 : Int), hcell h_2 ((a.add (Int.toNat t13 * 4)).add 1) = some (.int .i64 t25) ∧
      if (t25 != owner) = true then
        R (.int .i64 13) h_2
      else
        CallsH Try.prog F.outbox_Box_cut #[.pointer (some ⟨b, 0, none⟩), .int .i64 t13] h_2 fun v_2 h_3 =>
        ∃ (t30_0 : Int), ∃ (t30_1 : Int), ∃ (t30_2_p : Option Addr) (t30_2_l t30_2_c : Nat), ∃ (t30_3 : Int), v_2 = .agg #[.int .i64 t30_0, .int .i64 t30_1, .slice t30_2_p t30_2_l t30_2_c, .int .u64 t30_3] ∧
        ∃ (t34 : Int), hcell h_3 ⟨b, 3, none⟩ = some (.int .i64 t34) ∧
        StoreP h_3 ⟨b, 3, none⟩ (.int .i64 (IntKind.wrap .i64 (t34 + 1))) fun h_4 =>
        R (.int .i64 0) h_4
theorem outbox_Box_Cancel.den_eq (b : Nat) (num : Int) (owner : Int) (h : Heap) (R : Value → Heap → Prop) : outbox_Box_Cancel.vc b num owner h R = den Try.prog Try.f10.ntmps (.seq .leaf (.seq (.seq .leaf (.cond (.seq .leaf .leaf) .leaf)) (.seq .leaf (.seq (.block (.seq .leaf (.cond (.seq .leaf .leaf) (.seq .leaf (.cond (.seq .leaf .leaf) .leaf))))) (.seq .leaf (.seq .leaf (.seq .leaf .leaf))))))) none (bodyOf Try.f10) (retK Try.prog Try.f10.results R) (argEnv [.pointer (some ⟨b, 0, none⟩), .int .i64 num, .int .i64 owner]) h := by kernel_rfl
theorem outbox_Box_Cancel.walk {b : Nat} {num : Int} {owner : Int} {h : Heap} {R : Value → Heap → Prop} (hv : outbox_Box_Cancel.vc b num owner h R) : CallsH Try.prog F.outbox_Box_Cancel #[.pointer (some ⟨b, 0, none⟩), .int .i64 num, .int .i64 owner] h R :=
  callsH_of_body _ Try.func10 rfl rfl (Eq.mp (outbox_Box_Cancel.den_eq b num owner h R) hv)

def outbox_Box_Cancel.nil.vc (num : Int) (owner : Int) (h : Heap) (R : Value → Heap → Prop) : Prop :=
  CallsH Try.prog F.outbox_Box_made #[.pointer none] h fun v h_1 =>
  ∃ (t9 : Bool), v = .bool t9 ∧
  if (!t9) = true then
    R (.int .i64 6) h_1
  else
    CallsH Try.prog F.outbox_Box_find #[.pointer none, .int .i64 num] h_1 fun v_1 h_2 =>
    ∃ (t13 : Int), v_1 = .int .i64 t13 ∧
    if (decide (t13 < 0)) = true then
      R (.int .i64 4) h_2
    else
      False
theorem outbox_Box_Cancel.nil.den_eq (num : Int) (owner : Int) (h : Heap) (R : Value → Heap → Prop) : outbox_Box_Cancel.nil.vc num owner h R = den Try.prog Try.f10.ntmps (.seq .leaf (.seq (.seq .leaf (.cond (.seq .leaf .leaf) .leaf)) (.seq .leaf (.seq (.block (.seq .leaf (.cond (.seq .leaf .leaf) (.seq .leaf (.cond (.seq .leaf .leaf) .leaf))))) (.seq .leaf (.seq .leaf (.seq .leaf .leaf))))))) none (bodyOf Try.f10) (retK Try.prog Try.f10.results R) (argEnv [.pointer none, .int .i64 num, .int .i64 owner]) h := by kernel_rfl
theorem outbox_Box_Cancel.nil.walk {num : Int} {owner : Int} {h : Heap} {R : Value → Heap → Prop} (hv : outbox_Box_Cancel.nil.vc num owner h R) : CallsH Try.prog F.outbox_Box_Cancel #[.pointer none, .int .i64 num, .int .i64 owner] h R :=
  callsH_of_body _ Try.func10 rfl rfl (Eq.mp (outbox_Box_Cancel.nil.den_eq num owner h R) hv)

def outbox_Box_Take.vc (b : Nat) (h : Heap) (R : Value → Heap → Prop) : Prop :=
  NewP h (.cells #[.int .i64 0, .int .i64 0, .slice none 0 0, .int .u64 0] T.outbox_Item) fun b_1 h_1 =>
  CallsH Try.prog F.outbox_Box_made #[.pointer (some ⟨b, 0, none⟩)] h_1 fun v h_2 =>
  ∃ (t6 : Bool), v = .bool t6 ∧
  if (!t6) = true then
    StoreP h_2 ⟨b_1, 0, none⟩ (.int .i64 0) fun h_3 =>
    StoreP h_3 ⟨b_1, 1, none⟩ (.int .i64 0) fun h_4 =>
    StoreP h_4 ⟨b_1, 2, none⟩ (.slice none 0 0) fun h_5 =>
    StoreP h_5 ⟨b_1, 3, none⟩ (.int .u64 0) fun h_6 =>
    ∃ (r_0 : Int), hcell h_6 ⟨b_1, 0, none⟩ = some (.int .i64 r_0) ∧ ∃ (r_1 : Int), hcell h_6 ⟨b_1, 1, none⟩ = some (.int .i64 r_1) ∧ ∃ (r_2_p : Option Addr) (r_2_l r_2_c : Nat), hcell h_6 ⟨b_1, 2, none⟩ = some (.slice r_2_p r_2_l r_2_c) ∧ ∃ (r_3 : Int), hcell h_6 ⟨b_1, 3, none⟩ = some (.int .u64 r_3) ∧ 
    R (.tuple #[.agg #[.int .i64 r_0, .int .i64 r_1, .slice r_2_p r_2_l r_2_c, .int .u64 r_3], .int .i64 6]) h_6
  else
    ∃ (t13_p : Option Addr) (t13_l t13_c : Nat), hcell h_2 ⟨b, 0, none⟩ = some (.slice t13_p t13_l t13_c) ∧
    if (((t13_l : Nat) : Int) == 0) = true then
      StoreP h_2 ⟨b_1, 0, none⟩ (.int .i64 0) fun h_7 =>
      StoreP h_7 ⟨b_1, 1, none⟩ (.int .i64 0) fun h_8 =>
      StoreP h_8 ⟨b_1, 2, none⟩ (.slice none 0 0) fun h_9 =>
      StoreP h_9 ⟨b_1, 3, none⟩ (.int .u64 0) fun h_10 =>
      ∃ (r_0_1 : Int), hcell h_10 ⟨b_1, 0, none⟩ = some (.int .i64 r_0_1) ∧ ∃ (r_1_1 : Int), hcell h_10 ⟨b_1, 1, none⟩ = some (.int .i64 r_1_1) ∧ ∃ (r_2_p_1 : Option Addr) (r_2_l_1 r_2_c_1 : Nat), hcell h_10 ⟨b_1, 2, none⟩ = some (.slice r_2_p_1 r_2_l_1 r_2_c_1) ∧ ∃ (r_3_1 : Int), hcell h_10 ⟨b_1, 3, none⟩ = some (.int .u64 r_3_1) ∧ 
      R (.tuple #[.agg #[.int .i64 r_0_1, .int .i64 r_1_1, .slice r_2_p_1 r_2_l_1 r_2_c_1, .int .u64 r_3_1], .int .i64 4]) h_10
    else
      ∃ (t20 : Int), hcell h_2 ⟨b, 2, none⟩ = some (.int .i64 t20) ∧
      StoreP h_2 ⟨b, 2, none⟩ (.int .i64 (IntKind.wrap .i64 (t20 + 1))) fun h_11 =>
      CallsH Try.prog F.outbox_Box_cut #[.pointer (some ⟨b, 0, none⟩), .int .i64 0] h_11 fun v_1 h_12 =>
      ∃ (t25_0 : Int), ∃ (t25_1 : Int), ∃ (t25_2_p : Option Addr) (t25_2_l t25_2_c : Nat), ∃ (t25_3 : Int), v_1 = .agg #[.int .i64 t25_0, .int .i64 t25_1, .slice t25_2_p t25_2_l t25_2_c, .int .u64 t25_3] ∧
      StoreP h_12 ⟨b_1, 0, none⟩ (.int .i64 t25_0) fun h_13 =>
      StoreP h_13 ⟨b_1, 1, none⟩ (.int .i64 t25_1) fun h_14 =>
      StoreP h_14 ⟨b_1, 2, none⟩ (.slice t25_2_p t25_2_l t25_2_c) fun h_15 =>
      StoreP h_15 ⟨b_1, 3, none⟩ (.int .u64 t25_3) fun h_16 =>
      ∃ (r_0_2 : Int), hcell h_16 ⟨b_1, 0, none⟩ = some (.int .i64 r_0_2) ∧ ∃ (r_1_2 : Int), hcell h_16 ⟨b_1, 1, none⟩ = some (.int .i64 r_1_2) ∧ ∃ (r_2_p_2 : Option Addr) (r_2_l_2 r_2_c_2 : Nat), hcell h_16 ⟨b_1, 2, none⟩ = some (.slice r_2_p_2 r_2_l_2 r_2_c_2) ∧ ∃ (r_3_2 : Int), hcell h_16 ⟨b_1, 3, none⟩ = some (.int .u64 r_3_2) ∧ 
      R (.tuple #[.agg #[.int .i64 r_0_2, .int .i64 r_1_2, .slice r_2_p_2 r_2_l_2 r_2_c_2, .int .u64 r_3_2], .int .i64 0]) h_16
theorem outbox_Box_Take.den_eq (b : Nat) (h : Heap) (R : Value → Heap → Prop) : outbox_Box_Take.vc b h R = den Try.prog Try.f11.ntmps (.seq .leaf (.seq (.block (.seq .leaf (.cond (.seq .leaf .leaf) (.seq .leaf (.cond (.seq .leaf .leaf) .leaf))))) (.seq .leaf (.seq .leaf .leaf)))) none (bodyOf Try.f11) (retK Try.prog Try.f11.results R) (argEnv [.pointer (some ⟨b, 0, none⟩)]) h := by kernel_rfl
theorem outbox_Box_Take.walk {b : Nat} {h : Heap} {R : Value → Heap → Prop} (hv : outbox_Box_Take.vc b h R) : CallsH Try.prog F.outbox_Box_Take #[.pointer (some ⟨b, 0, none⟩)] h R :=
  callsH_of_body _ Try.func11 rfl rfl (Eq.mp (outbox_Box_Take.den_eq b h R) hv)

def outbox_Box_Pass.vc (b : Nat) (now : Int) (h : Heap) (R : Value → Heap → Prop) : Prop :=
  CallsH Try.prog F.outbox_Box_made #[.pointer (some ⟨b, 0, none⟩)] h fun v h_1 =>
  ∃ (t9 : Bool), v = .bool t9 ∧
  JoinP (fun (out_p : Option Addr) (out_l out_c : Nat) (h_2 : Heap) =>
    R (.slice out_p out_l out_c) h_2)
  (fun J =>
    if t9 = true then
      ∃ (t13 : Option Addr), hcell h_1 ⟨b, 5, none⟩ = some (.pointer t13) ∧
      CallsH Try.prog F.alarm_Alarm_Ring #[.pointer t13, .int .u64 now] h_1 fun v_1 h_3 =>
      ∃ (t15_p : Option Addr) (t15_l t15_c : Nat), v_1 = .slice t15_p t15_l t15_c ∧
      ∃ (I : Option Addr → Nat → Nat → Int → Heap → Prop) (mu : Option Addr → Nat → Nat → Int → Heap → Nat), I none 0 0 0 h_3 ∧ ∀ (out_p_1 : Option Addr) (out_l_1 out_c_1 : Nat) (t17 : Int) (h_4 : Heap), I out_p_1 out_l_1 out_c_1 t17 h_4 →
        if (decide (t17 < ((t15_l : Nat) : Int))) = true then
          ((0 : Int) ≤ t17 ∧ t17 < ((t15_l : Nat) : Int)) ∧
          onSome t15_p fun a =>
          ∃ (t20 : Int), hcell h_4 (a.add (Int.toNat t17 * 1)) = some (.int .i64 t20) ∧
          CallsH Try.prog F.outbox_Box_find #[.pointer (some ⟨b, 0, none⟩), .int .i64 t20] h_4 fun v_2 h_5 =>
          ∃ (t25 : Int), v_2 = .int .i64 t25 ∧
          CallsH Try.prog F.outbox_Box_cut #[.pointer (some ⟨b, 0, none⟩), .int .i64 t25] h_5 fun v_3 h_6 =>
          ∃ (t26_0 : Int), ∃ (t26_1 : Int), ∃ (t26_2_p : Option Addr) (t26_2_l t26_2_c : Nat), ∃ (t26_3 : Int), v_3 = .agg #[.int .i64 t26_0, .int .i64 t26_1, .slice t26_2_p t26_2_l t26_2_c, .int .u64 t26_3] ∧
          NewP h_6 (.cells #[.int .i64 t26_0, .int .i64 t26_1, .slice t26_2_p t26_2_l t26_2_c, .int .u64 t26_3] T.outbox_Item) fun b_1 h_7 =>
          denSem Try.prog (Builtin.append_ #[T.s_outbox_Item, T.s_outbox_Item] T.s_outbox_Item #[.slice out_p_1 out_l_1 out_c_1, .slice (some ⟨b_1, 0, none⟩) 1 1]) h_7 fun v_4 h_8 =>
          ∃ (t28_p : Option Addr) (t28_l t28_c : Nat), v_4 = .slice t28_p t28_l t28_c ∧
          ∃ (t32 : Int), hcell h_8 ⟨b, 4, none⟩ = some (.int .i64 t32) ∧
          StoreP h_8 ⟨b, 4, none⟩ (.int .i64 (IntKind.wrap .i64 (t32 + 1))) fun h_9 =>
          (I t28_p t28_l t28_c (IntKind.wrap .i64 (t17 + 1)) h_9 ∧ mu t28_p t28_l t28_c (IntKind.wrap .i64 (t17 + 1)) h_9 < mu out_p_1 out_l_1 out_c_1 t17 h_4)
        else
          J out_p_1 out_l_1 out_c_1 h_4
    else
      J none 0 0 h_1)
theorem outbox_Box_Pass.den_eq (b : Nat) (now : Int) (h : Heap) (R : Value → Heap → Prop) : outbox_Box_Pass.vc b now h R = den Try.prog Try.f9.ntmps (.seq .leaf (.seq .leaf (.seq (.seq .leaf (.join [(5, .one (.slice))] (.cond (.seq .leaf (.block (.loop [(5, .one (.slice)), (17, .one (.int .i64))] (.seq .leaf (.seq (.cond .leaf .leaf) (.seq (.block (.seq .leaf (.seq .leaf .leaf))) .leaf)))))) .leaf))) (.seq .leaf .leaf)))) none (bodyOf Try.f9) (retK Try.prog Try.f9.results R) (argEnv [.pointer (some ⟨b, 0, none⟩), .int .u64 now]) h := by kernel_rfl
theorem outbox_Box_Pass.walk {b : Nat} {now : Int} {h : Heap} {R : Value → Heap → Prop} (hv : outbox_Box_Pass.vc b now h R) : CallsH Try.prog F.outbox_Box_Pass #[.pointer (some ⟨b, 0, none⟩), .int .u64 now] h R :=
  callsH_of_body _ Try.func9 rfl rfl (Eq.mp (outbox_Box_Pass.den_eq b now h R) hv)

def outbox_Box_Pass.nil.vc (now : Int) (h : Heap) (R : Value → Heap → Prop) : Prop :=
  CallsH Try.prog F.outbox_Box_made #[.pointer none] h fun v h_1 =>
  ∃ (t9 : Bool), v = .bool t9 ∧
  JoinP (fun (out_p : Option Addr) (out_l out_c : Nat) (h_2 : Heap) =>
    R (.slice out_p out_l out_c) h_2)
  (fun J =>
    if t9 = true then
      False
    else
      J none 0 0 h_1)
theorem outbox_Box_Pass.nil.den_eq (now : Int) (h : Heap) (R : Value → Heap → Prop) : outbox_Box_Pass.nil.vc now h R = den Try.prog Try.f9.ntmps (.seq .leaf (.seq .leaf (.seq (.seq .leaf (.join [(5, .one (.slice))] (.cond (.seq .leaf (.block (.loop [(5, .one (.slice)), (17, .one (.int .i64))] (.seq .leaf (.seq (.cond .leaf .leaf) (.seq (.block (.seq .leaf (.seq .leaf .leaf))) .leaf)))))) .leaf))) (.seq .leaf .leaf)))) none (bodyOf Try.f9) (retK Try.prog Try.f9.results R) (argEnv [.pointer none, .int .u64 now]) h := by kernel_rfl
theorem outbox_Box_Pass.nil.walk {now : Int} {h : Heap} {R : Value → Heap → Prop} (hv : outbox_Box_Pass.nil.vc now h R) : CallsH Try.prog F.outbox_Box_Pass #[.pointer none, .int .u64 now] h R :=
  callsH_of_body _ Try.func9 rfl rfl (Eq.mp (outbox_Box_Pass.nil.den_eq now h R) hv)

end Go.Proofs.Ytlonfpolnmiglaa
