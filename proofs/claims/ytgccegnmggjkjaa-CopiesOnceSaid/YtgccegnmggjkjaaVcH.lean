/-
  Printed by a program of this work (vc.py): the verification conditions of functions, and that each is enough for the call. No condition.
-/
import Derived.Test.YtgccegnmggjkjaaNames
set_option maxRecDepth 100000
set_option maxHeartbeats 4000000
namespace Go.Proofs.Ytgccegnmggjkjaa
open Go.Den
def alarm_New.vc  (h : Heap) (R : Value → Heap → Prop) : Prop :=
  NewP h (.map #[] 0) fun b h_1 =>
  NewP h_1 (.cells #[.slice none 0 0, .map (some b)] T.alarm_Alarm) fun b_1 h_2 =>
  R (.pointer (some ⟨b_1, 0, none⟩)) h_2
theorem alarm_New.den_eq  (h : Heap) (R : Value → Heap → Prop) : alarm_New.vc h R = den Try.prog Try.f32.ntmps (.seq .leaf (.seq .leaf .leaf)) none (bodyOf Try.f32) (retK Try.prog Try.f32.results R) (argEnv []) h := by kernel_rfl
theorem alarm_New.walk  {h : Heap} {R : Value → Heap → Prop} (hv : alarm_New.vc h R) : CallsH Try.prog F.alarm_New #[] h R :=
  callsH_of_body _ Try.func32 rfl rfl (Eq.mp (alarm_New.den_eq h R) hv)

def alarm_Alarm_made.vc (a : Nat) (h : Heap) (R : Value → Heap → Prop) : Prop :=
  ∃ (t9 : Option Nat), hcell h ⟨a, 1, none⟩ = some (.map t9) ∧
  R (.bool (!t9.isNone)) h
theorem alarm_Alarm_made.den_eq (a : Nat) (h : Heap) (R : Value → Heap → Prop) : alarm_Alarm_made.vc a h R = den Try.prog Try.f51.ntmps (.seq .leaf (.seq .leaf .leaf)) none (bodyOf Try.f51) (retK Try.prog Try.f51.results R) (argEnv [.pointer (some ⟨a, 0, none⟩)]) h := by kernel_rfl
theorem alarm_Alarm_made.walk {a : Nat} {h : Heap} {R : Value → Heap → Prop} (hv : alarm_Alarm_made.vc a h R) : CallsH Try.prog F.alarm_Alarm_made #[.pointer (some ⟨a, 0, none⟩)] h R :=
  callsH_of_body _ Try.func51 rfl rfl (Eq.mp (alarm_Alarm_made.den_eq a h R) hv)

def alarm_Alarm_made.nil.vc  (h : Heap) (R : Value → Heap → Prop) : Prop :=
  R (.bool false) h
theorem alarm_Alarm_made.nil.den_eq  (h : Heap) (R : Value → Heap → Prop) : alarm_Alarm_made.nil.vc h R = den Try.prog Try.f51.ntmps (.seq .leaf (.seq .leaf .leaf)) none (bodyOf Try.f51) (retK Try.prog Try.f51.results R) (argEnv [.pointer none]) h := by kernel_rfl
theorem alarm_Alarm_made.nil.walk  {h : Heap} {R : Value → Heap → Prop} (hv : alarm_Alarm_made.nil.vc h R) : CallsH Try.prog F.alarm_Alarm_made #[.pointer none] h R :=
  callsH_of_body _ Try.func51 rfl rfl (Eq.mp (alarm_Alarm_made.nil.den_eq h R) hv)

def alarm_Alarm_Len.vc (a : Nat) (h : Heap) (R : Value → Heap → Prop) : Prop :=
  ∃ (t8_p : Option Addr) (t8_l t8_c : Nat), hcell h ⟨a, 0, none⟩ = some (.slice t8_p t8_l t8_c) ∧
  R (.int .i64 ((t8_l : Nat) : Int)) h
theorem alarm_Alarm_Len.den_eq (a : Nat) (h : Heap) (R : Value → Heap → Prop) : alarm_Alarm_Len.vc a h R = den Try.prog Try.f43.ntmps (.seq .leaf (.seq (.seq .leaf (.cond (.seq .leaf .leaf) .leaf)) (.seq .leaf .leaf))) none (bodyOf Try.f43) (retK Try.prog Try.f43.results R) (argEnv [.pointer (some ⟨a, 0, none⟩)]) h := by kernel_rfl
theorem alarm_Alarm_Len.walk {a : Nat} {h : Heap} {R : Value → Heap → Prop} (hv : alarm_Alarm_Len.vc a h R) : CallsH Try.prog F.alarm_Alarm_Len #[.pointer (some ⟨a, 0, none⟩)] h R :=
  callsH_of_body _ Try.func43 rfl rfl (Eq.mp (alarm_Alarm_Len.den_eq a h R) hv)

def alarm_Alarm_Len.nil.vc  (h : Heap) (R : Value → Heap → Prop) : Prop :=
  R (.int .i64 0) h
theorem alarm_Alarm_Len.nil.den_eq  (h : Heap) (R : Value → Heap → Prop) : alarm_Alarm_Len.nil.vc h R = den Try.prog Try.f43.ntmps (.seq .leaf (.seq (.seq .leaf (.cond (.seq .leaf .leaf) .leaf)) (.seq .leaf .leaf))) none (bodyOf Try.f43) (retK Try.prog Try.f43.results R) (argEnv [.pointer none]) h := by kernel_rfl
theorem alarm_Alarm_Len.nil.walk  {h : Heap} {R : Value → Heap → Prop} (hv : alarm_Alarm_Len.nil.vc h R) : CallsH Try.prog F.alarm_Alarm_Len #[.pointer none] h R :=
  callsH_of_body _ Try.func43 rfl rfl (Eq.mp (alarm_Alarm_Len.nil.den_eq h R) hv)

def alarm_ahead.vc (x_0 : Int) (x_1 : Int) (y_0 : Int) (y_1 : Int) (h : Heap) (R : Value → Heap → Prop) : Prop :=
  NewP h (.cells #[.int .i64 x_0, .int .u64 x_1] T.alarm_entry) fun b h_1 =>
  NewP h_1 (.cells #[.int .i64 y_0, .int .u64 y_1] T.alarm_entry) fun b_1 h_2 =>
  ∃ (t6 : Int), hcell h_2 ⟨b, 1, none⟩ = some (.int .u64 t6) ∧
  ∃ (t8 : Int), hcell h_2 ⟨b_1, 1, none⟩ = some (.int .u64 t8) ∧
  if (decide (t6 < t8)) = true then
    R (.bool true) h_2
  else
    ∃ (t12 : Int), hcell h_2 ⟨b, 1, none⟩ = some (.int .u64 t12) ∧
    ∃ (t14 : Int), hcell h_2 ⟨b_1, 1, none⟩ = some (.int .u64 t14) ∧
    if (t12 == t14) = true then
      ∃ (t18 : Int), hcell h_2 ⟨b, 0, none⟩ = some (.int .i64 t18) ∧
      ∃ (t20 : Int), hcell h_2 ⟨b_1, 0, none⟩ = some (.int .i64 t20) ∧
      R (.bool (decide (t18 < t20))) h_2
    else
      R (.bool false) h_2
theorem alarm_ahead.den_eq (x_0 : Int) (x_1 : Int) (y_0 : Int) (y_1 : Int) (h : Heap) (R : Value → Heap → Prop) : alarm_ahead.vc x_0 x_1 y_0 y_1 h R = den Try.prog Try.f70.ntmps (.seq .leaf (.seq .leaf .leaf)) none (bodyOf Try.f70) (retK Try.prog Try.f70.results R) (argEnv [.agg #[.int .i64 x_0, .int .u64 x_1], .agg #[.int .i64 y_0, .int .u64 y_1]]) h := by kernel_rfl
theorem alarm_ahead.walk {x_0 : Int} {x_1 : Int} {y_0 : Int} {y_1 : Int} {h : Heap} {R : Value → Heap → Prop} (hv : alarm_ahead.vc x_0 x_1 y_0 y_1 h R) : CallsH Try.prog F.alarm_ahead #[.agg #[.int .i64 x_0, .int .u64 x_1], .agg #[.int .i64 y_0, .int .u64 y_1]] h R :=
  callsH_of_body _ Try.func70 rfl rfl (Eq.mp (alarm_ahead.den_eq x_0 x_1 y_0 y_1 h R) hv)

def alarm_Alarm_put.vc (a : Nat) (i : Int) (x_0 : Int) (x_1 : Int) (h : Heap) (R : Value → Heap → Prop) : Prop :=
  NewP h (.cells #[.int .i64 x_0, .int .u64 x_1] T.alarm_entry) fun b h_1 =>
  ∃ (t9_p : Option Addr) (t9_l t9_c : Nat), hcell h_1 ⟨a, 0, none⟩ = some (.slice t9_p t9_l t9_c) ∧
  ∃ (t11_0 : Int), hcell h_1 ⟨b, 0, none⟩ = some (.int .i64 t11_0) ∧ ∃ (t11_1 : Int), hcell h_1 ⟨b, 1, none⟩ = some (.int .u64 t11_1) ∧ 
  ((0 : Int) ≤ i ∧ i < ((t9_l : Nat) : Int)) ∧
  onSome t9_p fun a_1 =>
  StoreP h_1 (a_1.add (Int.toNat i * 2)) (.int .i64 t11_0) fun h_2 =>
  StoreP h_2 ((a_1.add (Int.toNat i * 2)).add 1) (.int .u64 t11_1) fun h_3 =>
  ∃ (t16 : Option Nat), hcell h_3 ⟨a, 1, none⟩ = some (.map t16) ∧
  ∃ (t18 : Int), hcell h_3 ⟨b, 0, none⟩ = some (.int .i64 t18) ∧
  denSem Try.prog (Instr.mapUpdate T.m_int_int (.map t16) (.int .i64 t18) (.int .i64 i)) h_3 fun _ h_4 =>
  R (.tuple #[]) h_4
theorem alarm_Alarm_put.den_eq (a : Nat) (i : Int) (x_0 : Int) (x_1 : Int) (h : Heap) (R : Value → Heap → Prop) : alarm_Alarm_put.vc a i x_0 x_1 h R = den Try.prog Try.f53.ntmps (.seq .leaf (.seq (.plan (.op 0 (.op 1 (.op 2 (.op 3 (.op 4 (.op 5 (.op 6 (.op 7 .done))))))))) (.plan (.op 0 (.op 1 (.op 2 (.op 3 (.op 4 (.op 5 (.op 6 (.op 7 .done))))))))))) none (bodyOf Try.f53) (retK Try.prog Try.f53.results R) (argEnv [.pointer (some ⟨a, 0, none⟩), .int .i64 i, .agg #[.int .i64 x_0, .int .u64 x_1]]) h := by kernel_rfl
theorem alarm_Alarm_put.walk {a : Nat} {i : Int} {x_0 : Int} {x_1 : Int} {h : Heap} {R : Value → Heap → Prop} (hv : alarm_Alarm_put.vc a i x_0 x_1 h R) : CallsH Try.prog F.alarm_Alarm_put #[.pointer (some ⟨a, 0, none⟩), .int .i64 i, .agg #[.int .i64 x_0, .int .u64 x_1]] h R :=
  callsH_of_body _ Try.func53 rfl rfl (Eq.mp (alarm_Alarm_put.den_eq a i x_0 x_1 h R) hv)

def alarm_Alarm_up.vc (a : Nat) (i : Int) (h : Heap) (R : Value → Heap → Prop) : Prop :=
  ∃ (I : Int → Heap → Prop) (mu : Int → Heap → Nat), (
    I i h) ∧ ∀ (i_1 : Int) (h_1 : Heap), I i_1 h_1 →
    JoinP (fun (t28 : Bool) (h_2 : Heap) =>
      if t28 = true then
        JoinP (fun (x : Option Addr) (y : Option Addr) (h_3 : Heap) =>
          onSome x fun a_1 =>
          ∃ (t45_0 : Int), hcell h_3 a_1 = some (.int .i64 t45_0) ∧ ∃ (t45_1 : Int), hcell h_3 (a_1.add 1) = some (.int .u64 t45_1) ∧ 
          CallsH Try.prog F.alarm_Alarm_put #[.pointer (some ⟨a, 0, none⟩), .int .i64 (IntKind.wrap .i64 (Int.tdiv (IntKind.wrap .i64 (i_1 - 1)) 2)), .agg #[.int .i64 t45_0, .int .u64 t45_1]] h_3 fun v h_4 =>
          v = .tuple #[] ∧
          onSome y fun a_2 =>
          ∃ (t49_0 : Int), hcell h_4 a_2 = some (.int .i64 t49_0) ∧ ∃ (t49_1 : Int), hcell h_4 (a_2.add 1) = some (.int .u64 t49_1) ∧ 
          CallsH Try.prog F.alarm_Alarm_put #[.pointer (some ⟨a, 0, none⟩), .int .i64 i_1, .agg #[.int .i64 t49_0, .int .u64 t49_1]] h_4 fun v_1 h_5 =>
          v_1 = .tuple #[] ∧
          (I (IntKind.wrap .i64 (Int.tdiv (IntKind.wrap .i64 (i_1 - 1)) 2)) h_5 ∧ mu (IntKind.wrap .i64 (Int.tdiv (IntKind.wrap .i64 (i_1 - 1)) 2)) h_5 < mu i_1 h_1))
        (fun J_1 =>
          ∃ (t32_p : Option Addr) (t32_l t32_c : Nat), hcell h_2 ⟨a, 0, none⟩ = some (.slice t32_p t32_l t32_c) ∧
          ((0 : Int) ≤ i_1 ∧ i_1 < ((t32_l : Nat) : Int)) ∧
          onSome t32_p fun a_3 =>
          ∃ (t35_0 : Int), hcell h_2 (a_3.add (Int.toNat i_1 * 2)) = some (.int .i64 t35_0) ∧ ∃ (t35_1 : Int), hcell h_2 ((a_3.add (Int.toNat i_1 * 2)).add 1) = some (.int .u64 t35_1) ∧ 
          ∃ (t39_p : Option Addr) (t39_l t39_c : Nat), hcell h_2 ⟨a, 0, none⟩ = some (.slice t39_p t39_l t39_c) ∧
          ((0 : Int) ≤ IntKind.wrap .i64 (Int.tdiv (IntKind.wrap .i64 (i_1 - 1)) 2) ∧ IntKind.wrap .i64 (Int.tdiv (IntKind.wrap .i64 (i_1 - 1)) 2) < ((t39_l : Nat) : Int)) ∧
          onSome t39_p fun a_4 =>
          ∃ (t42_0 : Int), hcell h_2 (a_4.add (Int.toNat (IntKind.wrap .i64 (Int.tdiv (IntKind.wrap .i64 (i_1 - 1)) 2)) * 2)) = some (.int .i64 t42_0) ∧ ∃ (t42_1 : Int), hcell h_2 ((a_4.add (Int.toNat (IntKind.wrap .i64 (Int.tdiv (IntKind.wrap .i64 (i_1 - 1)) 2)) * 2)).add 1) = some (.int .u64 t42_1) ∧ 
          (NewP h_2 (.cells #[.int .i64 0, .int .u64 0] T.alarm_entry) fun b h_6 =>
          heldL (a_4.add (Int.toNat (IntKind.wrap .i64 (Int.tdiv (IntKind.wrap .i64 (i_1 - 1)) 2)) * 2)) [.int .i64 t42_0, .int .u64 t42_1] 0 h_6 ∧
          hcell h_6 ⟨a, 0, none⟩ = some (.slice t39_p t39_l t39_c) ∧
          heldL (a_3.add (Int.toNat i_1 * 2)) [.int .i64 t35_0, .int .u64 t35_1] 0 h_6 ∧
          hcell h_6 ⟨a, 0, none⟩ = some (.slice t32_p t32_l t32_c) ∧
          NewP h_6 (.cells #[.int .i64 0, .int .u64 0] T.alarm_entry) fun b_1 h_7 =>
          heldL (a_4.add (Int.toNat (IntKind.wrap .i64 (Int.tdiv (IntKind.wrap .i64 (i_1 - 1)) 2)) * 2)) [.int .i64 t42_0, .int .u64 t42_1] 0 h_7 ∧
          hcell h_7 ⟨a, 0, none⟩ = some (.slice t39_p t39_l t39_c) ∧
          heldL (a_3.add (Int.toNat i_1 * 2)) [.int .i64 t35_0, .int .u64 t35_1] 0 h_7 ∧
          hcell h_7 ⟨a, 0, none⟩ = some (.slice t32_p t32_l t32_c) ∧
          StoreP h_7 ⟨b, 0, none⟩ (.int .i64 t35_0) fun h_8 =>
          StoreP h_8 ⟨b, 1, none⟩ (.int .u64 t35_1) fun h_9 =>
          heldL (a_4.add (Int.toNat (IntKind.wrap .i64 (Int.tdiv (IntKind.wrap .i64 (i_1 - 1)) 2)) * 2)) [.int .i64 t42_0, .int .u64 t42_1] 0 h_9 ∧
          hcell h_9 ⟨a, 0, none⟩ = some (.slice t39_p t39_l t39_c) ∧
          StoreP h_9 ⟨b_1, 0, none⟩ (.int .i64 t42_0) fun h_10 =>
          StoreP h_10 ⟨b_1, 1, none⟩ (.int .u64 t42_1) fun h_11 =>
          J_1 (some ⟨b, 0, none⟩) (some ⟨b_1, 0, none⟩) h_11) ∧
          (NewP h_2 (.cells #[.int .i64 0, .int .u64 0] T.alarm_entry) fun b_2 h_12 =>
          heldL (a_4.add (Int.toNat (IntKind.wrap .i64 (Int.tdiv (IntKind.wrap .i64 (i_1 - 1)) 2)) * 2)) [.int .i64 t42_0, .int .u64 t42_1] 0 h_12 ∧
          hcell h_12 ⟨a, 0, none⟩ = some (.slice t39_p t39_l t39_c) ∧
          heldL (a_3.add (Int.toNat i_1 * 2)) [.int .i64 t35_0, .int .u64 t35_1] 0 h_12 ∧
          hcell h_12 ⟨a, 0, none⟩ = some (.slice t32_p t32_l t32_c) ∧
          NewP h_12 (.cells #[.int .i64 0, .int .u64 0] T.alarm_entry) fun b_3 h_13 =>
          heldL (a_4.add (Int.toNat (IntKind.wrap .i64 (Int.tdiv (IntKind.wrap .i64 (i_1 - 1)) 2)) * 2)) [.int .i64 t42_0, .int .u64 t42_1] 0 h_13 ∧
          hcell h_13 ⟨a, 0, none⟩ = some (.slice t39_p t39_l t39_c) ∧
          heldL (a_3.add (Int.toNat i_1 * 2)) [.int .i64 t35_0, .int .u64 t35_1] 0 h_13 ∧
          hcell h_13 ⟨a, 0, none⟩ = some (.slice t32_p t32_l t32_c) ∧
          StoreP h_13 ⟨b_3, 0, none⟩ (.int .i64 t35_0) fun h_14 =>
          StoreP h_14 ⟨b_3, 1, none⟩ (.int .u64 t35_1) fun h_15 =>
          heldL (a_4.add (Int.toNat (IntKind.wrap .i64 (Int.tdiv (IntKind.wrap .i64 (i_1 - 1)) 2)) * 2)) [.int .i64 t42_0, .int .u64 t42_1] 0 h_15 ∧
          hcell h_15 ⟨a, 0, none⟩ = some (.slice t39_p t39_l t39_c) ∧
          StoreP h_15 ⟨b_2, 0, none⟩ (.int .i64 t42_0) fun h_16 =>
          StoreP h_16 ⟨b_2, 1, none⟩ (.int .u64 t42_1) fun h_17 =>
          J_1 (some ⟨b_3, 0, none⟩) (some ⟨b_2, 0, none⟩) h_17) ∧
          True)
      else
        R (.tuple #[]) h_2)
    (fun J =>
      if (decide (i_1 > 0)) = true then
        ∃ (t16_p : Option Addr) (t16_l t16_c : Nat), hcell h_1 ⟨a, 0, none⟩ = some (.slice t16_p t16_l t16_c) ∧
        ((0 : Int) ≤ i_1 ∧ i_1 < ((t16_l : Nat) : Int)) ∧
        onSome t16_p fun a_5 =>
        ∃ (t19_0 : Int), hcell h_1 (a_5.add (Int.toNat i_1 * 2)) = some (.int .i64 t19_0) ∧ ∃ (t19_1 : Int), hcell h_1 ((a_5.add (Int.toNat i_1 * 2)).add 1) = some (.int .u64 t19_1) ∧ 
        ∃ (t23_p : Option Addr) (t23_l t23_c : Nat), hcell h_1 ⟨a, 0, none⟩ = some (.slice t23_p t23_l t23_c) ∧
        ((0 : Int) ≤ IntKind.wrap .i64 (Int.tdiv (IntKind.wrap .i64 (i_1 - 1)) 2) ∧ IntKind.wrap .i64 (Int.tdiv (IntKind.wrap .i64 (i_1 - 1)) 2) < ((t23_l : Nat) : Int)) ∧
        onSome t23_p fun a_6 =>
        ∃ (t26_0 : Int), hcell h_1 (a_6.add (Int.toNat (IntKind.wrap .i64 (Int.tdiv (IntKind.wrap .i64 (i_1 - 1)) 2)) * 2)) = some (.int .i64 t26_0) ∧ ∃ (t26_1 : Int), hcell h_1 ((a_6.add (Int.toNat (IntKind.wrap .i64 (Int.tdiv (IntKind.wrap .i64 (i_1 - 1)) 2)) * 2)).add 1) = some (.int .u64 t26_1) ∧ 
        CallsH Try.prog F.alarm_ahead #[.agg #[.int .i64 t19_0, .int .u64 t19_1], .agg #[.int .i64 t26_0, .int .u64 t26_1]] h_1 fun v_2 h_18 =>
        ∃ (t27 : Bool), v_2 = .bool t27 ∧
        hcell h_18 ⟨a, 0, none⟩ = some (.slice t23_p t23_l t23_c) ∧
        hcell h_18 ⟨a, 0, none⟩ = some (.slice t16_p t16_l t16_c) ∧
        J t27 h_18
      else
        J false h_1)
theorem alarm_Alarm_up.den_eq (a : Nat) (i : Int) (h : Heap) (R : Value → Heap → Prop) : alarm_Alarm_up.vc a i h R = den Try.prog Try.f54.ntmps (.scope 0 [(1, .one (.int .i64))] (.seq .leaf .leaf) (.seq .leaf (.seq .leaf (.seq (.join [(28, .one (.bool))] (.plan (.op 0 (.op 1 (.op 2 (.op 3 (.op 4 (.op 5 (.op 6 (.op 7 (.op 8 (.op 9 (.op 10 (.op 11 (.op 12 (.op 13 (.op 14 (.op 15 (.op 16 (.op 17 (.op 18 .done))))))))))))))))))))) (.cond (.seq (.join [(5, .one (.ptr)), (6, .one (.ptr))] (.plan (.op 0 (.op 1 (.op 2 (.op 3 (.op 4 (.op 5 (.op 6 (.op 7 (.op 8 (.op 9 (.op 10 (.op 11 (.op 12 (.op 13 (.alts (.fork 14 (.op 15 (.op 16 (.op 17 .done))) (.fork 15 (.op 14 (.op 16 (.op 17 .done))) .noalt))))))))))))))))))) (.seq .leaf (.seq .leaf (.seq .leaf .leaf)))) .leaf))))) none (bodyOf Try.f54) (retK Try.prog Try.f54.results R) (argEnv [.pointer (some ⟨a, 0, none⟩), .int .i64 i]) h := by kernel_rfl
theorem alarm_Alarm_up.walk {a : Nat} {i : Int} {h : Heap} {R : Value → Heap → Prop} (hv : alarm_Alarm_up.vc a i h R) : CallsH Try.prog F.alarm_Alarm_up #[.pointer (some ⟨a, 0, none⟩), .int .i64 i] h R :=
  callsH_of_body _ Try.func54 rfl rfl (Eq.mp (alarm_Alarm_up.den_eq a i h R) hv)

def alarm_Alarm_down.vc (a : Nat) (i : Int) (h : Heap) (R : Value → Heap → Prop) : Prop :=
  ∃ (I : Int → Heap → Prop) (mu : Int → Heap → Nat), (
    I i h) ∧ ∀ (i_1 : Int) (h_1 : Heap), I i_1 h_1 →
    ∃ (I_1 : Int → Int → Heap → Prop) (mu_1 : Int → Int → Heap → Nat), I_1 i_1 0 h_1 ∧ ∀ (best : Int) (t17 : Int) (h_2 : Heap), I_1 best t17 h_2 →
      if (decide (t17 < 2)) = true then
        JoinP (fun (best_1 : Int) (h_3 : Heap) =>
          (I_1 best_1 (IntKind.wrap .i64 (t17 + 1)) h_3 ∧ mu_1 best_1 (IntKind.wrap .i64 (t17 + 1)) h_3 < mu_1 best t17 h_2))
        (fun J =>
          ((0 : Int) ≤ t17 ∧ t17 < ((2 : Nat) : Int)) ∧
          (t17 = ((0 : Nat) : Int) →
            JoinP (fun (t43 : Bool) (h_4 : Heap) =>
              JoinP (fun (best_2 : Int) (h_5 : Heap) =>
                J best_2 h_5)
              (fun J_2 =>
                if t43 = true then
                  J_2 (IntKind.wrap .i64 ((IntKind.wrap .i64 (2 * i_1)) + 1)) h_4
                else
                  J_2 best h_4))
            (fun J_1 =>
              ∃ (t24_p : Option Addr) (t24_l t24_c : Nat), hcell h_2 ⟨a, 0, none⟩ = some (.slice t24_p t24_l t24_c) ∧
              if (decide ((IntKind.wrap .i64 ((IntKind.wrap .i64 (2 * i_1)) + 1)) < ((t24_l : Nat) : Int))) = true then
                ∃ (t31_p : Option Addr) (t31_l t31_c : Nat), hcell h_2 ⟨a, 0, none⟩ = some (.slice t31_p t31_l t31_c) ∧
                ((0 : Int) ≤ IntKind.wrap .i64 ((IntKind.wrap .i64 (2 * i_1)) + 1) ∧ IntKind.wrap .i64 ((IntKind.wrap .i64 (2 * i_1)) + 1) < ((t31_l : Nat) : Int)) ∧
                onSome t31_p fun a_1 =>
                ∃ (t34_0 : Int), hcell h_2 (a_1.add (Int.toNat (IntKind.wrap .i64 ((IntKind.wrap .i64 (2 * i_1)) + 1)) * 2)) = some (.int .i64 t34_0) ∧ ∃ (t34_1 : Int), hcell h_2 ((a_1.add (Int.toNat (IntKind.wrap .i64 ((IntKind.wrap .i64 (2 * i_1)) + 1)) * 2)).add 1) = some (.int .u64 t34_1) ∧ 
                ∃ (t38_p : Option Addr) (t38_l t38_c : Nat), hcell h_2 ⟨a, 0, none⟩ = some (.slice t38_p t38_l t38_c) ∧
                ((0 : Int) ≤ best ∧ best < ((t38_l : Nat) : Int)) ∧
                onSome t38_p fun a_2 =>
                ∃ (t41_0 : Int), hcell h_2 (a_2.add (Int.toNat best * 2)) = some (.int .i64 t41_0) ∧ ∃ (t41_1 : Int), hcell h_2 ((a_2.add (Int.toNat best * 2)).add 1) = some (.int .u64 t41_1) ∧ 
                CallsH Try.prog F.alarm_ahead #[.agg #[.int .i64 t34_0, .int .u64 t34_1], .agg #[.int .i64 t41_0, .int .u64 t41_1]] h_2 fun v h_6 =>
                ∃ (t42 : Bool), v = .bool t42 ∧
                hcell h_6 ⟨a, 0, none⟩ = some (.slice t38_p t38_l t38_c) ∧
                hcell h_6 ⟨a, 0, none⟩ = some (.slice t31_p t31_l t31_c) ∧
                hcell h_6 ⟨a, 0, none⟩ = some (.slice t24_p t24_l t24_c) ∧
                J_1 t42 h_6
              else
                J_1 false h_2)) ∧
          (t17 = ((1 : Nat) : Int) →
            JoinP (fun (t43_1 : Bool) (h_7 : Heap) =>
              JoinP (fun (best_3 : Int) (h_8 : Heap) =>
                J best_3 h_8)
              (fun J_4 =>
                if t43_1 = true then
                  J_4 (IntKind.wrap .i64 ((IntKind.wrap .i64 (2 * i_1)) + 2)) h_7
                else
                  J_4 best h_7))
            (fun J_3 =>
              ∃ (t24_p_1 : Option Addr) (t24_l_1 t24_c_1 : Nat), hcell h_2 ⟨a, 0, none⟩ = some (.slice t24_p_1 t24_l_1 t24_c_1) ∧
              if (decide ((IntKind.wrap .i64 ((IntKind.wrap .i64 (2 * i_1)) + 2)) < ((t24_l_1 : Nat) : Int))) = true then
                ∃ (t31_p_1 : Option Addr) (t31_l_1 t31_c_1 : Nat), hcell h_2 ⟨a, 0, none⟩ = some (.slice t31_p_1 t31_l_1 t31_c_1) ∧
                ((0 : Int) ≤ IntKind.wrap .i64 ((IntKind.wrap .i64 (2 * i_1)) + 2) ∧ IntKind.wrap .i64 ((IntKind.wrap .i64 (2 * i_1)) + 2) < ((t31_l_1 : Nat) : Int)) ∧
                onSome t31_p_1 fun a_3 =>
                ∃ (t34_0_1 : Int), hcell h_2 (a_3.add (Int.toNat (IntKind.wrap .i64 ((IntKind.wrap .i64 (2 * i_1)) + 2)) * 2)) = some (.int .i64 t34_0_1) ∧ ∃ (t34_1_1 : Int), hcell h_2 ((a_3.add (Int.toNat (IntKind.wrap .i64 ((IntKind.wrap .i64 (2 * i_1)) + 2)) * 2)).add 1) = some (.int .u64 t34_1_1) ∧ 
                ∃ (t38_p_1 : Option Addr) (t38_l_1 t38_c_1 : Nat), hcell h_2 ⟨a, 0, none⟩ = some (.slice t38_p_1 t38_l_1 t38_c_1) ∧
                ((0 : Int) ≤ best ∧ best < ((t38_l_1 : Nat) : Int)) ∧
                onSome t38_p_1 fun a_4 =>
                ∃ (t41_0_1 : Int), hcell h_2 (a_4.add (Int.toNat best * 2)) = some (.int .i64 t41_0_1) ∧ ∃ (t41_1_1 : Int), hcell h_2 ((a_4.add (Int.toNat best * 2)).add 1) = some (.int .u64 t41_1_1) ∧ 
                CallsH Try.prog F.alarm_ahead #[.agg #[.int .i64 t34_0_1, .int .u64 t34_1_1], .agg #[.int .i64 t41_0_1, .int .u64 t41_1_1]] h_2 fun v_1 h_9 =>
                ∃ (t42_1 : Bool), v_1 = .bool t42_1 ∧
                hcell h_9 ⟨a, 0, none⟩ = some (.slice t38_p_1 t38_l_1 t38_c_1) ∧
                hcell h_9 ⟨a, 0, none⟩ = some (.slice t31_p_1 t31_l_1 t31_c_1) ∧
                hcell h_9 ⟨a, 0, none⟩ = some (.slice t24_p_1 t24_l_1 t24_c_1) ∧
                J_3 t42_1 h_9
              else
                J_3 false h_2)) ∧
          True)
      else
        if (best != i_1) = true then
          JoinP (fun (x : Option Addr) (y : Option Addr) (h_10 : Heap) =>
            onSome x fun a_5 =>
            ∃ (t65_0 : Int), hcell h_10 a_5 = some (.int .i64 t65_0) ∧ ∃ (t65_1 : Int), hcell h_10 (a_5.add 1) = some (.int .u64 t65_1) ∧ 
            CallsH Try.prog F.alarm_Alarm_put #[.pointer (some ⟨a, 0, none⟩), .int .i64 best, .agg #[.int .i64 t65_0, .int .u64 t65_1]] h_10 fun v_2 h_11 =>
            v_2 = .tuple #[] ∧
            onSome y fun a_6 =>
            ∃ (t69_0 : Int), hcell h_11 a_6 = some (.int .i64 t69_0) ∧ ∃ (t69_1 : Int), hcell h_11 (a_6.add 1) = some (.int .u64 t69_1) ∧ 
            CallsH Try.prog F.alarm_Alarm_put #[.pointer (some ⟨a, 0, none⟩), .int .i64 i_1, .agg #[.int .i64 t69_0, .int .u64 t69_1]] h_11 fun v_3 h_12 =>
            v_3 = .tuple #[] ∧
            (I best h_12 ∧ mu best h_12 < mu i_1 h_1))
          (fun J_5 =>
            ∃ (t52_p : Option Addr) (t52_l t52_c : Nat), hcell h_2 ⟨a, 0, none⟩ = some (.slice t52_p t52_l t52_c) ∧
            ((0 : Int) ≤ i_1 ∧ i_1 < ((t52_l : Nat) : Int)) ∧
            onSome t52_p fun a_7 =>
            ∃ (t55_0 : Int), hcell h_2 (a_7.add (Int.toNat i_1 * 2)) = some (.int .i64 t55_0) ∧ ∃ (t55_1 : Int), hcell h_2 ((a_7.add (Int.toNat i_1 * 2)).add 1) = some (.int .u64 t55_1) ∧ 
            ∃ (t59_p : Option Addr) (t59_l t59_c : Nat), hcell h_2 ⟨a, 0, none⟩ = some (.slice t59_p t59_l t59_c) ∧
            ((0 : Int) ≤ best ∧ best < ((t59_l : Nat) : Int)) ∧
            onSome t59_p fun a_8 =>
            ∃ (t62_0 : Int), hcell h_2 (a_8.add (Int.toNat best * 2)) = some (.int .i64 t62_0) ∧ ∃ (t62_1 : Int), hcell h_2 ((a_8.add (Int.toNat best * 2)).add 1) = some (.int .u64 t62_1) ∧ 
            (NewP h_2 (.cells #[.int .i64 0, .int .u64 0] T.alarm_entry) fun b h_13 =>
            heldL (a_8.add (Int.toNat best * 2)) [.int .i64 t62_0, .int .u64 t62_1] 0 h_13 ∧
            hcell h_13 ⟨a, 0, none⟩ = some (.slice t59_p t59_l t59_c) ∧
            heldL (a_7.add (Int.toNat i_1 * 2)) [.int .i64 t55_0, .int .u64 t55_1] 0 h_13 ∧
            hcell h_13 ⟨a, 0, none⟩ = some (.slice t52_p t52_l t52_c) ∧
            NewP h_13 (.cells #[.int .i64 0, .int .u64 0] T.alarm_entry) fun b_1 h_14 =>
            heldL (a_8.add (Int.toNat best * 2)) [.int .i64 t62_0, .int .u64 t62_1] 0 h_14 ∧
            hcell h_14 ⟨a, 0, none⟩ = some (.slice t59_p t59_l t59_c) ∧
            heldL (a_7.add (Int.toNat i_1 * 2)) [.int .i64 t55_0, .int .u64 t55_1] 0 h_14 ∧
            hcell h_14 ⟨a, 0, none⟩ = some (.slice t52_p t52_l t52_c) ∧
            StoreP h_14 ⟨b, 0, none⟩ (.int .i64 t55_0) fun h_15 =>
            StoreP h_15 ⟨b, 1, none⟩ (.int .u64 t55_1) fun h_16 =>
            heldL (a_8.add (Int.toNat best * 2)) [.int .i64 t62_0, .int .u64 t62_1] 0 h_16 ∧
            hcell h_16 ⟨a, 0, none⟩ = some (.slice t59_p t59_l t59_c) ∧
            StoreP h_16 ⟨b_1, 0, none⟩ (.int .i64 t62_0) fun h_17 =>
            StoreP h_17 ⟨b_1, 1, none⟩ (.int .u64 t62_1) fun h_18 =>
            J_5 (some ⟨b, 0, none⟩) (some ⟨b_1, 0, none⟩) h_18) ∧
            (NewP h_2 (.cells #[.int .i64 0, .int .u64 0] T.alarm_entry) fun b_2 h_19 =>
            heldL (a_8.add (Int.toNat best * 2)) [.int .i64 t62_0, .int .u64 t62_1] 0 h_19 ∧
            hcell h_19 ⟨a, 0, none⟩ = some (.slice t59_p t59_l t59_c) ∧
            heldL (a_7.add (Int.toNat i_1 * 2)) [.int .i64 t55_0, .int .u64 t55_1] 0 h_19 ∧
            hcell h_19 ⟨a, 0, none⟩ = some (.slice t52_p t52_l t52_c) ∧
            NewP h_19 (.cells #[.int .i64 0, .int .u64 0] T.alarm_entry) fun b_3 h_20 =>
            heldL (a_8.add (Int.toNat best * 2)) [.int .i64 t62_0, .int .u64 t62_1] 0 h_20 ∧
            hcell h_20 ⟨a, 0, none⟩ = some (.slice t59_p t59_l t59_c) ∧
            heldL (a_7.add (Int.toNat i_1 * 2)) [.int .i64 t55_0, .int .u64 t55_1] 0 h_20 ∧
            hcell h_20 ⟨a, 0, none⟩ = some (.slice t52_p t52_l t52_c) ∧
            StoreP h_20 ⟨b_3, 0, none⟩ (.int .i64 t55_0) fun h_21 =>
            StoreP h_21 ⟨b_3, 1, none⟩ (.int .u64 t55_1) fun h_22 =>
            heldL (a_8.add (Int.toNat best * 2)) [.int .i64 t62_0, .int .u64 t62_1] 0 h_22 ∧
            hcell h_22 ⟨a, 0, none⟩ = some (.slice t59_p t59_l t59_c) ∧
            StoreP h_22 ⟨b_2, 0, none⟩ (.int .i64 t62_0) fun h_23 =>
            StoreP h_23 ⟨b_2, 1, none⟩ (.int .u64 t62_1) fun h_24 =>
            J_5 (some ⟨b_3, 0, none⟩) (some ⟨b_2, 0, none⟩) h_24) ∧
            True)
        else
          R (.tuple #[]) h_2
theorem alarm_Alarm_down.den_eq (a : Nat) (i : Int) (h : Heap) (R : Value → Heap → Prop) : alarm_Alarm_down.vc a i h R = den Try.prog Try.f69.ntmps (.scope 0 [(1, .one (.int .i64))] (.seq .leaf .leaf) (.seq .leaf (.seq .leaf (.seq (.seq .leaf (.block (.loop [(4, .one (.int .i64)), (17, .one (.int .i64))] (.seq .leaf (.seq (.cond .leaf .leaf) (.seq (.join [(4, .one (.int .i64))] (.block (.seq .leaf (.seq (.join [(43, .one (.bool))] (.plan (.op 0 (.op 1 (.op 2 (.op 3 (.op 4 (.op 5 (.op 6 (.op 7 (.op 8 (.op 9 (.op 10 (.op 11 (.op 12 (.op 13 (.op 14 (.op 15 (.op 16 (.op 17 (.op 18 (.op 19 (.op 20 (.op 21 (.op 22 (.op 23 .done)))))))))))))))))))))))))) (.join [(4, .one (.int .i64))] (.cond .leaf .leaf)))))) .leaf)))))) (.seq .leaf (.cond (.seq (.join [(7, .one (.ptr)), (8, .one (.ptr))] (.plan (.op 0 (.op 1 (.op 2 (.op 3 (.op 4 (.op 5 (.op 6 (.op 7 (.op 8 (.op 9 (.op 10 (.op 11 (.op 12 (.op 13 (.alts (.fork 14 (.op 15 (.op 16 (.op 17 .done))) (.fork 15 (.op 14 (.op 16 (.op 17 .done))) .noalt))))))))))))))))))) (.seq .leaf (.seq .leaf (.seq .leaf .leaf)))) .leaf)))))) none (bodyOf Try.f69) (retK Try.prog Try.f69.results R) (argEnv [.pointer (some ⟨a, 0, none⟩), .int .i64 i]) h := by kernel_rfl
theorem alarm_Alarm_down.walk {a : Nat} {i : Int} {h : Heap} {R : Value → Heap → Prop} (hv : alarm_Alarm_down.vc a i h R) : CallsH Try.prog F.alarm_Alarm_down #[.pointer (some ⟨a, 0, none⟩), .int .i64 i] h R :=
  callsH_of_body _ Try.func69 rfl rfl (Eq.mp (alarm_Alarm_down.den_eq a i h R) hv)

def alarm_Alarm_Set.vc (a : Nat) (key : Int) (v_at : Int) (h : Heap) (R : Value → Heap → Prop) : Prop :=
  CallsH Try.prog F.alarm_Alarm_made #[.pointer (some ⟨a, 0, none⟩)] h fun v h_1 =>
  ∃ (t10 : Bool), v = .bool t10 ∧
  if (!t10) = true then
    R (.int .i64 6) h_1
  else
    JoinP (fun (t12 : Bool) (h_2 : Heap) =>
      if t12 = true then
        R (.int .i64 1) h_2
      else
        CallsH Try.prog F.alarm_Alarm_Drop #[.pointer (some ⟨a, 0, none⟩), .int .i64 key] h_2 fun v_1 h_3 =>
        ∃ (t25 : Int), v_1 = .int .i64 t25 ∧
        ∃ (t30_p : Option Addr) (t30_l t30_c : Nat), hcell h_3 ⟨a, 0, none⟩ = some (.slice t30_p t30_l t30_c) ∧
        NewP h_3 (.cells #[.int .i64 0, .int .u64 0] T.alarm_entry) fun b h_4 =>
        denSem Try.prog (Builtin.append_ #[T.s_alarm_entry, T.s_alarm_entry] T.s_alarm_entry #[.slice t30_p t30_l t30_c, .slice (some ⟨b, 0, none⟩) 1 1]) h_4 fun v_2 h_5 =>
        ∃ (t33_p : Option Addr) (t33_l t33_c : Nat), v_2 = .slice t33_p t33_l t33_c ∧
        StoreP h_5 ⟨a, 0, none⟩ (.slice t33_p t33_l t33_c) fun h_6 =>
        ∃ (t39_p : Option Addr) (t39_l t39_c : Nat), hcell h_6 ⟨a, 0, none⟩ = some (.slice t39_p t39_l t39_c) ∧
        CallsH Try.prog F.alarm_Alarm_put #[.pointer (some ⟨a, 0, none⟩), .int .i64 (IntKind.wrap .i64 (((t39_l : Nat) : Int) - 1)), .agg #[.int .i64 key, .int .u64 v_at]] h_6 fun v_3 h_7 =>
        v_3 = .tuple #[] ∧
        CallsH Try.prog F.alarm_Alarm_up #[.pointer (some ⟨a, 0, none⟩), .int .i64 (IntKind.wrap .i64 (((t39_l : Nat) : Int) - 1))] h_7 fun v_4 h_8 =>
        v_4 = .tuple #[] ∧
        R (.int .i64 0) h_8)
    (fun J =>
      if (decide (key < 1)) = true then
        J true h_1
      else
        if (decide (key > 1099511627776)) = true then
          J true h_1
        else
          J (decide (v_at > 1099511627776)) h_1)
theorem alarm_Alarm_Set.den_eq (a : Nat) (key : Int) (v_at : Int) (h : Heap) (R : Value → Heap → Prop) : alarm_Alarm_Set.vc a key v_at h R = den Try.prog Try.f37.ntmps (.seq .leaf (.seq (.block (.seq .leaf (.cond (.seq .leaf .leaf) (.seq (.join [(12, .one (.bool))] .leaf) (.cond (.seq .leaf .leaf) .leaf))))) (.seq .leaf (.seq .leaf (.seq .leaf (.seq .leaf (.seq .leaf (.seq .leaf .leaf)))))))) none (bodyOf Try.f37) (retK Try.prog Try.f37.results R) (argEnv [.pointer (some ⟨a, 0, none⟩), .int .i64 key, .int .u64 v_at]) h := by kernel_rfl
theorem alarm_Alarm_Set.walk {a : Nat} {key : Int} {v_at : Int} {h : Heap} {R : Value → Heap → Prop} (hv : alarm_Alarm_Set.vc a key v_at h R) : CallsH Try.prog F.alarm_Alarm_Set #[.pointer (some ⟨a, 0, none⟩), .int .i64 key, .int .u64 v_at] h R :=
  callsH_of_body _ Try.func37 rfl rfl (Eq.mp (alarm_Alarm_Set.den_eq a key v_at h R) hv)

def alarm_Alarm_Set.nil.vc (key : Int) (v_at : Int) (h : Heap) (R : Value → Heap → Prop) : Prop :=
  CallsH Try.prog F.alarm_Alarm_made #[.pointer none] h fun v h_1 =>
  ∃ (t10 : Bool), v = .bool t10 ∧
  if (!t10) = true then
    R (.int .i64 6) h_1
  else
    JoinP (fun (t12 : Bool) (h_2 : Heap) =>
      if t12 = true then
        R (.int .i64 1) h_2
      else
        CallsH Try.prog F.alarm_Alarm_Drop #[.pointer none, .int .i64 key] h_2 fun v_1 h_3 =>
        ∃ (t25 : Int), v_1 = .int .i64 t25 ∧
        False)
    (fun J =>
      if (decide (key < 1)) = true then
        J true h_1
      else
        if (decide (key > 1099511627776)) = true then
          J true h_1
        else
          J (decide (v_at > 1099511627776)) h_1)
theorem alarm_Alarm_Set.nil.den_eq (key : Int) (v_at : Int) (h : Heap) (R : Value → Heap → Prop) : alarm_Alarm_Set.nil.vc key v_at h R = den Try.prog Try.f37.ntmps (.seq .leaf (.seq (.block (.seq .leaf (.cond (.seq .leaf .leaf) (.seq (.join [(12, .one (.bool))] .leaf) (.cond (.seq .leaf .leaf) .leaf))))) (.seq .leaf (.seq .leaf (.seq .leaf (.seq .leaf (.seq .leaf (.seq .leaf .leaf)))))))) none (bodyOf Try.f37) (retK Try.prog Try.f37.results R) (argEnv [.pointer none, .int .i64 key, .int .u64 v_at]) h := by kernel_rfl
theorem alarm_Alarm_Set.nil.walk {key : Int} {v_at : Int} {h : Heap} {R : Value → Heap → Prop} (hv : alarm_Alarm_Set.nil.vc key v_at h R) : CallsH Try.prog F.alarm_Alarm_Set #[.pointer none, .int .i64 key, .int .u64 v_at] h R :=
  callsH_of_body _ Try.func37 rfl rfl (Eq.mp (alarm_Alarm_Set.nil.den_eq key v_at h R) hv)

def alarm_Alarm_Drop.vc (a : Nat) (key : Int) (h : Heap) (R : Value → Heap → Prop) : Prop :=
  CallsH Try.prog F.alarm_Alarm_made #[.pointer (some ⟨a, 0, none⟩)] h fun v h_1 =>
  ∃ (t10 : Bool), v = .bool t10 ∧
  if (!t10) = true then
    R (.int .i64 6) h_1
  else
    ∃ (t16 : Option Nat), hcell h_1 ⟨a, 1, none⟩ = some (.map t16) ∧
    ∃ (t18_0 : Int), ∃ (t18_1 : Bool), LookV Try.prog T.m_int_int (.map t16) (.int .i64 key) true h_1 (.tuple #[.int .i64 t18_0, .bool t18_1]) ∧
    if (!t18_1) = true then
      R (.int .i64 4) h_1
    else
      ∃ (t26_p : Option Addr) (t26_l t26_c : Nat), hcell h_1 ⟨a, 0, none⟩ = some (.slice t26_p t26_l t26_c) ∧
      ∃ (t32_p : Option Addr) (t32_l t32_c : Nat), hcell h_1 ⟨a, 0, none⟩ = some (.slice t32_p t32_l t32_c) ∧
      ((0 : Int) ≤ IntKind.wrap .i64 (((t26_l : Nat) : Int) - 1) ∧ IntKind.wrap .i64 (((t26_l : Nat) : Int) - 1) < ((t32_l : Nat) : Int)) ∧
      onSome t32_p fun a_1 =>
      ∃ (t35_0 : Int), hcell h_1 (a_1.add (Int.toNat (IntKind.wrap .i64 (((t26_l : Nat) : Int) - 1)) * 2)) = some (.int .i64 t35_0) ∧ ∃ (t35_1 : Int), hcell h_1 ((a_1.add (Int.toNat (IntKind.wrap .i64 (((t26_l : Nat) : Int) - 1)) * 2)).add 1) = some (.int .u64 t35_1) ∧ 
      NewP h_1 (.cells #[.int .i64 0, .int .u64 0] T.alarm_entry) fun b h_2 =>
      StoreP h_2 ⟨b, 0, none⟩ (.int .i64 t35_0) fun h_3 =>
      StoreP h_3 ⟨b, 1, none⟩ (.int .u64 t35_1) fun h_4 =>
      ∃ (t40_p : Option Addr) (t40_l t40_c : Nat), hcell h_4 ⟨a, 0, none⟩ = some (.slice t40_p t40_l t40_c) ∧
      ((0 : Int) ≤ IntKind.wrap .i64 (((t26_l : Nat) : Int) - 1) ∧ IntKind.wrap .i64 (((t26_l : Nat) : Int) - 1) ≤ ((t40_c : Nat) : Int)) ∧ 
      StoreP h_4 ⟨a, 0, none⟩ (.slice (slBase t40_p t40_c 0 2) ((Int.toNat (IntKind.wrap .i64 (((t26_l : Nat) : Int) - 1))) - 0) (t40_c - 0)) fun h_5 =>
      ∃ (t48 : Option Nat), hcell h_5 ⟨a, 1, none⟩ = some (.map t48) ∧
      denSem Try.prog (Builtin.delete_ #[T.m_int_int, T.int] T.tup_ #[.map t48, .int .i64 key]) h_5 fun v_1 h_6 =>
      v_1 = .tuple #[] ∧
      JoinP (fun (h_7 : Heap) =>
        R (.int .i64 0) h_7)
      (fun J =>
        if (decide (t18_0 < (IntKind.wrap .i64 (((t26_l : Nat) : Int) - 1)))) = true then
          ∃ (t55_0 : Int), hcell h_6 ⟨b, 0, none⟩ = some (.int .i64 t55_0) ∧ ∃ (t55_1 : Int), hcell h_6 ⟨b, 1, none⟩ = some (.int .u64 t55_1) ∧ 
          CallsH Try.prog F.alarm_Alarm_put #[.pointer (some ⟨a, 0, none⟩), .int .i64 t18_0, .agg #[.int .i64 t55_0, .int .u64 t55_1]] h_6 fun v_2 h_8 =>
          v_2 = .tuple #[] ∧
          CallsH Try.prog F.alarm_Alarm_up #[.pointer (some ⟨a, 0, none⟩), .int .i64 t18_0] h_8 fun v_3 h_9 =>
          v_3 = .tuple #[] ∧
          ∃ (t64 : Option Nat), hcell h_9 ⟨a, 1, none⟩ = some (.map t64) ∧
          ∃ (t66 : Int), hcell h_9 ⟨b, 0, none⟩ = some (.int .i64 t66) ∧
          ∃ (t67 : Int), LookV Try.prog T.m_int_int (.map t64) (.int .i64 t66) false h_9 (.int .i64 t67) ∧
          CallsH Try.prog F.alarm_Alarm_down #[.pointer (some ⟨a, 0, none⟩), .int .i64 t67] h_9 fun v_4 h_10 =>
          v_4 = .tuple #[] ∧
          hcell h_10 ⟨b, 0, none⟩ = some (.int .i64 t66) ∧
          hcell h_10 ⟨a, 1, none⟩ = some (.map t64) ∧
          J h_10
        else
          J h_6)
theorem alarm_Alarm_Drop.den_eq (a : Nat) (key : Int) (h : Heap) (R : Value → Heap → Prop) : alarm_Alarm_Drop.vc a key h R = den Try.prog Try.f52.ntmps (.seq .leaf (.seq (.seq .leaf (.cond (.seq .leaf .leaf) .leaf)) (.seq .leaf (.seq (.seq .leaf (.cond (.seq .leaf .leaf) .leaf)) (.seq .leaf (.seq .leaf (.seq .leaf (.seq .leaf (.seq (.seq .leaf (.join [] (.cond (.seq .leaf (.seq .leaf (.plan (.op 0 (.op 1 (.op 2 (.op 3 (.op 4 (.op 5 (.op 6 (.op 7 (.op 8 .done)))))))))))) .leaf))) (.seq .leaf .leaf)))))))))) none (bodyOf Try.f52) (retK Try.prog Try.f52.results R) (argEnv [.pointer (some ⟨a, 0, none⟩), .int .i64 key]) h := by kernel_rfl
theorem alarm_Alarm_Drop.walk {a : Nat} {key : Int} {h : Heap} {R : Value → Heap → Prop} (hv : alarm_Alarm_Drop.vc a key h R) : CallsH Try.prog F.alarm_Alarm_Drop #[.pointer (some ⟨a, 0, none⟩), .int .i64 key] h R :=
  callsH_of_body _ Try.func52 rfl rfl (Eq.mp (alarm_Alarm_Drop.den_eq a key h R) hv)

def alarm_Alarm_Drop.nil.vc (key : Int) (h : Heap) (R : Value → Heap → Prop) : Prop :=
  CallsH Try.prog F.alarm_Alarm_made #[.pointer none] h fun v h_1 =>
  ∃ (t10 : Bool), v = .bool t10 ∧
  if (!t10) = true then
    R (.int .i64 6) h_1
  else
    False
theorem alarm_Alarm_Drop.nil.den_eq (key : Int) (h : Heap) (R : Value → Heap → Prop) : alarm_Alarm_Drop.nil.vc key h R = den Try.prog Try.f52.ntmps (.seq .leaf (.seq (.seq .leaf (.cond (.seq .leaf .leaf) .leaf)) (.seq .leaf (.seq (.seq .leaf (.cond (.seq .leaf .leaf) .leaf)) (.seq .leaf (.seq .leaf (.seq .leaf (.seq .leaf (.seq (.seq .leaf (.join [] (.cond (.seq .leaf (.seq .leaf (.plan (.op 0 (.op 1 (.op 2 (.op 3 (.op 4 (.op 5 (.op 6 (.op 7 (.op 8 .done)))))))))))) .leaf))) (.seq .leaf .leaf)))))))))) none (bodyOf Try.f52) (retK Try.prog Try.f52.results R) (argEnv [.pointer none, .int .i64 key]) h := by kernel_rfl
theorem alarm_Alarm_Drop.nil.walk {key : Int} {h : Heap} {R : Value → Heap → Prop} (hv : alarm_Alarm_Drop.nil.vc key h R) : CallsH Try.prog F.alarm_Alarm_Drop #[.pointer none, .int .i64 key] h R :=
  callsH_of_body _ Try.func52 rfl rfl (Eq.mp (alarm_Alarm_Drop.nil.den_eq key h R) hv)

def alarm_Alarm_Next.vc (a : Nat) (h : Heap) (R : Value → Heap → Prop) : Prop :=
  CallsH Try.prog F.alarm_Alarm_Len #[.pointer (some ⟨a, 0, none⟩)] h fun v h_1 =>
  ∃ (t6 : Int), v = .int .i64 t6 ∧
  if (t6 == 0) = true then
    R (.tuple #[.int .i64 0, .int .u64 0, .bool false]) h_1
  else
    ∃ (t11_p : Option Addr) (t11_l t11_c : Nat), hcell h_1 ⟨a, 0, none⟩ = some (.slice t11_p t11_l t11_c) ∧
    ((0 : Int) ≤ 0 ∧ 0 < ((t11_l : Nat) : Int)) ∧
    onSome t11_p fun a_1 =>
    ∃ (t14 : Int), hcell h_1 (a_1.add (Int.toNat 0 * 2)) = some (.int .i64 t14) ∧
    ∃ (t18_p : Option Addr) (t18_l t18_c : Nat), hcell h_1 ⟨a, 0, none⟩ = some (.slice t18_p t18_l t18_c) ∧
    ((0 : Int) ≤ 0 ∧ 0 < ((t18_l : Nat) : Int)) ∧
    onSome t18_p fun a_2 =>
    ∃ (t21 : Int), hcell h_1 ((a_2.add (Int.toNat 0 * 2)).add 1) = some (.int .u64 t21) ∧
    R (.tuple #[.int .i64 t14, .int .u64 t21, .bool true]) h_1
theorem alarm_Alarm_Next.den_eq (a : Nat) (h : Heap) (R : Value → Heap → Prop) : alarm_Alarm_Next.vc a h R = den Try.prog Try.f55.ntmps (.seq .leaf (.seq (.seq .leaf (.cond (.seq .leaf .leaf) .leaf)) (.seq (.plan (.op 0 (.op 1 (.op 2 (.op 3 (.op 4 (.op 5 (.op 6 (.op 7 (.op 8 (.op 9 (.op 10 (.op 11 (.op 12 (.op 13 (.op 14 (.op 15 (.op 16 .done)))))))))))))))))) .leaf))) none (bodyOf Try.f55) (retK Try.prog Try.f55.results R) (argEnv [.pointer (some ⟨a, 0, none⟩)]) h := by kernel_rfl
theorem alarm_Alarm_Next.walk {a : Nat} {h : Heap} {R : Value → Heap → Prop} (hv : alarm_Alarm_Next.vc a h R) : CallsH Try.prog F.alarm_Alarm_Next #[.pointer (some ⟨a, 0, none⟩)] h R :=
  callsH_of_body _ Try.func55 rfl rfl (Eq.mp (alarm_Alarm_Next.den_eq a h R) hv)

def alarm_Alarm_Next.nil.vc  (h : Heap) (R : Value → Heap → Prop) : Prop :=
  CallsH Try.prog F.alarm_Alarm_Len #[.pointer none] h fun v h_1 =>
  ∃ (t6 : Int), v = .int .i64 t6 ∧
  if (t6 == 0) = true then
    R (.tuple #[.int .i64 0, .int .u64 0, .bool false]) h_1
  else
    False
theorem alarm_Alarm_Next.nil.den_eq  (h : Heap) (R : Value → Heap → Prop) : alarm_Alarm_Next.nil.vc h R = den Try.prog Try.f55.ntmps (.seq .leaf (.seq (.seq .leaf (.cond (.seq .leaf .leaf) .leaf)) (.seq (.plan (.op 0 (.op 1 (.op 2 (.op 3 (.op 4 (.op 5 (.op 6 (.op 7 (.op 8 (.op 9 (.op 10 (.op 11 (.op 12 (.op 13 (.op 14 (.op 15 (.op 16 .done)))))))))))))))))) .leaf))) none (bodyOf Try.f55) (retK Try.prog Try.f55.results R) (argEnv [.pointer none]) h := by kernel_rfl
theorem alarm_Alarm_Next.nil.walk  {h : Heap} {R : Value → Heap → Prop} (hv : alarm_Alarm_Next.nil.vc h R) : CallsH Try.prog F.alarm_Alarm_Next #[.pointer none] h R :=
  callsH_of_body _ Try.func55 rfl rfl (Eq.mp (alarm_Alarm_Next.nil.den_eq h R) hv)

def alarm_Alarm_Ring.vc (a : Nat) (now : Int) (h : Heap) (R : Value → Heap → Prop) : Prop :=
  CallsH Try.prog F.alarm_Alarm_Next #[.pointer (some ⟨a, 0, none⟩)] h fun v h_1 =>
  ∃ (t11_0 : Int), ∃ (t11_1 : Int), ∃ (t11_2 : Bool), v = .tuple #[.int .i64 t11_0, .int .u64 t11_1, .bool t11_2] ∧
  ∃ (I : Option Addr → Nat → Nat → Int → Int → Bool → Heap → Prop) (mu : Option Addr → Nat → Nat → Int → Int → Bool → Heap → Nat), I none 0 0 t11_0 t11_1 t11_2 h_1 ∧ ∀ (out_p : Option Addr) (out_l out_c : Nat) (key : Int) (v_at : Int) (is : Bool) (h_2 : Heap), I out_p out_l out_c key v_at is h_2 →
    JoinP (fun (t20 : Bool) (h_3 : Heap) =>
      if t20 = true then
        NewP h_3 (.cells #[.int .i64 key] T.int) fun b h_4 =>
        denSem Try.prog (Builtin.append_ #[T.s_int, T.s_int] T.s_int #[.slice out_p out_l out_c, .slice (some ⟨b, 0, none⟩) 1 1]) h_4 fun v_1 h_5 =>
        ∃ (t30_p : Option Addr) (t30_l t30_c : Nat), v_1 = .slice t30_p t30_l t30_c ∧
        CallsH Try.prog F.alarm_Alarm_Drop #[.pointer (some ⟨a, 0, none⟩), .int .i64 key] h_5 fun v_2 h_6 =>
        ∃ (t33 : Int), v_2 = .int .i64 t33 ∧
        CallsH Try.prog F.alarm_Alarm_Next #[.pointer (some ⟨a, 0, none⟩)] h_6 fun v_3 h_7 =>
        ∃ (t23_0 : Int), ∃ (t23_1 : Int), ∃ (t23_2 : Bool), v_3 = .tuple #[.int .i64 t23_0, .int .u64 t23_1, .bool t23_2] ∧
        (I t30_p t30_l t30_c t23_0 t23_1 t23_2 h_7 ∧ mu t30_p t30_l t30_c t23_0 t23_1 t23_2 h_7 < mu out_p out_l out_c key v_at is h_2)
      else
        R (.slice out_p out_l out_c) h_3)
    (fun J =>
      if is = true then
        J (decide (v_at ≤ now)) h_2
      else
        J false h_2)
theorem alarm_Alarm_Ring.den_eq (a : Nat) (now : Int) (h : Heap) (R : Value → Heap → Prop) : alarm_Alarm_Ring.vc a now h R = den Try.prog Try.f39.ntmps (.seq .leaf (.seq .leaf (.seq (.seq .leaf (.block (.loop [(5, .one (.slice)), (6, .one (.int .i64)), (7, .one (.int .u64)), (8, .one (.bool))] (.seq (.seq (.join [(20, .one (.bool))] .leaf) (.cond .leaf .leaf)) (.seq (.block (.seq .leaf .leaf)) .leaf))))) (.seq .leaf .leaf)))) none (bodyOf Try.f39) (retK Try.prog Try.f39.results R) (argEnv [.pointer (some ⟨a, 0, none⟩), .int .u64 now]) h := by kernel_rfl
theorem alarm_Alarm_Ring.walk {a : Nat} {now : Int} {h : Heap} {R : Value → Heap → Prop} (hv : alarm_Alarm_Ring.vc a now h R) : CallsH Try.prog F.alarm_Alarm_Ring #[.pointer (some ⟨a, 0, none⟩), .int .u64 now] h R :=
  callsH_of_body _ Try.func39 rfl rfl (Eq.mp (alarm_Alarm_Ring.den_eq a now h R) hv)

end Go.Proofs.Ytgccegnmggjkjaa
