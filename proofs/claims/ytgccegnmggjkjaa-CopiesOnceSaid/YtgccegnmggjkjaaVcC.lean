/-
  Printed by a program of this work (vc.py): the verification conditions of functions, and that each is enough for the call. No condition.
-/
import Derived.Test.YtgccegnmggjkjaaNames
set_option maxRecDepth 100000
set_option maxHeartbeats 4000000
namespace Go.Proofs.Ytgccegnmggjkjaa
open Go.Den
def copies_New.vc  (h : Heap) (R : Value → Heap → Prop) : Prop :=
  NewP h (.map #[] 0) fun b h_1 =>
  CallsH Try.prog F.alarm_New #[] h_1 fun v h_2 =>
  ∃ (t2 : Option Addr), v = .pointer t2 ∧
  CallsH Try.prog F.alarm_New #[] h_2 fun v_1 h_3 =>
  ∃ (t3 : Option Addr), v_1 = .pointer t3 ∧
  NewP h_3 (.cells #[.map (some b), .int .i64 1, .int .i64 0, .int .i64 0, .int .i64 0, .pointer t2, .pointer t3] T.copies_Table) fun b_1 h_4 =>
  R (.pointer (some ⟨b_1, 0, none⟩)) h_4
theorem copies_New.den_eq  (h : Heap) (R : Value → Heap → Prop) : copies_New.vc h R = den Try.prog Try.f13.ntmps (.seq .leaf (.seq .leaf .leaf)) none (bodyOf Try.f13) (retK Try.prog Try.f13.results R) (argEnv []) h := by kernel_rfl
theorem copies_New.walk  {h : Heap} {R : Value → Heap → Prop} (hv : copies_New.vc h R) : CallsH Try.prog F.copies_New #[] h R :=
  callsH_of_body _ Try.func13 rfl rfl (Eq.mp (copies_New.den_eq h R) hv)

def copies_Table_made.vc (t : Nat) (h : Heap) (R : Value → Heap → Prop) : Prop :=
  ∃ (t9 : Option Nat), hcell h ⟨t, 0, none⟩ = some (.map t9) ∧
  R (.bool (!t9.isNone)) h
theorem copies_Table_made.den_eq (t : Nat) (h : Heap) (R : Value → Heap → Prop) : copies_Table_made.vc t h R = den Try.prog Try.f33.ntmps (.seq .leaf (.seq .leaf .leaf)) none (bodyOf Try.f33) (retK Try.prog Try.f33.results R) (argEnv [.pointer (some ⟨t, 0, none⟩)]) h := by kernel_rfl
theorem copies_Table_made.walk {t : Nat} {h : Heap} {R : Value → Heap → Prop} (hv : copies_Table_made.vc t h R) : CallsH Try.prog F.copies_Table_made #[.pointer (some ⟨t, 0, none⟩)] h R :=
  callsH_of_body _ Try.func33 rfl rfl (Eq.mp (copies_Table_made.den_eq t h R) hv)

def copies_Table_made.nil.vc  (h : Heap) (R : Value → Heap → Prop) : Prop :=
  R (.bool false) h
theorem copies_Table_made.nil.den_eq  (h : Heap) (R : Value → Heap → Prop) : copies_Table_made.nil.vc h R = den Try.prog Try.f33.ntmps (.seq .leaf (.seq .leaf .leaf)) none (bodyOf Try.f33) (retK Try.prog Try.f33.results R) (argEnv [.pointer none]) h := by kernel_rfl
theorem copies_Table_made.nil.walk  {h : Heap} {R : Value → Heap → Prop} (hv : copies_Table_made.nil.vc h R) : CallsH Try.prog F.copies_Table_made #[.pointer none] h R :=
  callsH_of_body _ Try.func33 rfl rfl (Eq.mp (copies_Table_made.nil.den_eq h R) hv)

def copies_Table_numbers.vc (t : Nat) (h : Heap) (R : Value → Heap → Prop) : Prop :=
  CallsH Try.prog F.copies_Table_made #[.pointer (some ⟨t, 0, none⟩)] h fun v h_1 =>
  ∃ (t6 : Bool), v = .bool t6 ∧
  JoinP (fun (out_p : Option Addr) (out_l out_c : Nat) (h_2 : Heap) =>
    CallsH Try.prog F.slices_Sort_s_int_int #[.slice out_p out_l out_c] h_2 fun v_1 h_3 =>
    v_1 = .tuple #[] ∧
    R (.slice out_p out_l out_c) h_3)
  (fun J =>
    if t6 = true then
      ∃ (t10 : Option Nat), hcell h_1 ⟨t, 0, none⟩ = some (.map t10) ∧
      denSem Try.prog (Instr.range T.m_int_p_copies_Copy (.map t10)) h_1 fun v_2 h_4 =>
      ∃ (it : Nat), v_2 = .pointer (some ⟨it, 0, none⟩) ∧
      ∃ (I : Option Addr → Nat → Nat → Heap → Prop) (mu : Option Addr → Nat → Nat → Heap → Nat), I none 0 0 h_4 ∧ ∀ (out_p_1 : Option Addr) (out_l_1 out_c_1 : Nat) (h_5 : Heap), I out_p_1 out_l_1 out_c_1 h_5 →
        denSem Try.prog (Instr.next (.pointer (some ⟨it, 0, none⟩)) false T.tup_) h_5 fun v_3 h_6 =>
        (v_3 = .tuple #[.bool false] ∧
          J out_p_1 out_l_1 out_c_1 h_6) ∨
        (  ∃ (t12_k t12_v : Value), v_3 = .tuple #[.bool true, t12_k, t12_v] ∧
          denSem Try.prog (Instr.entry (.pointer (some ⟨it, 0, none⟩))) h_6 fun v_4 h_7 =>
          ∃ (t14_k t14_v : Value), v_4 = .tuple #[t14_k, t14_v] ∧
          ∃ (t15 : Int), t14_k = .int .i64 t15 ∧
          NewP h_7 (.cells #[.int .i64 t15] T.int) fun b h_8 =>
          denSem Try.prog (Builtin.append_ #[T.s_int, T.s_int] T.s_int #[.slice out_p_1 out_l_1 out_c_1, .slice (some ⟨b, 0, none⟩) 1 1]) h_8 fun v_5 h_9 =>
          ∃ (t19_p : Option Addr) (t19_l t19_c : Nat), v_5 = .slice t19_p t19_l t19_c ∧
          (I t19_p t19_l t19_c h_9 ∧ mu t19_p t19_l t19_c h_9 < mu out_p_1 out_l_1 out_c_1 h_5))
    else
      J none 0 0 h_1)
theorem copies_Table_numbers.den_eq (t : Nat) (h : Heap) (R : Value → Heap → Prop) : copies_Table_numbers.vc t h R = den Try.prog Try.f49.ntmps (.seq .leaf (.seq .leaf (.seq (.seq .leaf (.join [(3, .one (.slice))] (.cond (.seq .leaf (.block (.loop [(3, .one (.slice))] (.seq .leaf (.seq (.cond .leaf .leaf) (.block (.seq (.typed [(15, .one (.int .i64))]) .leaf))))))) .leaf))) (.seq .leaf (.seq .leaf .leaf))))) none (bodyOf Try.f49) (retK Try.prog Try.f49.results R) (argEnv [.pointer (some ⟨t, 0, none⟩)]) h := by kernel_rfl
theorem copies_Table_numbers.walk {t : Nat} {h : Heap} {R : Value → Heap → Prop} (hv : copies_Table_numbers.vc t h R) : CallsH Try.prog F.copies_Table_numbers #[.pointer (some ⟨t, 0, none⟩)] h R :=
  callsH_of_body _ Try.func49 rfl rfl (Eq.mp (copies_Table_numbers.den_eq t h R) hv)

def copies_Table_numbers.nil.vc  (h : Heap) (R : Value → Heap → Prop) : Prop :=
  CallsH Try.prog F.copies_Table_made #[.pointer none] h fun v h_1 =>
  ∃ (t6 : Bool), v = .bool t6 ∧
  JoinP (fun (out_p : Option Addr) (out_l out_c : Nat) (h_2 : Heap) =>
    CallsH Try.prog F.slices_Sort_s_int_int #[.slice out_p out_l out_c] h_2 fun v_1 h_3 =>
    v_1 = .tuple #[] ∧
    R (.slice out_p out_l out_c) h_3)
  (fun J =>
    if t6 = true then
      False
    else
      J none 0 0 h_1)
theorem copies_Table_numbers.nil.den_eq  (h : Heap) (R : Value → Heap → Prop) : copies_Table_numbers.nil.vc h R = den Try.prog Try.f49.ntmps (.seq .leaf (.seq .leaf (.seq (.seq .leaf (.join [(3, .one (.slice))] (.cond (.seq .leaf (.block (.loop [(3, .one (.slice))] (.seq .leaf (.seq (.cond .leaf .leaf) (.block (.seq (.typed [(15, .one (.int .i64))]) .leaf))))))) .leaf))) (.seq .leaf (.seq .leaf .leaf))))) none (bodyOf Try.f49) (retK Try.prog Try.f49.results R) (argEnv [.pointer none]) h := by kernel_rfl
theorem copies_Table_numbers.nil.walk  {h : Heap} {R : Value → Heap → Prop} (hv : copies_Table_numbers.nil.vc h R) : CallsH Try.prog F.copies_Table_numbers #[.pointer none] h R :=
  callsH_of_body _ Try.func49 rfl rfl (Eq.mp (copies_Table_numbers.nil.den_eq h R) hv)

def copies_Table_of_1.vc (n : Int) (c0 : Nat) (c1 : Nat) (h : Heap) (R : Value → Heap → Prop) : Prop :=
  ∃ (t5 : Option Addr), hcell h ⟨c0, 0, none⟩ = some (.pointer t5) ∧
  onSome t5 fun a =>
  ∃ (t8 : Option Nat), hcell h a = some (.map t8) ∧
  ∃ (t10 : Option Addr), LookV Try.prog T.m_int_p_copies_Copy (.map t8) (.int .i64 n) false h (.pointer t10) ∧
  onSome t10 fun a_1 =>
  eid_Eid.LD h (a_1.add 1) fun t13_0 t13_1 t13_2 t13_3 t13_4 =>
  eid_Eid.LD h ⟨c1, 0, none⟩ fun t14_0 t14_1 t14_2 t14_3 t14_4 =>
  ∃ (eq : Bool), EqV Try.prog T.eid_Eid (.agg #[.bool t13_0, .int .u64 t13_1, .int .u64 t13_2, .string t13_3, .string t13_4]) (.agg #[.bool t14_0, .int .u64 t14_1, .int .u64 t14_2, .string t14_3, .string t14_4]) eq ∧
  R (.bool (!eq)) h
theorem copies_Table_of_1.den_eq (n : Int) (c0 : Nat) (c1 : Nat) (h : Heap) (R : Value → Heap → Prop) : copies_Table_of_1.vc n c0 c1 h R = den Try.prog Try.f50.ntmps (.seq .leaf (.seq (.plan (.op 0 (.op 1 (.op 2 (.op 3 (.op 4 (.op 5 (.op 6 (.op 7 (.op 8 (.op 9 (.op 10 (.op 11 .done))))))))))))) .leaf)) none (bodyOf Try.f50) (retK Try.prog Try.f50.results R) (argEnv [.int .i64 n, .pointer (some ⟨c0, 0, none⟩), .pointer (some ⟨c1, 0, none⟩)]) h := by kernel_rfl
theorem copies_Table_of_1.walk {n : Int} {c0 : Nat} {c1 : Nat} {h : Heap} {R : Value → Heap → Prop} (hv : copies_Table_of_1.vc n c0 c1 h R) : CallsH Try.prog F.copies_Table_of_1 #[.int .i64 n, .pointer (some ⟨c0, 0, none⟩), .pointer (some ⟨c1, 0, none⟩)] h R :=
  callsH_of_body _ Try.func50 rfl rfl (Eq.mp (copies_Table_of_1.den_eq n c0 c1 h R) hv)

def slices_DeleteFunc_s_int_int.of.vc (s_p : Option Addr) (s_l s_c : Nat) (del_c : Nat) (del_c_1 : Nat) (h : Heap) (R : Value → Heap → Prop) : Prop :=
  CallsH Try.prog F.slices_IndexFunc_s_int_int #[.slice s_p s_l s_c, .func (.func F.copies_Table_of_1) #[] #[.pointer (some ⟨del_c, 0, none⟩), .pointer (some ⟨del_c_1, 0, none⟩)]] h fun v h_1 =>
  ∃ (t10 : Int), v = .int .i64 t10 ∧
  if (t10 == (-1)) = true then
    R (.slice s_p s_l s_c) h_1
  else
    ∃ (I : Int → Int → Heap → Prop) (mu : Int → Int → Heap → Nat), I t10 (IntKind.wrap .i64 (t10 + 1)) h_1 ∧ ∀ (i : Int) (j : Int) (h_2 : Heap), I i j h_2 →
      if (decide (j < ((s_l : Nat) : Int))) = true then
        JoinP (fun (i_1 : Int) (h_3 : Heap) =>
          (I i_1 (IntKind.wrap .i64 (j + 1)) h_3 ∧ mu i_1 (IntKind.wrap .i64 (j + 1)) h_3 < mu i j h_2))
        (fun J =>
          ((0 : Int) ≤ j ∧ j < ((s_l : Nat) : Int)) ∧
          onSome s_p fun a =>
          ∃ (t25 : Int), hcell h_2 (a.add (Int.toNat j * 1)) = some (.int .i64 t25) ∧
          CallsH Try.prog F.copies_Table_of_1 #[.int .i64 t25, .pointer (some ⟨del_c, 0, none⟩), .pointer (some ⟨del_c_1, 0, none⟩)] h_2 fun v_1 h_4 =>
          ∃ (t28 : Bool), v_1 = .bool t28 ∧
          JoinP (fun (i_2 : Int) (h_5 : Heap) =>
            J i_2 h_5)
          (fun J_1 =>
            if (!t28) = true then
              ((0 : Int) ≤ i ∧ i < ((s_l : Nat) : Int)) ∧
              onSome s_p fun a_1 =>
              StoreP h_4 (a_1.add (Int.toNat i * 1)) (.int .i64 t25) fun h_6 =>
              J_1 (IntKind.wrap .i64 (i + 1)) h_6
            else
              J_1 i h_4))
      else
        ((0 : Int) ≤ i ∧ i ≤ ((s_l : Nat) : Int)) ∧ 
        denSem Try.prog (Builtin.clear_ #[T.s_int] T.tup_ #[.slice (slBase s_p s_c (Int.toNat i) 1) (s_l - (Int.toNat i)) (s_c - (Int.toNat i))]) h_2 fun v_2 h_7 =>
        v_2 = .tuple #[] ∧
        ((0 : Int) ≤ i ∧ i ≤ ((s_c : Nat) : Int)) ∧ 
        R (.slice (slBase s_p s_c 0 1) ((Int.toNat i) - 0) (s_c - 0)) h_7
theorem slices_DeleteFunc_s_int_int.of.den_eq (s_p : Option Addr) (s_l s_c : Nat) (del_c : Nat) (del_c_1 : Nat) (h : Heap) (R : Value → Heap → Prop) : slices_DeleteFunc_s_int_int.of.vc s_p s_l s_c del_c del_c_1 h R = den Try.prog Try.f48.ntmps (.seq .leaf (.seq .leaf (.seq (.seq .leaf (.cond (.seq .leaf .leaf) .leaf)) (.seq (.seq .leaf (.block (.loop [(5, .one (.int .i64)), (6, .one (.int .i64))] (.seq (.seq .leaf (.cond .leaf .leaf)) (.seq (.join [(5, .one (.int .i64))] (.block (.seq .leaf (.seq .leaf (.join [(5, .one (.int .i64))] (.cond (.seq .leaf .leaf) .leaf)))))) .leaf))))) (.seq .leaf (.seq .leaf .leaf)))))) none (bodyOf Try.f48) (retK Try.prog Try.f48.results R) (argEnv [.slice s_p s_l s_c, .func (.func F.copies_Table_of_1) #[] #[.pointer (some ⟨del_c, 0, none⟩), .pointer (some ⟨del_c_1, 0, none⟩)]]) h := by kernel_rfl
theorem slices_DeleteFunc_s_int_int.of.walk {s_p : Option Addr} {s_l s_c : Nat} {del_c : Nat} {del_c_1 : Nat} {h : Heap} {R : Value → Heap → Prop} (hv : slices_DeleteFunc_s_int_int.of.vc s_p s_l s_c del_c del_c_1 h R) : CallsH Try.prog F.slices_DeleteFunc_s_int_int #[.slice s_p s_l s_c, .func (.func F.copies_Table_of_1) #[] #[.pointer (some ⟨del_c, 0, none⟩), .pointer (some ⟨del_c_1, 0, none⟩)]] h R :=
  callsH_of_body _ Try.func48 rfl rfl (Eq.mp (slices_DeleteFunc_s_int_int.of.den_eq s_p s_l s_c del_c del_c_1 h R) hv)

def slices_IndexFunc_s_int_int.of.vc (s_p : Option Addr) (s_l s_c : Nat) (f_c : Nat) (f_c_1 : Nat) (h : Heap) (R : Value → Heap → Prop) : Prop :=
  ∃ (I : Int → Heap → Prop) (mu : Int → Heap → Nat), I 0 h ∧ ∀ (t8 : Int) (h_1 : Heap), I t8 h_1 →
    if (decide (t8 < ((s_l : Nat) : Int))) = true then
      ((0 : Int) ≤ t8 ∧ t8 < ((s_l : Nat) : Int)) ∧
      onSome s_p fun a =>
      ∃ (t15 : Int), hcell h_1 (a.add (Int.toNat t8 * 1)) = some (.int .i64 t15) ∧
      CallsH Try.prog F.copies_Table_of_1 #[.int .i64 t15, .pointer (some ⟨f_c, 0, none⟩), .pointer (some ⟨f_c_1, 0, none⟩)] h_1 fun v h_2 =>
      ∃ (t16 : Bool), v = .bool t16 ∧
      if t16 = true then
        R (.int .i64 t8) h_2
      else
        (I (IntKind.wrap .i64 (t8 + 1)) h_2 ∧ mu (IntKind.wrap .i64 (t8 + 1)) h_2 < mu t8 h_1)
    else
      R (.int .i64 (-1)) h_1
theorem slices_IndexFunc_s_int_int.of.den_eq (s_p : Option Addr) (s_l s_c : Nat) (f_c : Nat) (f_c_1 : Nat) (h : Heap) (R : Value → Heap → Prop) : slices_IndexFunc_s_int_int.of.vc s_p s_l s_c f_c f_c_1 h R = den Try.prog Try.f67.ntmps (.seq .leaf (.seq (.seq .leaf (.block (.loop [(8, .one (.int .i64))] (.seq .leaf (.seq (.cond .leaf .leaf) (.seq (.block (.seq .leaf (.seq .leaf (.cond (.seq .leaf .leaf) .leaf)))) .leaf)))))) (.seq .leaf .leaf))) none (bodyOf Try.f67) (retK Try.prog Try.f67.results R) (argEnv [.slice s_p s_l s_c, .func (.func F.copies_Table_of_1) #[] #[.pointer (some ⟨f_c, 0, none⟩), .pointer (some ⟨f_c_1, 0, none⟩)]]) h := by kernel_rfl
theorem slices_IndexFunc_s_int_int.of.walk {s_p : Option Addr} {s_l s_c : Nat} {f_c : Nat} {f_c_1 : Nat} {h : Heap} {R : Value → Heap → Prop} (hv : slices_IndexFunc_s_int_int.of.vc s_p s_l s_c f_c f_c_1 h R) : CallsH Try.prog F.slices_IndexFunc_s_int_int #[.slice s_p s_l s_c, .func (.func F.copies_Table_of_1) #[] #[.pointer (some ⟨f_c, 0, none⟩), .pointer (some ⟨f_c_1, 0, none⟩)]] h R :=
  callsH_of_body _ Try.func67 rfl rfl (Eq.mp (slices_IndexFunc_s_int_int.of.den_eq s_p s_l s_c f_c f_c_1 h R) hv)

def copies_Table_of.vc (t : Nat) (endpoint_0 : Bool) (endpoint_1 : Int) (endpoint_2 : Int) (endpoint_3 : ByteArray) (endpoint_4 : ByteArray) (h : Heap) (R : Value → Heap → Prop) : Prop :=
  NewP h (.cells #[.pointer (some ⟨t, 0, none⟩)] T.p_copies_Table) fun b h_1 =>
  NewP h_1 (.cells #[.bool endpoint_0, .int .u64 endpoint_1, .int .u64 endpoint_2, .string endpoint_3, .string endpoint_4] T.eid_Eid) fun b_1 h_2 =>
  ∃ (t5 : Option Addr), hcell h_2 ⟨b, 0, none⟩ = some (.pointer t5) ∧
  CallsH Try.prog F.copies_Table_numbers #[.pointer t5] h_2 fun v h_3 =>
  ∃ (t6_p : Option Addr) (t6_l t6_c : Nat), v = .slice t6_p t6_l t6_c ∧
  CallsH Try.prog F.slices_DeleteFunc_s_int_int #[.slice t6_p t6_l t6_c, .func (.func F.copies_Table_of_1) #[] #[.pointer (some ⟨b, 0, none⟩), .pointer (some ⟨b_1, 0, none⟩)]] h_3 fun v_1 h_4 =>
  ∃ (t8_p : Option Addr) (t8_l t8_c : Nat), v_1 = .slice t8_p t8_l t8_c ∧
  R (.slice t8_p t8_l t8_c) h_4
theorem copies_Table_of.den_eq (t : Nat) (endpoint_0 : Bool) (endpoint_1 : Int) (endpoint_2 : Int) (endpoint_3 : ByteArray) (endpoint_4 : ByteArray) (h : Heap) (R : Value → Heap → Prop) : copies_Table_of.vc t endpoint_0 endpoint_1 endpoint_2 endpoint_3 endpoint_4 h R = den Try.prog Try.f35.ntmps (.seq .leaf (.seq .leaf .leaf)) none (bodyOf Try.f35) (retK Try.prog Try.f35.results R) (argEnv [.pointer (some ⟨t, 0, none⟩), .agg #[.bool endpoint_0, .int .u64 endpoint_1, .int .u64 endpoint_2, .string endpoint_3, .string endpoint_4]]) h := by kernel_rfl
theorem copies_Table_of.walk {t : Nat} {endpoint_0 : Bool} {endpoint_1 : Int} {endpoint_2 : Int} {endpoint_3 : ByteArray} {endpoint_4 : ByteArray} {h : Heap} {R : Value → Heap → Prop} (hv : copies_Table_of.vc t endpoint_0 endpoint_1 endpoint_2 endpoint_3 endpoint_4 h R) : CallsH Try.prog F.copies_Table_of #[.pointer (some ⟨t, 0, none⟩), .agg #[.bool endpoint_0, .int .u64 endpoint_1, .int .u64 endpoint_2, .string endpoint_3, .string endpoint_4]] h R :=
  callsH_of_body _ Try.func35 rfl rfl (Eq.mp (copies_Table_of.den_eq t endpoint_0 endpoint_1 endpoint_2 endpoint_3 endpoint_4 h R) hv)

def copies_Table_of.nil.vc (endpoint_0 : Bool) (endpoint_1 : Int) (endpoint_2 : Int) (endpoint_3 : ByteArray) (endpoint_4 : ByteArray) (h : Heap) (R : Value → Heap → Prop) : Prop :=
  NewP h (.cells #[.pointer none] T.p_copies_Table) fun b h_1 =>
  NewP h_1 (.cells #[.bool endpoint_0, .int .u64 endpoint_1, .int .u64 endpoint_2, .string endpoint_3, .string endpoint_4] T.eid_Eid) fun b_1 h_2 =>
  ∃ (t5 : Option Addr), hcell h_2 ⟨b, 0, none⟩ = some (.pointer t5) ∧
  CallsH Try.prog F.copies_Table_numbers #[.pointer t5] h_2 fun v h_3 =>
  ∃ (t6_p : Option Addr) (t6_l t6_c : Nat), v = .slice t6_p t6_l t6_c ∧
  CallsH Try.prog F.slices_DeleteFunc_s_int_int #[.slice t6_p t6_l t6_c, .func (.func F.copies_Table_of_1) #[] #[.pointer (some ⟨b, 0, none⟩), .pointer (some ⟨b_1, 0, none⟩)]] h_3 fun v_1 h_4 =>
  ∃ (t8_p : Option Addr) (t8_l t8_c : Nat), v_1 = .slice t8_p t8_l t8_c ∧
  R (.slice t8_p t8_l t8_c) h_4
theorem copies_Table_of.nil.den_eq (endpoint_0 : Bool) (endpoint_1 : Int) (endpoint_2 : Int) (endpoint_3 : ByteArray) (endpoint_4 : ByteArray) (h : Heap) (R : Value → Heap → Prop) : copies_Table_of.nil.vc endpoint_0 endpoint_1 endpoint_2 endpoint_3 endpoint_4 h R = den Try.prog Try.f35.ntmps (.seq .leaf (.seq .leaf .leaf)) none (bodyOf Try.f35) (retK Try.prog Try.f35.results R) (argEnv [.pointer none, .agg #[.bool endpoint_0, .int .u64 endpoint_1, .int .u64 endpoint_2, .string endpoint_3, .string endpoint_4]]) h := by kernel_rfl
theorem copies_Table_of.nil.walk {endpoint_0 : Bool} {endpoint_1 : Int} {endpoint_2 : Int} {endpoint_3 : ByteArray} {endpoint_4 : ByteArray} {h : Heap} {R : Value → Heap → Prop} (hv : copies_Table_of.nil.vc endpoint_0 endpoint_1 endpoint_2 endpoint_3 endpoint_4 h R) : CallsH Try.prog F.copies_Table_of #[.pointer none, .agg #[.bool endpoint_0, .int .u64 endpoint_1, .int .u64 endpoint_2, .string endpoint_3, .string endpoint_4]] h R :=
  callsH_of_body _ Try.func35 rfl rfl (Eq.mp (copies_Table_of.nil.den_eq endpoint_0 endpoint_1 endpoint_2 endpoint_3 endpoint_4 h R) hv)

def copies_Table_Counts.vc (t : Nat) (h : Heap) (R : Value → Heap → Prop) : Prop :=
  NewP h (.cells #[.int .i64 0, .int .i64 0, .int .i64 0, .int .i64 0, .int .i64 0, .int .i64 0] T.a6_int) fun b h_1 =>
  CallsH Try.prog F.copies_Table_made #[.pointer (some ⟨t, 0, none⟩)] h_1 fun v h_2 =>
  ∃ (t5 : Bool), v = .bool t5 ∧
  if (!t5) = true then
    a6_int.ST h_2 ⟨b, 0, none⟩ 0 0 0 0 0 0 fun h_3 =>
    a6_int.LD h_3 ⟨b, 0, none⟩ fun r_0 r_1 r_2 r_3 r_4 r_5 =>
    R (.agg #[.int .i64 r_0, .int .i64 r_1, .int .i64 r_2, .int .i64 r_3, .int .i64 r_4, .int .i64 r_5]) h_3
  else
    ∃ (t11 : Option Addr), hcell h_2 ⟨t, 6, none⟩ = some (.pointer t11) ∧
    CallsH Try.prog F.alarm_Alarm_Len #[.pointer t11] h_2 fun v_1 h_4 =>
    ∃ (t12 : Int), v_1 = .int .i64 t12 ∧
    ∃ (t16 : Int), hcell h_4 ⟨t, 1, none⟩ = some (.int .i64 t16) ∧
    ∃ (t21 : Option Nat), hcell h_4 ⟨t, 0, none⟩ = some (.map t21) ∧
    ∃ t22 : Int, LenV Try.prog #[T.m_int_p_copies_Copy] T.int (.map t21) h_4 (.int .i64 t22) ∧
    ∃ (t29 : Int), hcell h_4 ⟨t, 2, none⟩ = some (.int .i64 t29) ∧
    ∃ (t33 : Int), hcell h_4 ⟨t, 3, none⟩ = some (.int .i64 t33) ∧
    ∃ (t37 : Int), hcell h_4 ⟨t, 4, none⟩ = some (.int .i64 t37) ∧
    a6_int.ST h_4 ⟨b, 0, none⟩ (IntKind.wrap .i64 (t16 - 1)) (IntKind.wrap .i64 (t22 - t12)) t12 t29 t33 t37 fun h_5 =>
    a6_int.LD h_5 ⟨b, 0, none⟩ fun r_0_1 r_1_1 r_2_1 r_3_1 r_4_1 r_5_1 =>
    R (.agg #[.int .i64 r_0_1, .int .i64 r_1_1, .int .i64 r_2_1, .int .i64 r_3_1, .int .i64 r_4_1, .int .i64 r_5_1]) h_5
theorem copies_Table_Counts.den_eq (t : Nat) (h : Heap) (R : Value → Heap → Prop) : copies_Table_Counts.vc t h R = den Try.prog Try.f23.ntmps (.seq .leaf (.seq (.seq .leaf (.cond (.seq .leaf .leaf) .leaf)) (.seq .leaf (.seq (.plan (.op 0 (.op 1 (.op 2 (.op 3 (.op 4 (.op 5 (.op 6 (.op 7 (.op 8 (.op 9 (.op 10 (.op 11 (.op 12 (.op 13 (.op 14 (.op 15 (.op 16 (.op 17 (.op 18 (.op 19 (.op 20 (.op 21 (.op 22 (.op 23 (.op 24 (.op 25 (.op 26 .done)))))))))))))))))))))))))))) .leaf)))) none (bodyOf Try.f23) (retK Try.prog Try.f23.results R) (argEnv [.pointer (some ⟨t, 0, none⟩)]) h := by kernel_rfl
theorem copies_Table_Counts.walk {t : Nat} {h : Heap} {R : Value → Heap → Prop} (hv : copies_Table_Counts.vc t h R) : CallsH Try.prog F.copies_Table_Counts #[.pointer (some ⟨t, 0, none⟩)] h R :=
  callsH_of_body _ Try.func23 rfl rfl (Eq.mp (copies_Table_Counts.den_eq t h R) hv)

def copies_Table_Counts.nil.vc  (h : Heap) (R : Value → Heap → Prop) : Prop :=
  NewP h (.cells #[.int .i64 0, .int .i64 0, .int .i64 0, .int .i64 0, .int .i64 0, .int .i64 0] T.a6_int) fun b h_1 =>
  CallsH Try.prog F.copies_Table_made #[.pointer none] h_1 fun v h_2 =>
  ∃ (t5 : Bool), v = .bool t5 ∧
  if (!t5) = true then
    a6_int.ST h_2 ⟨b, 0, none⟩ 0 0 0 0 0 0 fun h_3 =>
    a6_int.LD h_3 ⟨b, 0, none⟩ fun r_0 r_1 r_2 r_3 r_4 r_5 =>
    R (.agg #[.int .i64 r_0, .int .i64 r_1, .int .i64 r_2, .int .i64 r_3, .int .i64 r_4, .int .i64 r_5]) h_3
  else
    False
theorem copies_Table_Counts.nil.den_eq  (h : Heap) (R : Value → Heap → Prop) : copies_Table_Counts.nil.vc h R = den Try.prog Try.f23.ntmps (.seq .leaf (.seq (.seq .leaf (.cond (.seq .leaf .leaf) .leaf)) (.seq .leaf (.seq (.plan (.op 0 (.op 1 (.op 2 (.op 3 (.op 4 (.op 5 (.op 6 (.op 7 (.op 8 (.op 9 (.op 10 (.op 11 (.op 12 (.op 13 (.op 14 (.op 15 (.op 16 (.op 17 (.op 18 (.op 19 (.op 20 (.op 21 (.op 22 (.op 23 (.op 24 (.op 25 (.op 26 .done)))))))))))))))))))))))))))) .leaf)))) none (bodyOf Try.f23) (retK Try.prog Try.f23.results R) (argEnv [.pointer none]) h := by kernel_rfl
theorem copies_Table_Counts.nil.walk  {h : Heap} {R : Value → Heap → Prop} (hv : copies_Table_Counts.nil.vc h R) : CallsH Try.prog F.copies_Table_Counts #[.pointer none] h R :=
  callsH_of_body _ Try.func23 rfl rfl (Eq.mp (copies_Table_Counts.nil.den_eq h R) hv)

def copies_isCopy.vc (endpoint_0 : Bool) (endpoint_1 : Int) (endpoint_2 : Int) (endpoint_3 : ByteArray) (endpoint_4 : ByteArray) (data_p : Option Addr) (data_l data_c : Nat) (v_until : Int) (h : Heap) (R : Value → Heap → Prop) : Prop :=
  NewP h (.cells #[.bool endpoint_0, .int .u64 endpoint_1, .int .u64 endpoint_2, .string endpoint_3, .string endpoint_4] T.eid_Eid) fun b h_1 =>
  eid_Eid.LD h_1 ⟨b, 0, none⟩ fun t7_0 t7_1 t7_2 t7_3 t7_4 =>
  CallsH Try.prog F.eid_Right #[.agg #[.bool t7_0, .int .u64 t7_1, .int .u64 t7_2, .string t7_3, .string t7_4]] h_1 fun v h_2 =>
  ∃ (t8 : Bool), v = .bool t8 ∧
  if t8 = true then
    eid_Eid.LD h_2 ⟨b, 0, none⟩ fun t10_0 t10_1 t10_2 t10_3 t10_4 =>
    ∃ (eq : Bool), EqV Try.prog T.eid_Eid (.agg #[.bool t10_0, .int .u64 t10_1, .int .u64 t10_2, .string t10_3, .string t10_4]) (.agg #[.bool false, .int .u64 0, .int .u64 0, .string (⟨#[]⟩ : ByteArray), .string (⟨#[]⟩ : ByteArray)]) eq ∧
    if (!eq) = true then
      if (decide (((data_l : Nat) : Int) ≥ 1)) = true then
        if (decide (((data_l : Nat) : Int) ≤ 600)) = true then
          R (.bool (decide (v_until ≤ 1099511627776))) h_2
        else
          R (.bool false) h_2
      else
        R (.bool false) h_2
    else
      R (.bool false) h_2
  else
    R (.bool false) h_2
theorem copies_isCopy.den_eq (endpoint_0 : Bool) (endpoint_1 : Int) (endpoint_2 : Int) (endpoint_3 : ByteArray) (endpoint_4 : ByteArray) (data_p : Option Addr) (data_l data_c : Nat) (v_until : Int) (h : Heap) (R : Value → Heap → Prop) : copies_isCopy.vc endpoint_0 endpoint_1 endpoint_2 endpoint_3 endpoint_4 data_p data_l data_c v_until h R = den Try.prog Try.f34.ntmps (.seq .leaf (.seq .leaf .leaf)) none (bodyOf Try.f34) (retK Try.prog Try.f34.results R) (argEnv [.agg #[.bool endpoint_0, .int .u64 endpoint_1, .int .u64 endpoint_2, .string endpoint_3, .string endpoint_4], .slice data_p data_l data_c, .int .u64 v_until]) h := by kernel_rfl
theorem copies_isCopy.walk {endpoint_0 : Bool} {endpoint_1 : Int} {endpoint_2 : Int} {endpoint_3 : ByteArray} {endpoint_4 : ByteArray} {data_p : Option Addr} {data_l data_c : Nat} {v_until : Int} {h : Heap} {R : Value → Heap → Prop} (hv : copies_isCopy.vc endpoint_0 endpoint_1 endpoint_2 endpoint_3 endpoint_4 data_p data_l data_c v_until h R) : CallsH Try.prog F.copies_isCopy #[.agg #[.bool endpoint_0, .int .u64 endpoint_1, .int .u64 endpoint_2, .string endpoint_3, .string endpoint_4], .slice data_p data_l data_c, .int .u64 v_until] h R :=
  callsH_of_body _ Try.func34 rfl rfl (Eq.mp (copies_isCopy.den_eq endpoint_0 endpoint_1 endpoint_2 endpoint_3 endpoint_4 data_p data_l data_c v_until h R) hv)

def copies_Table_Add.vc (t : Nat) (endpoint_0 : Bool) (endpoint_1 : Int) (endpoint_2 : Int) (endpoint_3 : ByteArray) (endpoint_4 : ByteArray) (data_p : Option Addr) (data_l data_c : Nat) (v_until : Int) (h : Heap) (R : Value → Heap → Prop) : Prop :=
  NewP h (.cells #[.bool endpoint_0, .int .u64 endpoint_1, .int .u64 endpoint_2, .string endpoint_3, .string endpoint_4] T.eid_Eid) fun b h_1 =>
  CallsH Try.prog F.copies_Table_made #[.pointer (some ⟨t, 0, none⟩)] h_1 fun v h_2 =>
  ∃ (t13 : Bool), v = .bool t13 ∧
  if (!t13) = true then
    R (.tuple #[.int .i64 0, .int .i64 6]) h_2
  else
    eid_Eid.LD h_2 ⟨b, 0, none⟩ fun t16_0 t16_1 t16_2 t16_3 t16_4 =>
    CallsH Try.prog F.copies_isCopy #[.agg #[.bool t16_0, .int .u64 t16_1, .int .u64 t16_2, .string t16_3, .string t16_4], .slice data_p data_l data_c, .int .u64 v_until] h_2 fun v_1 h_3 =>
    ∃ (t19 : Bool), v_1 = .bool t19 ∧
    if (!t19) = true then
      R (.tuple #[.int .i64 0, .int .i64 1]) h_3
    else
      eid_Eid.LD h_3 ⟨b, 0, none⟩ fun t23_0 t23_1 t23_2 t23_3 t23_4 =>
      CallsH Try.prog F.copies_Table_of #[.pointer (some ⟨t, 0, none⟩), .agg #[.bool t23_0, .int .u64 t23_1, .int .u64 t23_2, .string t23_3, .string t23_4]] h_3 fun v_2 h_4 =>
      ∃ (t24_p : Option Addr) (t24_l t24_c : Nat), v_2 = .slice t24_p t24_l t24_c ∧
      if (decide (((t24_l : Nat) : Int) ≥ 16)) = true then
        R (.tuple #[.int .i64 0, .int .i64 15]) h_4
      else
        ∃ (t30 : Int), hcell h_4 ⟨t, 1, none⟩ = some (.int .i64 t30) ∧
        ∃ (t34 : Int), hcell h_4 ⟨t, 1, none⟩ = some (.int .i64 t34) ∧
        StoreP h_4 ⟨t, 1, none⟩ (.int .i64 (IntKind.wrap .i64 (t34 + 1))) fun h_5 =>
        ∃ (t41 : Option Nat), hcell h_5 ⟨t, 0, none⟩ = some (.map t41) ∧
        eid_Eid.LD h_5 ⟨b, 0, none⟩ fun t44_0 t44_1 t44_2 t44_3 t44_4 =>
        CallsH Try.prog F.slices_Clone_s_byte_byte #[.slice data_p data_l data_c] h_5 fun v_3 h_6 =>
        ∃ (t46_p : Option Addr) (t46_l t46_c : Nat), v_3 = .slice t46_p t46_l t46_c ∧
        heldL ⟨b, 0, none⟩ [.bool t44_0, .int .u64 t44_1, .int .u64 t44_2, .string t44_3, .string t44_4] 0 h_6 ∧
        hcell h_6 ⟨t, 0, none⟩ = some (.map t41) ∧
        NewP h_6 (.cells #[.int .i64 t30, .bool t44_0, .int .u64 t44_1, .int .u64 t44_2, .string t44_3, .string t44_4, .slice t46_p t46_l t46_c, .int .u64 v_until, .int .i64 0, .int .u64 0] T.copies_Copy) fun b_1 h_7 =>
        heldL ⟨b, 0, none⟩ [.bool t44_0, .int .u64 t44_1, .int .u64 t44_2, .string t44_3, .string t44_4] 0 h_7 ∧
        hcell h_7 ⟨t, 0, none⟩ = some (.map t41) ∧
        denSem Try.prog (Instr.mapUpdate T.m_int_p_copies_Copy (.map t41) (.int .i64 t30) (.pointer (some ⟨b_1, 0, none⟩))) h_7 fun _ h_8 =>
        ∃ (t53 : Option Addr), hcell h_8 ⟨t, 5, none⟩ = some (.pointer t53) ∧
        CallsH Try.prog F.alarm_Alarm_Set #[.pointer t53, .int .i64 t30, .int .u64 v_until] h_8 fun v_4 h_9 =>
        ∃ (t56 : Int), v_4 = .int .i64 t56 ∧
        R (.tuple #[.int .i64 t30, .int .i64 0]) h_9
theorem copies_Table_Add.den_eq (t : Nat) (endpoint_0 : Bool) (endpoint_1 : Int) (endpoint_2 : Int) (endpoint_3 : ByteArray) (endpoint_4 : ByteArray) (data_p : Option Addr) (data_l data_c : Nat) (v_until : Int) (h : Heap) (R : Value → Heap → Prop) : copies_Table_Add.vc t endpoint_0 endpoint_1 endpoint_2 endpoint_3 endpoint_4 data_p data_l data_c v_until h R = den Try.prog Try.f14.ntmps (.seq .leaf (.seq (.block (.seq .leaf (.cond (.seq .leaf .leaf) (.seq .leaf (.cond (.seq .leaf .leaf) (.seq .leaf (.cond (.seq .leaf .leaf) .leaf))))))) (.seq .leaf (.seq .leaf (.seq (.plan (.op 0 (.op 1 (.op 2 (.op 3 (.op 4 (.op 5 (.op 6 (.op 7 (.op 9 (.op 8 (.op 10 (.op 11 (.op 12 .done)))))))))))))) (.seq .leaf (.seq .leaf .leaf))))))) none (bodyOf Try.f14) (retK Try.prog Try.f14.results R) (argEnv [.pointer (some ⟨t, 0, none⟩), .agg #[.bool endpoint_0, .int .u64 endpoint_1, .int .u64 endpoint_2, .string endpoint_3, .string endpoint_4], .slice data_p data_l data_c, .int .u64 v_until]) h := by kernel_rfl
theorem copies_Table_Add.walk {t : Nat} {endpoint_0 : Bool} {endpoint_1 : Int} {endpoint_2 : Int} {endpoint_3 : ByteArray} {endpoint_4 : ByteArray} {data_p : Option Addr} {data_l data_c : Nat} {v_until : Int} {h : Heap} {R : Value → Heap → Prop} (hv : copies_Table_Add.vc t endpoint_0 endpoint_1 endpoint_2 endpoint_3 endpoint_4 data_p data_l data_c v_until h R) : CallsH Try.prog F.copies_Table_Add #[.pointer (some ⟨t, 0, none⟩), .agg #[.bool endpoint_0, .int .u64 endpoint_1, .int .u64 endpoint_2, .string endpoint_3, .string endpoint_4], .slice data_p data_l data_c, .int .u64 v_until] h R :=
  callsH_of_body _ Try.func14 rfl rfl (Eq.mp (copies_Table_Add.den_eq t endpoint_0 endpoint_1 endpoint_2 endpoint_3 endpoint_4 data_p data_l data_c v_until h R) hv)

def copies_Table_Add.nil.vc (endpoint_0 : Bool) (endpoint_1 : Int) (endpoint_2 : Int) (endpoint_3 : ByteArray) (endpoint_4 : ByteArray) (data_p : Option Addr) (data_l data_c : Nat) (v_until : Int) (h : Heap) (R : Value → Heap → Prop) : Prop :=
  NewP h (.cells #[.bool endpoint_0, .int .u64 endpoint_1, .int .u64 endpoint_2, .string endpoint_3, .string endpoint_4] T.eid_Eid) fun b h_1 =>
  CallsH Try.prog F.copies_Table_made #[.pointer none] h_1 fun v h_2 =>
  ∃ (t13 : Bool), v = .bool t13 ∧
  if (!t13) = true then
    R (.tuple #[.int .i64 0, .int .i64 6]) h_2
  else
    eid_Eid.LD h_2 ⟨b, 0, none⟩ fun t16_0 t16_1 t16_2 t16_3 t16_4 =>
    CallsH Try.prog F.copies_isCopy #[.agg #[.bool t16_0, .int .u64 t16_1, .int .u64 t16_2, .string t16_3, .string t16_4], .slice data_p data_l data_c, .int .u64 v_until] h_2 fun v_1 h_3 =>
    ∃ (t19 : Bool), v_1 = .bool t19 ∧
    if (!t19) = true then
      R (.tuple #[.int .i64 0, .int .i64 1]) h_3
    else
      eid_Eid.LD h_3 ⟨b, 0, none⟩ fun t23_0 t23_1 t23_2 t23_3 t23_4 =>
      CallsH Try.prog F.copies_Table_of #[.pointer none, .agg #[.bool t23_0, .int .u64 t23_1, .int .u64 t23_2, .string t23_3, .string t23_4]] h_3 fun v_2 h_4 =>
      ∃ (t24_p : Option Addr) (t24_l t24_c : Nat), v_2 = .slice t24_p t24_l t24_c ∧
      if (decide (((t24_l : Nat) : Int) ≥ 16)) = true then
        R (.tuple #[.int .i64 0, .int .i64 15]) h_4
      else
        False
theorem copies_Table_Add.nil.den_eq (endpoint_0 : Bool) (endpoint_1 : Int) (endpoint_2 : Int) (endpoint_3 : ByteArray) (endpoint_4 : ByteArray) (data_p : Option Addr) (data_l data_c : Nat) (v_until : Int) (h : Heap) (R : Value → Heap → Prop) : copies_Table_Add.nil.vc endpoint_0 endpoint_1 endpoint_2 endpoint_3 endpoint_4 data_p data_l data_c v_until h R = den Try.prog Try.f14.ntmps (.seq .leaf (.seq (.block (.seq .leaf (.cond (.seq .leaf .leaf) (.seq .leaf (.cond (.seq .leaf .leaf) (.seq .leaf (.cond (.seq .leaf .leaf) .leaf))))))) (.seq .leaf (.seq .leaf (.seq (.plan (.op 0 (.op 1 (.op 2 (.op 3 (.op 4 (.op 5 (.op 6 (.op 7 (.op 9 (.op 8 (.op 10 (.op 11 (.op 12 .done)))))))))))))) (.seq .leaf (.seq .leaf .leaf))))))) none (bodyOf Try.f14) (retK Try.prog Try.f14.results R) (argEnv [.pointer none, .agg #[.bool endpoint_0, .int .u64 endpoint_1, .int .u64 endpoint_2, .string endpoint_3, .string endpoint_4], .slice data_p data_l data_c, .int .u64 v_until]) h := by kernel_rfl
theorem copies_Table_Add.nil.walk {endpoint_0 : Bool} {endpoint_1 : Int} {endpoint_2 : Int} {endpoint_3 : ByteArray} {endpoint_4 : ByteArray} {data_p : Option Addr} {data_l data_c : Nat} {v_until : Int} {h : Heap} {R : Value → Heap → Prop} (hv : copies_Table_Add.nil.vc endpoint_0 endpoint_1 endpoint_2 endpoint_3 endpoint_4 data_p data_l data_c v_until h R) : CallsH Try.prog F.copies_Table_Add #[.pointer none, .agg #[.bool endpoint_0, .int .u64 endpoint_1, .int .u64 endpoint_2, .string endpoint_3, .string endpoint_4], .slice data_p data_l data_c, .int .u64 v_until] h R :=
  callsH_of_body _ Try.func14 rfl rfl (Eq.mp (copies_Table_Add.nil.den_eq endpoint_0 endpoint_1 endpoint_2 endpoint_3 endpoint_4 data_p data_l data_c v_until h R) hv)

def copies_isSession.vc (n : Int) (h : Heap) (R : Value → Heap → Prop) : Prop :=
  if (decide (n ≥ 1)) = true then
    R (.bool (decide (n ≤ 1099511627776))) h
  else
    R (.bool false) h
theorem copies_isSession.den_eq (n : Int) (h : Heap) (R : Value → Heap → Prop) : copies_isSession.vc n h R = den Try.prog Try.f38.ntmps (.seq .leaf (.seq .leaf .leaf)) none (bodyOf Try.f38) (retK Try.prog Try.f38.results R) (argEnv [.int .i64 n]) h := by kernel_rfl
theorem copies_isSession.walk {n : Int} {h : Heap} {R : Value → Heap → Prop} (hv : copies_isSession.vc n h R) : CallsH Try.prog F.copies_isSession #[.int .i64 n] h R :=
  callsH_of_body _ Try.func38 rfl rfl (Eq.mp (copies_isSession.den_eq n h R) hv)

def copies_Table_Lease.vc (t : Nat) (endpoint_0 : Bool) (endpoint_1 : Int) (endpoint_2 : Int) (endpoint_3 : ByteArray) (endpoint_4 : ByteArray) (session : Int) (deadline : Int) (h : Heap) (R : Value → Heap → Prop) : Prop :=
  NewP h (.cells #[.bool endpoint_0, .int .u64 endpoint_1, .int .u64 endpoint_2, .string endpoint_3, .string endpoint_4] T.eid_Eid) fun b h_1 =>
  NewP h_1 (.cells #[.int .i64 0, .bool false, .int .u64 0, .int .u64 0, .string (⟨#[]⟩ : ByteArray), .string (⟨#[]⟩ : ByteArray), .slice none 0 0, .int .u64 0, .int .i64 0, .int .u64 0] T.copies_Copy) fun b_1 h_2 =>
  CallsH Try.prog F.copies_Table_made #[.pointer (some ⟨t, 0, none⟩)] h_2 fun v h_3 =>
  ∃ (t16 : Bool), v = .bool t16 ∧
  if (!t16) = true then
    copies_Copy.ST h_3 ⟨b_1, 0, none⟩ 0 false 0 0 (⟨#[]⟩ : ByteArray) (⟨#[]⟩ : ByteArray) none 0 0 0 0 0 fun h_4 =>
    copies_Copy.LD h_4 ⟨b_1, 0, none⟩ fun r_0 r_1 r_2 r_3 r_4 r_5 r_6_p r_6_l r_6_c r_7 r_8 r_9 =>
    R (.tuple #[.agg #[.int .i64 r_0, .bool r_1, .int .u64 r_2, .int .u64 r_3, .string r_4, .string r_5, .slice r_6_p r_6_l r_6_c, .int .u64 r_7, .int .i64 r_8, .int .u64 r_9], .int .i64 6]) h_4
  else
    JoinP (fun (t19 : Bool) (h_5 : Heap) =>
      if t19 = true then
        copies_Copy.ST h_5 ⟨b_1, 0, none⟩ 0 false 0 0 (⟨#[]⟩ : ByteArray) (⟨#[]⟩ : ByteArray) none 0 0 0 0 0 fun h_6 =>
        copies_Copy.LD h_6 ⟨b_1, 0, none⟩ fun r_0_1 r_1_1 r_2_1 r_3_1 r_4_1 r_5_1 r_6_p_1 r_6_l_1 r_6_c_1 r_7_1 r_8_1 r_9_1 =>
        R (.tuple #[.agg #[.int .i64 r_0_1, .bool r_1_1, .int .u64 r_2_1, .int .u64 r_3_1, .string r_4_1, .string r_5_1, .slice r_6_p_1 r_6_l_1 r_6_c_1, .int .u64 r_7_1, .int .i64 r_8_1, .int .u64 r_9_1], .int .i64 1]) h_6
      else
        eid_Eid.LD h_5 ⟨b, 0, none⟩ fun t29_0 t29_1 t29_2 t29_3 t29_4 =>
        CallsH Try.prog F.copies_Table_of #[.pointer (some ⟨t, 0, none⟩), .agg #[.bool t29_0, .int .u64 t29_1, .int .u64 t29_2, .string t29_3, .string t29_4]] h_5 fun v_1 h_7 =>
        ∃ (t30_p : Option Addr) (t30_l t30_c : Nat), v_1 = .slice t30_p t30_l t30_c ∧
        ∃ (I : Int → Heap → Prop) (mu : Int → Heap → Nat), I 0 h_7 ∧ ∀ (t32 : Int) (h_8 : Heap), I t32 h_8 →
          if (decide (t32 < ((t30_l : Nat) : Int))) = true then
            ((0 : Int) ≤ t32 ∧ t32 < ((t30_l : Nat) : Int)) ∧
            onSome t30_p fun a =>
            ∃ (t35 : Int), hcell h_8 (a.add (Int.toNat t32 * 1)) = some (.int .i64 t35) ∧
            ∃ (t39 : Option Nat), hcell h_8 ⟨t, 0, none⟩ = some (.map t39) ∧
            ∃ (t41 : Option Addr), LookV Try.prog T.m_int_p_copies_Copy (.map t39) (.int .i64 t35) false h_8 (.pointer t41) ∧
            onSome t41 fun a_1 =>
            ∃ (t45 : Int), hcell h_8 (a_1.add 8) = some (.int .i64 t45) ∧
            if (t45 == 0) = true then
              onSome t41 fun a_2 =>
              StoreP h_8 (a_2.add 8) (.int .i64 session) fun h_9 =>
              onSome t41 fun a_3 =>
              StoreP h_9 (a_3.add 9) (.int .u64 deadline) fun h_10 =>
              ∃ (t58 : Option Addr), hcell h_10 ⟨t, 6, none⟩ = some (.pointer t58) ∧
              CallsH Try.prog F.alarm_Alarm_Set #[.pointer t58, .int .i64 t35, .int .u64 deadline] h_10 fun v_2 h_11 =>
              ∃ (t61 : Int), v_2 = .int .i64 t61 ∧
              onSome t41 fun a_4 =>
              copies_Copy.LD h_11 a_4 fun t64_0 t64_1 t64_2 t64_3 t64_4 t64_5 t64_6_p t64_6_l t64_6_c t64_7 t64_8 t64_9 =>
              NewP h_11 (.cells #[.int .i64 0, .bool false, .int .u64 0, .int .u64 0, .string (⟨#[]⟩ : ByteArray), .string (⟨#[]⟩ : ByteArray), .slice none 0 0, .int .u64 0, .int .i64 0, .int .u64 0] T.copies_Copy) fun b_2 h_12 =>
              copies_Copy.ST h_12 ⟨b_2, 0, none⟩ t64_0 t64_1 t64_2 t64_3 t64_4 t64_5 t64_6_p t64_6_l t64_6_c t64_7 t64_8 t64_9 fun h_13 =>
              onSome t41 fun a_5 =>
              ∃ (t68_p : Option Addr) (t68_l t68_c : Nat), hcell h_13 (a_5.add 6) = some (.slice t68_p t68_l t68_c) ∧
              CallsH Try.prog F.slices_Clone_s_byte_byte #[.slice t68_p t68_l t68_c] h_13 fun v_3 h_14 =>
              ∃ (t69_p : Option Addr) (t69_l t69_c : Nat), v_3 = .slice t69_p t69_l t69_c ∧
              StoreP h_14 ⟨b_2, 6, none⟩ (.slice t69_p t69_l t69_c) fun h_15 =>
              copies_Copy.LD h_15 ⟨b_2, 0, none⟩ fun t71_0 t71_1 t71_2 t71_3 t71_4 t71_5 t71_6_p t71_6_l t71_6_c t71_7 t71_8 t71_9 =>
              copies_Copy.ST h_15 ⟨b_1, 0, none⟩ t71_0 t71_1 t71_2 t71_3 t71_4 t71_5 t71_6_p t71_6_l t71_6_c t71_7 t71_8 t71_9 fun h_16 =>
              copies_Copy.LD h_16 ⟨b_1, 0, none⟩ fun r_0_2 r_1_2 r_2_2 r_3_2 r_4_2 r_5_2 r_6_p_2 r_6_l_2 r_6_c_2 r_7_2 r_8_2 r_9_2 =>
              R (.tuple #[.agg #[.int .i64 r_0_2, .bool r_1_2, .int .u64 r_2_2, .int .u64 r_3_2, .string r_4_2, .string r_5_2, .slice r_6_p_2 r_6_l_2 r_6_c_2, .int .u64 r_7_2, .int .i64 r_8_2, .int .u64 r_9_2], .int .i64 0]) h_16
            else
              (I (IntKind.wrap .i64 (t32 + 1)) h_8 ∧ mu (IntKind.wrap .i64 (t32 + 1)) h_8 < mu t32 h_8)
          else
            copies_Copy.ST h_8 ⟨b_1, 0, none⟩ 0 false 0 0 (⟨#[]⟩ : ByteArray) (⟨#[]⟩ : ByteArray) none 0 0 0 0 0 fun h_17 =>
            copies_Copy.LD h_17 ⟨b_1, 0, none⟩ fun r_0_3 r_1_3 r_2_3 r_3_3 r_4_3 r_5_3 r_6_p_3 r_6_l_3 r_6_c_3 r_7_3 r_8_3 r_9_3 =>
            R (.tuple #[.agg #[.int .i64 r_0_3, .bool r_1_3, .int .u64 r_2_3, .int .u64 r_3_3, .string r_4_3, .string r_5_3, .slice r_6_p_3 r_6_l_3 r_6_c_3, .int .u64 r_7_3, .int .i64 r_8_3, .int .u64 r_9_3], .int .i64 4]) h_17)
    (fun J =>
      CallsH Try.prog F.copies_isSession #[.int .i64 session] h_3 fun v_4 h_18 =>
      ∃ (t21 : Bool), v_4 = .bool t21 ∧
      if (!t21) = true then
        J true h_18
      else
        J (decide (deadline > 1099511627776)) h_18)
theorem copies_Table_Lease.den_eq (t : Nat) (endpoint_0 : Bool) (endpoint_1 : Int) (endpoint_2 : Int) (endpoint_3 : ByteArray) (endpoint_4 : ByteArray) (session : Int) (deadline : Int) (h : Heap) (R : Value → Heap → Prop) : copies_Table_Lease.vc t endpoint_0 endpoint_1 endpoint_2 endpoint_3 endpoint_4 session deadline h R = den Try.prog Try.f16.ntmps (.seq .leaf (.seq (.block (.seq .leaf (.cond (.seq .leaf .leaf) (.seq (.join [(19, .one (.bool))] .leaf) (.cond (.seq .leaf .leaf) .leaf))))) (.seq (.seq .leaf (.block (.loop [(32, .one (.int .i64))] (.seq .leaf (.seq (.cond .leaf .leaf) (.seq (.block (.seq .leaf (.seq .leaf (.seq .leaf (.cond (.seq .leaf (.seq .leaf (.seq .leaf (.seq .leaf (.seq .leaf .leaf))))) .leaf))))) .leaf)))))) (.seq .leaf .leaf)))) none (bodyOf Try.f16) (retK Try.prog Try.f16.results R) (argEnv [.pointer (some ⟨t, 0, none⟩), .agg #[.bool endpoint_0, .int .u64 endpoint_1, .int .u64 endpoint_2, .string endpoint_3, .string endpoint_4], .int .i64 session, .int .u64 deadline]) h := by kernel_rfl
theorem copies_Table_Lease.walk {t : Nat} {endpoint_0 : Bool} {endpoint_1 : Int} {endpoint_2 : Int} {endpoint_3 : ByteArray} {endpoint_4 : ByteArray} {session : Int} {deadline : Int} {h : Heap} {R : Value → Heap → Prop} (hv : copies_Table_Lease.vc t endpoint_0 endpoint_1 endpoint_2 endpoint_3 endpoint_4 session deadline h R) : CallsH Try.prog F.copies_Table_Lease #[.pointer (some ⟨t, 0, none⟩), .agg #[.bool endpoint_0, .int .u64 endpoint_1, .int .u64 endpoint_2, .string endpoint_3, .string endpoint_4], .int .i64 session, .int .u64 deadline] h R :=
  callsH_of_body _ Try.func16 rfl rfl (Eq.mp (copies_Table_Lease.den_eq t endpoint_0 endpoint_1 endpoint_2 endpoint_3 endpoint_4 session deadline h R) hv)

def copies_Table_Lease.nil.vc (endpoint_0 : Bool) (endpoint_1 : Int) (endpoint_2 : Int) (endpoint_3 : ByteArray) (endpoint_4 : ByteArray) (session : Int) (deadline : Int) (h : Heap) (R : Value → Heap → Prop) : Prop :=
  NewP h (.cells #[.bool endpoint_0, .int .u64 endpoint_1, .int .u64 endpoint_2, .string endpoint_3, .string endpoint_4] T.eid_Eid) fun b h_1 =>
  NewP h_1 (.cells #[.int .i64 0, .bool false, .int .u64 0, .int .u64 0, .string (⟨#[]⟩ : ByteArray), .string (⟨#[]⟩ : ByteArray), .slice none 0 0, .int .u64 0, .int .i64 0, .int .u64 0] T.copies_Copy) fun b_1 h_2 =>
  CallsH Try.prog F.copies_Table_made #[.pointer none] h_2 fun v h_3 =>
  ∃ (t16 : Bool), v = .bool t16 ∧
  if (!t16) = true then
    copies_Copy.ST h_3 ⟨b_1, 0, none⟩ 0 false 0 0 (⟨#[]⟩ : ByteArray) (⟨#[]⟩ : ByteArray) none 0 0 0 0 0 fun h_4 =>
    copies_Copy.LD h_4 ⟨b_1, 0, none⟩ fun r_0 r_1 r_2 r_3 r_4 r_5 r_6_p r_6_l r_6_c r_7 r_8 r_9 =>
    R (.tuple #[.agg #[.int .i64 r_0, .bool r_1, .int .u64 r_2, .int .u64 r_3, .string r_4, .string r_5, .slice r_6_p r_6_l r_6_c, .int .u64 r_7, .int .i64 r_8, .int .u64 r_9], .int .i64 6]) h_4
  else
    JoinP (fun (t19 : Bool) (h_5 : Heap) =>
      if t19 = true then
        copies_Copy.ST h_5 ⟨b_1, 0, none⟩ 0 false 0 0 (⟨#[]⟩ : ByteArray) (⟨#[]⟩ : ByteArray) none 0 0 0 0 0 fun h_6 =>
        copies_Copy.LD h_6 ⟨b_1, 0, none⟩ fun r_0_1 r_1_1 r_2_1 r_3_1 r_4_1 r_5_1 r_6_p_1 r_6_l_1 r_6_c_1 r_7_1 r_8_1 r_9_1 =>
        R (.tuple #[.agg #[.int .i64 r_0_1, .bool r_1_1, .int .u64 r_2_1, .int .u64 r_3_1, .string r_4_1, .string r_5_1, .slice r_6_p_1 r_6_l_1 r_6_c_1, .int .u64 r_7_1, .int .i64 r_8_1, .int .u64 r_9_1], .int .i64 1]) h_6
      else
        eid_Eid.LD h_5 ⟨b, 0, none⟩ fun t29_0 t29_1 t29_2 t29_3 t29_4 =>
        CallsH Try.prog F.copies_Table_of #[.pointer none, .agg #[.bool t29_0, .int .u64 t29_1, .int .u64 t29_2, .string t29_3, .string t29_4]] h_5 fun v_1 h_7 =>
        ∃ (t30_p : Option Addr) (t30_l t30_c : Nat), v_1 = .slice t30_p t30_l t30_c ∧
        ∃ (I : Int → Heap → Prop) (mu : Int → Heap → Nat), I 0 h_7 ∧ ∀ (t32 : Int) (h_8 : Heap), I t32 h_8 →
          if (decide (t32 < ((t30_l : Nat) : Int))) = true then
            ((0 : Int) ≤ t32 ∧ t32 < ((t30_l : Nat) : Int)) ∧
            onSome t30_p fun a =>
            ∃ (t35 : Int), hcell h_8 (a.add (Int.toNat t32 * 1)) = some (.int .i64 t35) ∧
            False
          else
            copies_Copy.ST h_8 ⟨b_1, 0, none⟩ 0 false 0 0 (⟨#[]⟩ : ByteArray) (⟨#[]⟩ : ByteArray) none 0 0 0 0 0 fun h_9 =>
            copies_Copy.LD h_9 ⟨b_1, 0, none⟩ fun r_0_2 r_1_2 r_2_2 r_3_2 r_4_2 r_5_2 r_6_p_2 r_6_l_2 r_6_c_2 r_7_2 r_8_2 r_9_2 =>
            R (.tuple #[.agg #[.int .i64 r_0_2, .bool r_1_2, .int .u64 r_2_2, .int .u64 r_3_2, .string r_4_2, .string r_5_2, .slice r_6_p_2 r_6_l_2 r_6_c_2, .int .u64 r_7_2, .int .i64 r_8_2, .int .u64 r_9_2], .int .i64 4]) h_9)
    (fun J =>
      CallsH Try.prog F.copies_isSession #[.int .i64 session] h_3 fun v_2 h_10 =>
      ∃ (t21 : Bool), v_2 = .bool t21 ∧
      if (!t21) = true then
        J true h_10
      else
        J (decide (deadline > 1099511627776)) h_10)
theorem copies_Table_Lease.nil.den_eq (endpoint_0 : Bool) (endpoint_1 : Int) (endpoint_2 : Int) (endpoint_3 : ByteArray) (endpoint_4 : ByteArray) (session : Int) (deadline : Int) (h : Heap) (R : Value → Heap → Prop) : copies_Table_Lease.nil.vc endpoint_0 endpoint_1 endpoint_2 endpoint_3 endpoint_4 session deadline h R = den Try.prog Try.f16.ntmps (.seq .leaf (.seq (.block (.seq .leaf (.cond (.seq .leaf .leaf) (.seq (.join [(19, .one (.bool))] .leaf) (.cond (.seq .leaf .leaf) .leaf))))) (.seq (.seq .leaf (.block (.loop [(32, .one (.int .i64))] (.seq .leaf (.seq (.cond .leaf .leaf) (.seq (.block (.seq .leaf (.seq .leaf (.seq .leaf (.cond (.seq .leaf (.seq .leaf (.seq .leaf (.seq .leaf (.seq .leaf .leaf))))) .leaf))))) .leaf)))))) (.seq .leaf .leaf)))) none (bodyOf Try.f16) (retK Try.prog Try.f16.results R) (argEnv [.pointer none, .agg #[.bool endpoint_0, .int .u64 endpoint_1, .int .u64 endpoint_2, .string endpoint_3, .string endpoint_4], .int .i64 session, .int .u64 deadline]) h := by kernel_rfl
theorem copies_Table_Lease.nil.walk {endpoint_0 : Bool} {endpoint_1 : Int} {endpoint_2 : Int} {endpoint_3 : ByteArray} {endpoint_4 : ByteArray} {session : Int} {deadline : Int} {h : Heap} {R : Value → Heap → Prop} (hv : copies_Table_Lease.nil.vc endpoint_0 endpoint_1 endpoint_2 endpoint_3 endpoint_4 session deadline h R) : CallsH Try.prog F.copies_Table_Lease #[.pointer none, .agg #[.bool endpoint_0, .int .u64 endpoint_1, .int .u64 endpoint_2, .string endpoint_3, .string endpoint_4], .int .i64 session, .int .u64 deadline] h R :=
  callsH_of_body _ Try.func16 rfl rfl (Eq.mp (copies_Table_Lease.nil.den_eq endpoint_0 endpoint_1 endpoint_2 endpoint_3 endpoint_4 session deadline h R) hv)

def copies_Table_find.vc (t : Nat) (num : Int) (session : Int) (h : Heap) (R : Value → Heap → Prop) : Prop :=
  CallsH Try.prog F.copies_Table_made #[.pointer (some ⟨t, 0, none⟩)] h fun v h_1 =>
  ∃ (t10 : Bool), v = .bool t10 ∧
  if (!t10) = true then
    R (.tuple #[.pointer none, .int .i64 6]) h_1
  else
    ∃ (t16 : Option Nat), hcell h_1 ⟨t, 0, none⟩ = some (.map t16) ∧
    ∃ (t18 : Option Addr), LookV Try.prog T.m_int_p_copies_Copy (.map t16) (.int .i64 num) false h_1 (.pointer t18) ∧
    if t18.isNone = true then
      R (.tuple #[.pointer none, .int .i64 4]) h_1
    else
      JoinP (fun (t20 : Bool) (h_2 : Heap) =>
        if t20 = true then
          R (.tuple #[.pointer none, .int .i64 14]) h_2
        else
          ∃ (t47 : Option Nat), hcell h_2 ⟨t, 0, none⟩ = some (.map t47) ∧
          ∃ (t49 : Option Addr), LookV Try.prog T.m_int_p_copies_Copy (.map t47) (.int .i64 num) false h_2 (.pointer t49) ∧
          R (.tuple #[.pointer t49, .int .i64 0]) h_2)
      (fun J =>
        ∃ (t24 : Option Nat), hcell h_1 ⟨t, 0, none⟩ = some (.map t24) ∧
        ∃ (t26 : Option Addr), LookV Try.prog T.m_int_p_copies_Copy (.map t24) (.int .i64 num) false h_1 (.pointer t26) ∧
        onSome t26 fun a =>
        ∃ (t29 : Int), hcell h_1 (a.add 8) = some (.int .i64 t29) ∧
        if (t29 == 0) = true then
          J true h_1
        else
          ∃ (t35 : Option Nat), hcell h_1 ⟨t, 0, none⟩ = some (.map t35) ∧
          ∃ (t37 : Option Addr), LookV Try.prog T.m_int_p_copies_Copy (.map t35) (.int .i64 num) false h_1 (.pointer t37) ∧
          onSome t37 fun a_1 =>
          ∃ (t40 : Int), hcell h_1 (a_1.add 8) = some (.int .i64 t40) ∧
          J (t40 != session) h_1)
theorem copies_Table_find.den_eq (t : Nat) (num : Int) (session : Int) (h : Heap) (R : Value → Heap → Prop) : copies_Table_find.vc t num session h R = den Try.prog Try.f42.ntmps (.seq .leaf (.seq (.block (.seq .leaf (.cond (.seq .leaf .leaf) (.seq .leaf (.cond (.seq .leaf .leaf) (.seq (.join [(20, .one (.bool))] .leaf) (.cond (.seq .leaf .leaf) .leaf))))))) (.seq .leaf .leaf))) none (bodyOf Try.f42) (retK Try.prog Try.f42.results R) (argEnv [.pointer (some ⟨t, 0, none⟩), .int .i64 num, .int .i64 session]) h := by kernel_rfl
theorem copies_Table_find.walk {t : Nat} {num : Int} {session : Int} {h : Heap} {R : Value → Heap → Prop} (hv : copies_Table_find.vc t num session h R) : CallsH Try.prog F.copies_Table_find #[.pointer (some ⟨t, 0, none⟩), .int .i64 num, .int .i64 session] h R :=
  callsH_of_body _ Try.func42 rfl rfl (Eq.mp (copies_Table_find.den_eq t num session h R) hv)

def copies_Table_find.nil.vc (num : Int) (session : Int) (h : Heap) (R : Value → Heap → Prop) : Prop :=
  CallsH Try.prog F.copies_Table_made #[.pointer none] h fun v h_1 =>
  ∃ (t10 : Bool), v = .bool t10 ∧
  if (!t10) = true then
    R (.tuple #[.pointer none, .int .i64 6]) h_1
  else
    False
theorem copies_Table_find.nil.den_eq (num : Int) (session : Int) (h : Heap) (R : Value → Heap → Prop) : copies_Table_find.nil.vc num session h R = den Try.prog Try.f42.ntmps (.seq .leaf (.seq (.block (.seq .leaf (.cond (.seq .leaf .leaf) (.seq .leaf (.cond (.seq .leaf .leaf) (.seq (.join [(20, .one (.bool))] .leaf) (.cond (.seq .leaf .leaf) .leaf))))))) (.seq .leaf .leaf))) none (bodyOf Try.f42) (retK Try.prog Try.f42.results R) (argEnv [.pointer none, .int .i64 num, .int .i64 session]) h := by kernel_rfl
theorem copies_Table_find.nil.walk {num : Int} {session : Int} {h : Heap} {R : Value → Heap → Prop} (hv : copies_Table_find.nil.vc num session h R) : CallsH Try.prog F.copies_Table_find #[.pointer none, .int .i64 num, .int .i64 session] h R :=
  callsH_of_body _ Try.func42 rfl rfl (Eq.mp (copies_Table_find.nil.den_eq num session h R) hv)

def copies_Table_free.vc (t : Nat) (n : Int) (h : Heap) (R : Value → Heap → Prop) : Prop :=
  ∃ (t7 : Option Addr), hcell h ⟨t, 6, none⟩ = some (.pointer t7) ∧
  CallsH Try.prog F.alarm_Alarm_Drop #[.pointer t7, .int .i64 n] h fun v h_1 =>
  ∃ (t9 : Int), v = .int .i64 t9 ∧
  ∃ (t13 : Option Nat), hcell h_1 ⟨t, 0, none⟩ = some (.map t13) ∧
  ∃ (t15 : Option Addr), LookV Try.prog T.m_int_p_copies_Copy (.map t13) (.int .i64 n) false h_1 (.pointer t15) ∧
  ∃ (t19 : Option Nat), hcell h_1 ⟨t, 0, none⟩ = some (.map t19) ∧
  ∃ (t21 : Option Addr), LookV Try.prog T.m_int_p_copies_Copy (.map t19) (.int .i64 n) false h_1 (.pointer t21) ∧
  onSome t15 fun a =>
  StoreP h_1 (a.add 8) (.int .i64 0) fun h_2 =>
  onSome t21 fun a_1 =>
  StoreP h_2 (a_1.add 9) (.int .u64 0) fun h_3 =>
  R (.tuple #[]) h_3
theorem copies_Table_free.den_eq (t : Nat) (n : Int) (h : Heap) (R : Value → Heap → Prop) : copies_Table_free.vc t n h R = den Try.prog Try.f41.ntmps (.seq .leaf (.plan (.op 0 (.op 1 (.op 2 (.op 3 (.op 4 (.op 5 (.op 6 (.op 7 (.op 8 (.op 9 (.op 10 (.op 11 (.op 12 (.op 13 (.op 14 (.op 15 (.op 16 (.op 17 .done)))))))))))))))))))) none (bodyOf Try.f41) (retK Try.prog Try.f41.results R) (argEnv [.pointer (some ⟨t, 0, none⟩), .int .i64 n]) h := by kernel_rfl
theorem copies_Table_free.walk {t : Nat} {n : Int} {h : Heap} {R : Value → Heap → Prop} (hv : copies_Table_free.vc t n h R) : CallsH Try.prog F.copies_Table_free #[.pointer (some ⟨t, 0, none⟩), .int .i64 n] h R :=
  callsH_of_body _ Try.func41 rfl rfl (Eq.mp (copies_Table_free.den_eq t n h R) hv)

def copies_Table_remove.vc (t : Nat) (n : Int) (h : Heap) (R : Value → Heap → Prop) : Prop :=
  ∃ (t7 : Option Addr), hcell h ⟨t, 6, none⟩ = some (.pointer t7) ∧
  CallsH Try.prog F.alarm_Alarm_Drop #[.pointer t7, .int .i64 n] h fun v h_1 =>
  ∃ (t9 : Int), v = .int .i64 t9 ∧
  ∃ (t13 : Option Addr), hcell h_1 ⟨t, 5, none⟩ = some (.pointer t13) ∧
  CallsH Try.prog F.alarm_Alarm_Drop #[.pointer t13, .int .i64 n] h_1 fun v_1 h_2 =>
  ∃ (t15 : Int), v_1 = .int .i64 t15 ∧
  ∃ (t19 : Option Nat), hcell h_2 ⟨t, 0, none⟩ = some (.map t19) ∧
  denSem Try.prog (Builtin.delete_ #[T.m_int_p_copies_Copy, T.int] T.tup_ #[.map t19, .int .i64 n]) h_2 fun v_2 h_3 =>
  v_2 = .tuple #[] ∧
  R (.tuple #[]) h_3
theorem copies_Table_remove.den_eq (t : Nat) (n : Int) (h : Heap) (R : Value → Heap → Prop) : copies_Table_remove.vc t n h R = den Try.prog Try.f40.ntmps (.seq .leaf (.seq .leaf .leaf)) none (bodyOf Try.f40) (retK Try.prog Try.f40.results R) (argEnv [.pointer (some ⟨t, 0, none⟩), .int .i64 n]) h := by kernel_rfl
theorem copies_Table_remove.walk {t : Nat} {n : Int} {h : Heap} {R : Value → Heap → Prop} (hv : copies_Table_remove.vc t n h R) : CallsH Try.prog F.copies_Table_remove #[.pointer (some ⟨t, 0, none⟩), .int .i64 n] h R :=
  callsH_of_body _ Try.func40 rfl rfl (Eq.mp (copies_Table_remove.den_eq t n h R) hv)

def copies_Table_Ack.vc (t : Nat) (num : Int) (session : Int) (h : Heap) (R : Value → Heap → Prop) : Prop :=
  CallsH Try.prog F.copies_Table_find #[.pointer (some ⟨t, 0, none⟩), .int .i64 num, .int .i64 session] h fun v h_1 =>
  ∃ (t13_0 : Option Addr), ∃ (t13_1 : Int), v = .tuple #[.pointer t13_0, .int .i64 t13_1] ∧
  JoinP (fun (h_2 : Heap) =>
    R (.int .i64 t13_1) h_2)
  (fun J =>
    if (t13_1 == 0) = true then
      CallsH Try.prog F.copies_Table_remove #[.pointer (some ⟨t, 0, none⟩), .int .i64 num] h_1 fun v_1 h_3 =>
      v_1 = .tuple #[] ∧
      ∃ (t24 : Int), hcell h_3 ⟨t, 2, none⟩ = some (.int .i64 t24) ∧
      StoreP h_3 ⟨t, 2, none⟩ (.int .i64 (IntKind.wrap .i64 (t24 + 1))) fun h_4 =>
      J h_4
    else
      J h_1)
theorem copies_Table_Ack.den_eq (t : Nat) (num : Int) (session : Int) (h : Heap) (R : Value → Heap → Prop) : copies_Table_Ack.vc t num session h R = den Try.prog Try.f21.ntmps (.seq .leaf (.seq .leaf (.seq (.seq .leaf (.join [] (.cond (.seq .leaf .leaf) .leaf))) (.seq .leaf .leaf)))) none (bodyOf Try.f21) (retK Try.prog Try.f21.results R) (argEnv [.pointer (some ⟨t, 0, none⟩), .int .i64 num, .int .i64 session]) h := by kernel_rfl
theorem copies_Table_Ack.walk {t : Nat} {num : Int} {session : Int} {h : Heap} {R : Value → Heap → Prop} (hv : copies_Table_Ack.vc t num session h R) : CallsH Try.prog F.copies_Table_Ack #[.pointer (some ⟨t, 0, none⟩), .int .i64 num, .int .i64 session] h R :=
  callsH_of_body _ Try.func21 rfl rfl (Eq.mp (copies_Table_Ack.den_eq t num session h R) hv)

def copies_Table_Ack.nil.vc (num : Int) (session : Int) (h : Heap) (R : Value → Heap → Prop) : Prop :=
  CallsH Try.prog F.copies_Table_find #[.pointer none, .int .i64 num, .int .i64 session] h fun v h_1 =>
  ∃ (t13_0 : Option Addr), ∃ (t13_1 : Int), v = .tuple #[.pointer t13_0, .int .i64 t13_1] ∧
  JoinP (fun (h_2 : Heap) =>
    R (.int .i64 t13_1) h_2)
  (fun J =>
    if (t13_1 == 0) = true then
      CallsH Try.prog F.copies_Table_remove #[.pointer none, .int .i64 num] h_1 fun v_1 h_3 =>
      v_1 = .tuple #[] ∧
      False
    else
      J h_1)
theorem copies_Table_Ack.nil.den_eq (num : Int) (session : Int) (h : Heap) (R : Value → Heap → Prop) : copies_Table_Ack.nil.vc num session h R = den Try.prog Try.f21.ntmps (.seq .leaf (.seq .leaf (.seq (.seq .leaf (.join [] (.cond (.seq .leaf .leaf) .leaf))) (.seq .leaf .leaf)))) none (bodyOf Try.f21) (retK Try.prog Try.f21.results R) (argEnv [.pointer none, .int .i64 num, .int .i64 session]) h := by kernel_rfl
theorem copies_Table_Ack.nil.walk {num : Int} {session : Int} {h : Heap} {R : Value → Heap → Prop} (hv : copies_Table_Ack.nil.vc num session h R) : CallsH Try.prog F.copies_Table_Ack #[.pointer none, .int .i64 num, .int .i64 session] h R :=
  callsH_of_body _ Try.func21 rfl rfl (Eq.mp (copies_Table_Ack.nil.den_eq num session h R) hv)

def copies_Table_Release.vc (t : Nat) (num : Int) (session : Int) (h : Heap) (R : Value → Heap → Prop) : Prop :=
  CallsH Try.prog F.copies_Table_find #[.pointer (some ⟨t, 0, none⟩), .int .i64 num, .int .i64 session] h fun v h_1 =>
  ∃ (t13_0 : Option Addr), ∃ (t13_1 : Int), v = .tuple #[.pointer t13_0, .int .i64 t13_1] ∧
  JoinP (fun (h_2 : Heap) =>
    R (.int .i64 t13_1) h_2)
  (fun J =>
    if (t13_1 == 0) = true then
      CallsH Try.prog F.copies_Table_free #[.pointer (some ⟨t, 0, none⟩), .int .i64 num] h_1 fun v_1 h_3 =>
      v_1 = .tuple #[] ∧
      J h_3
    else
      J h_1)
theorem copies_Table_Release.den_eq (t : Nat) (num : Int) (session : Int) (h : Heap) (R : Value → Heap → Prop) : copies_Table_Release.vc t num session h R = den Try.prog Try.f18.ntmps (.seq .leaf (.seq .leaf (.seq (.seq .leaf (.join [] (.cond .leaf .leaf))) (.seq .leaf .leaf)))) none (bodyOf Try.f18) (retK Try.prog Try.f18.results R) (argEnv [.pointer (some ⟨t, 0, none⟩), .int .i64 num, .int .i64 session]) h := by kernel_rfl
theorem copies_Table_Release.walk {t : Nat} {num : Int} {session : Int} {h : Heap} {R : Value → Heap → Prop} (hv : copies_Table_Release.vc t num session h R) : CallsH Try.prog F.copies_Table_Release #[.pointer (some ⟨t, 0, none⟩), .int .i64 num, .int .i64 session] h R :=
  callsH_of_body _ Try.func18 rfl rfl (Eq.mp (copies_Table_Release.den_eq t num session h R) hv)

def copies_Table_Release.nil.vc (num : Int) (session : Int) (h : Heap) (R : Value → Heap → Prop) : Prop :=
  CallsH Try.prog F.copies_Table_find #[.pointer none, .int .i64 num, .int .i64 session] h fun v h_1 =>
  ∃ (t13_0 : Option Addr), ∃ (t13_1 : Int), v = .tuple #[.pointer t13_0, .int .i64 t13_1] ∧
  JoinP (fun (h_2 : Heap) =>
    R (.int .i64 t13_1) h_2)
  (fun J =>
    if (t13_1 == 0) = true then
      CallsH Try.prog F.copies_Table_free #[.pointer none, .int .i64 num] h_1 fun v_1 h_3 =>
      v_1 = .tuple #[] ∧
      J h_3
    else
      J h_1)
theorem copies_Table_Release.nil.den_eq (num : Int) (session : Int) (h : Heap) (R : Value → Heap → Prop) : copies_Table_Release.nil.vc num session h R = den Try.prog Try.f18.ntmps (.seq .leaf (.seq .leaf (.seq (.seq .leaf (.join [] (.cond .leaf .leaf))) (.seq .leaf .leaf)))) none (bodyOf Try.f18) (retK Try.prog Try.f18.results R) (argEnv [.pointer none, .int .i64 num, .int .i64 session]) h := by kernel_rfl
theorem copies_Table_Release.nil.walk {num : Int} {session : Int} {h : Heap} {R : Value → Heap → Prop} (hv : copies_Table_Release.nil.vc num session h R) : CallsH Try.prog F.copies_Table_Release #[.pointer none, .int .i64 num, .int .i64 session] h R :=
  callsH_of_body _ Try.func18 rfl rfl (Eq.mp (copies_Table_Release.nil.den_eq num session h R) hv)

def copies_Table_Pass.vc (t : Nat) (now : Int) (h : Heap) (R : Value → Heap → Prop) : Prop :=
  CallsH Try.prog F.copies_Table_made #[.pointer (some ⟨t, 0, none⟩)] h fun v h_1 =>
  ∃ (t11 : Bool), v = .bool t11 ∧
  if (!t11) = true then
    R (.slice none 0 0) h_1
  else
    ∃ (t16 : Option Addr), hcell h_1 ⟨t, 5, none⟩ = some (.pointer t16) ∧
    CallsH Try.prog F.alarm_Alarm_Ring #[.pointer t16, .int .u64 now] h_1 fun v_1 h_2 =>
    ∃ (t18_p : Option Addr) (t18_l t18_c : Nat), v_1 = .slice t18_p t18_l t18_c ∧
    ∃ (I : Int → Heap → Prop) (mu : Int → Heap → Nat), I 0 h_2 ∧ ∀ (t21 : Int) (h_3 : Heap), I t21 h_3 →
      if (decide (t21 < ((t18_l : Nat) : Int))) = true then
        ((0 : Int) ≤ t21 ∧ t21 < ((t18_l : Nat) : Int)) ∧
        onSome t18_p fun a =>
        ∃ (t24 : Int), hcell h_3 (a.add (Int.toNat t21 * 1)) = some (.int .i64 t24) ∧
        CallsH Try.prog F.copies_Table_remove #[.pointer (some ⟨t, 0, none⟩), .int .i64 t24] h_3 fun v_2 h_4 =>
        v_2 = .tuple #[] ∧
        ∃ (t31 : Int), hcell h_4 ⟨t, 3, none⟩ = some (.int .i64 t31) ∧
        StoreP h_4 ⟨t, 3, none⟩ (.int .i64 (IntKind.wrap .i64 (t31 + 1))) fun h_5 =>
        (I (IntKind.wrap .i64 (t21 + 1)) h_5 ∧ mu (IntKind.wrap .i64 (t21 + 1)) h_5 < mu t21 h_3)
      else
        ∃ (t39 : Option Addr), hcell h_3 ⟨t, 6, none⟩ = some (.pointer t39) ∧
        CallsH Try.prog F.alarm_Alarm_Ring #[.pointer t39, .int .u64 now] h_3 fun v_3 h_6 =>
        ∃ (t41_p : Option Addr) (t41_l t41_c : Nat), v_3 = .slice t41_p t41_l t41_c ∧
        ∃ (I_1 : Int → Heap → Prop) (mu_1 : Int → Heap → Nat), I_1 0 h_6 ∧ ∀ (t43 : Int) (h_7 : Heap), I_1 t43 h_7 →
          if (decide (t43 < ((t41_l : Nat) : Int))) = true then
            ((0 : Int) ≤ t43 ∧ t43 < ((t41_l : Nat) : Int)) ∧
            onSome t41_p fun a_1 =>
            ∃ (t46 : Int), hcell h_7 (a_1.add (Int.toNat t43 * 1)) = some (.int .i64 t46) ∧
            CallsH Try.prog F.copies_Table_free #[.pointer (some ⟨t, 0, none⟩), .int .i64 t46] h_7 fun v_4 h_8 =>
            v_4 = .tuple #[] ∧
            (I_1 (IntKind.wrap .i64 (t43 + 1)) h_8 ∧ mu_1 (IntKind.wrap .i64 (t43 + 1)) h_8 < mu_1 t43 h_7)
          else
            R (.slice t18_p t18_l t18_c) h_7
theorem copies_Table_Pass.den_eq (t : Nat) (now : Int) (h : Heap) (R : Value → Heap → Prop) : copies_Table_Pass.vc t now h R = den Try.prog Try.f17.ntmps (.seq .leaf (.seq (.seq .leaf (.cond (.seq .leaf .leaf) .leaf)) (.seq .leaf (.seq (.seq .leaf (.block (.loop [(21, .one (.int .i64))] (.seq .leaf (.seq (.cond .leaf .leaf) (.seq (.block (.seq .leaf (.seq .leaf .leaf))) .leaf)))))) (.seq (.seq .leaf (.block (.loop [(43, .one (.int .i64))] (.seq .leaf (.seq (.cond .leaf .leaf) (.seq (.block (.seq .leaf .leaf)) .leaf)))))) (.seq .leaf .leaf)))))) none (bodyOf Try.f17) (retK Try.prog Try.f17.results R) (argEnv [.pointer (some ⟨t, 0, none⟩), .int .u64 now]) h := by kernel_rfl
theorem copies_Table_Pass.walk {t : Nat} {now : Int} {h : Heap} {R : Value → Heap → Prop} (hv : copies_Table_Pass.vc t now h R) : CallsH Try.prog F.copies_Table_Pass #[.pointer (some ⟨t, 0, none⟩), .int .u64 now] h R :=
  callsH_of_body _ Try.func17 rfl rfl (Eq.mp (copies_Table_Pass.den_eq t now h R) hv)

def copies_Table_Pass.nil.vc (now : Int) (h : Heap) (R : Value → Heap → Prop) : Prop :=
  CallsH Try.prog F.copies_Table_made #[.pointer none] h fun v h_1 =>
  ∃ (t11 : Bool), v = .bool t11 ∧
  if (!t11) = true then
    R (.slice none 0 0) h_1
  else
    False
theorem copies_Table_Pass.nil.den_eq (now : Int) (h : Heap) (R : Value → Heap → Prop) : copies_Table_Pass.nil.vc now h R = den Try.prog Try.f17.ntmps (.seq .leaf (.seq (.seq .leaf (.cond (.seq .leaf .leaf) .leaf)) (.seq .leaf (.seq (.seq .leaf (.block (.loop [(21, .one (.int .i64))] (.seq .leaf (.seq (.cond .leaf .leaf) (.seq (.block (.seq .leaf (.seq .leaf .leaf))) .leaf)))))) (.seq (.seq .leaf (.block (.loop [(43, .one (.int .i64))] (.seq .leaf (.seq (.cond .leaf .leaf) (.seq (.block (.seq .leaf .leaf)) .leaf)))))) (.seq .leaf .leaf)))))) none (bodyOf Try.f17) (retK Try.prog Try.f17.results R) (argEnv [.pointer none, .int .u64 now]) h := by kernel_rfl
theorem copies_Table_Pass.nil.walk {now : Int} {h : Heap} {R : Value → Heap → Prop} (hv : copies_Table_Pass.nil.vc now h R) : CallsH Try.prog F.copies_Table_Pass #[.pointer none, .int .u64 now] h R :=
  callsH_of_body _ Try.func17 rfl rfl (Eq.mp (copies_Table_Pass.nil.den_eq now h R) hv)

def copies_Table_Drop.vc (t : Nat) (endpoint_0 : Bool) (endpoint_1 : Int) (endpoint_2 : Int) (endpoint_3 : ByteArray) (endpoint_4 : ByteArray) (h : Heap) (R : Value → Heap → Prop) : Prop :=
  NewP h (.cells #[.bool endpoint_0, .int .u64 endpoint_1, .int .u64 endpoint_2, .string endpoint_3, .string endpoint_4] T.eid_Eid) fun b h_1 =>
  eid_Eid.LD h_1 ⟨b, 0, none⟩ fun t9_0 t9_1 t9_2 t9_3 t9_4 =>
  CallsH Try.prog F.copies_Table_of #[.pointer (some ⟨t, 0, none⟩), .agg #[.bool t9_0, .int .u64 t9_1, .int .u64 t9_2, .string t9_3, .string t9_4]] h_1 fun v h_2 =>
  ∃ (t10_p : Option Addr) (t10_l t10_c : Nat), v = .slice t10_p t10_l t10_c ∧
  ∃ (I : Int → Heap → Prop) (mu : Int → Heap → Nat), I 0 h_2 ∧ ∀ (t13 : Int) (h_3 : Heap), I t13 h_3 →
    if (decide (t13 < ((t10_l : Nat) : Int))) = true then
      ((0 : Int) ≤ t13 ∧ t13 < ((t10_l : Nat) : Int)) ∧
      onSome t10_p fun a =>
      ∃ (t16 : Int), hcell h_3 (a.add (Int.toNat t13 * 1)) = some (.int .i64 t16) ∧
      CallsH Try.prog F.copies_Table_remove #[.pointer (some ⟨t, 0, none⟩), .int .i64 t16] h_3 fun v_1 h_4 =>
      v_1 = .tuple #[] ∧
      ∃ (t23 : Int), hcell h_4 ⟨t, 4, none⟩ = some (.int .i64 t23) ∧
      StoreP h_4 ⟨t, 4, none⟩ (.int .i64 (IntKind.wrap .i64 (t23 + 1))) fun h_5 =>
      (I (IntKind.wrap .i64 (t13 + 1)) h_5 ∧ mu (IntKind.wrap .i64 (t13 + 1)) h_5 < mu t13 h_3)
    else
      R (.slice t10_p t10_l t10_c) h_3
theorem copies_Table_Drop.den_eq (t : Nat) (endpoint_0 : Bool) (endpoint_1 : Int) (endpoint_2 : Int) (endpoint_3 : ByteArray) (endpoint_4 : ByteArray) (h : Heap) (R : Value → Heap → Prop) : copies_Table_Drop.vc t endpoint_0 endpoint_1 endpoint_2 endpoint_3 endpoint_4 h R = den Try.prog Try.f22.ntmps (.seq .leaf (.seq .leaf (.seq (.seq .leaf (.block (.loop [(13, .one (.int .i64))] (.seq .leaf (.seq (.cond .leaf .leaf) (.seq (.block (.seq .leaf (.seq .leaf .leaf))) .leaf)))))) (.seq .leaf .leaf)))) none (bodyOf Try.f22) (retK Try.prog Try.f22.results R) (argEnv [.pointer (some ⟨t, 0, none⟩), .agg #[.bool endpoint_0, .int .u64 endpoint_1, .int .u64 endpoint_2, .string endpoint_3, .string endpoint_4]]) h := by kernel_rfl
theorem copies_Table_Drop.walk {t : Nat} {endpoint_0 : Bool} {endpoint_1 : Int} {endpoint_2 : Int} {endpoint_3 : ByteArray} {endpoint_4 : ByteArray} {h : Heap} {R : Value → Heap → Prop} (hv : copies_Table_Drop.vc t endpoint_0 endpoint_1 endpoint_2 endpoint_3 endpoint_4 h R) : CallsH Try.prog F.copies_Table_Drop #[.pointer (some ⟨t, 0, none⟩), .agg #[.bool endpoint_0, .int .u64 endpoint_1, .int .u64 endpoint_2, .string endpoint_3, .string endpoint_4]] h R :=
  callsH_of_body _ Try.func22 rfl rfl (Eq.mp (copies_Table_Drop.den_eq t endpoint_0 endpoint_1 endpoint_2 endpoint_3 endpoint_4 h R) hv)

def copies_Table_Drop.nil.vc (endpoint_0 : Bool) (endpoint_1 : Int) (endpoint_2 : Int) (endpoint_3 : ByteArray) (endpoint_4 : ByteArray) (h : Heap) (R : Value → Heap → Prop) : Prop :=
  NewP h (.cells #[.bool endpoint_0, .int .u64 endpoint_1, .int .u64 endpoint_2, .string endpoint_3, .string endpoint_4] T.eid_Eid) fun b h_1 =>
  eid_Eid.LD h_1 ⟨b, 0, none⟩ fun t9_0 t9_1 t9_2 t9_3 t9_4 =>
  CallsH Try.prog F.copies_Table_of #[.pointer none, .agg #[.bool t9_0, .int .u64 t9_1, .int .u64 t9_2, .string t9_3, .string t9_4]] h_1 fun v h_2 =>
  ∃ (t10_p : Option Addr) (t10_l t10_c : Nat), v = .slice t10_p t10_l t10_c ∧
  ∃ (I : Int → Heap → Prop) (mu : Int → Heap → Nat), I 0 h_2 ∧ ∀ (t13 : Int) (h_3 : Heap), I t13 h_3 →
    if (decide (t13 < ((t10_l : Nat) : Int))) = true then
      ((0 : Int) ≤ t13 ∧ t13 < ((t10_l : Nat) : Int)) ∧
      onSome t10_p fun a =>
      ∃ (t16 : Int), hcell h_3 (a.add (Int.toNat t13 * 1)) = some (.int .i64 t16) ∧
      CallsH Try.prog F.copies_Table_remove #[.pointer none, .int .i64 t16] h_3 fun v_1 h_4 =>
      v_1 = .tuple #[] ∧
      False
    else
      R (.slice t10_p t10_l t10_c) h_3
theorem copies_Table_Drop.nil.den_eq (endpoint_0 : Bool) (endpoint_1 : Int) (endpoint_2 : Int) (endpoint_3 : ByteArray) (endpoint_4 : ByteArray) (h : Heap) (R : Value → Heap → Prop) : copies_Table_Drop.nil.vc endpoint_0 endpoint_1 endpoint_2 endpoint_3 endpoint_4 h R = den Try.prog Try.f22.ntmps (.seq .leaf (.seq .leaf (.seq (.seq .leaf (.block (.loop [(13, .one (.int .i64))] (.seq .leaf (.seq (.cond .leaf .leaf) (.seq (.block (.seq .leaf (.seq .leaf .leaf))) .leaf)))))) (.seq .leaf .leaf)))) none (bodyOf Try.f22) (retK Try.prog Try.f22.results R) (argEnv [.pointer none, .agg #[.bool endpoint_0, .int .u64 endpoint_1, .int .u64 endpoint_2, .string endpoint_3, .string endpoint_4]]) h := by kernel_rfl
theorem copies_Table_Drop.nil.walk {endpoint_0 : Bool} {endpoint_1 : Int} {endpoint_2 : Int} {endpoint_3 : ByteArray} {endpoint_4 : ByteArray} {h : Heap} {R : Value → Heap → Prop} (hv : copies_Table_Drop.nil.vc endpoint_0 endpoint_1 endpoint_2 endpoint_3 endpoint_4 h R) : CallsH Try.prog F.copies_Table_Drop #[.pointer none, .agg #[.bool endpoint_0, .int .u64 endpoint_1, .int .u64 endpoint_2, .string endpoint_3, .string endpoint_4]] h R :=
  callsH_of_body _ Try.func22 rfl rfl (Eq.mp (copies_Table_Drop.nil.den_eq endpoint_0 endpoint_1 endpoint_2 endpoint_3 endpoint_4 h R) hv)

end Go.Proofs.Ytgccegnmggjkjaa
