/-
  Printed by a program of this work (vc.py): the verification conditions of functions, and that each is enough for the call. No condition.
-/
import Derived.Test.YtlonfpolnmiglaaNames
set_option maxRecDepth 100000
set_option maxHeartbeats 4000000
namespace Go.Proofs.Ytlonfpolnmiglaa
open Go.Den
def ref23_Box_There.vc (b : Nat) (h : Heap) (R : Value → Heap → Prop) : Prop :=
  ∃ (I : Option Addr → Nat → Nat → Int → Heap → Prop) (mu : Option Addr → Nat → Nat → Int → Heap → Nat), I none 0 0 0 h ∧ ∀ (out_p : Option Addr) (out_l out_c : Nat) (i : Int) (h_1 : Heap), I out_p out_l out_c i h_1 →
    ∃ (t9_p : Option Addr) (t9_l t9_c : Nat), hcell h_1 ⟨b, 0, none⟩ = some (.slice t9_p t9_l t9_c) ∧
    if (decide (i < ((t9_l : Nat) : Int))) = true then
      JoinP (fun (out_p_1 : Option Addr) (out_l_1 out_c_1 : Nat) (h_2 : Heap) =>
        (I out_p_1 out_l_1 out_c_1 (IntKind.wrap .i64 (i + 1)) h_2 ∧ mu out_p_1 out_l_1 out_c_1 (IntKind.wrap .i64 (i + 1)) h_2 < mu out_p out_l out_c i h_1))
      (fun J =>
        ∃ (t17_p : Option Addr) (t17_l t17_c : Nat), hcell h_1 ⟨b, 0, none⟩ = some (.slice t17_p t17_l t17_c) ∧
        ((0 : Int) ≤ i ∧ i < ((t17_l : Nat) : Int)) ∧
        onSome t17_p fun a =>
        ∃ (t21 : Int), hcell h_1 ((a.add (Int.toNat i * 5)).add 4) = some (.int .i64 t21) ∧
        JoinP (fun (out_p_2 : Option Addr) (out_l_2 out_c_2 : Nat) (h_3 : Heap) =>
          J out_p_2 out_l_2 out_c_2 h_3)
        (fun J_1 =>
          if (t21 == 1) = true then
            ∃ (t27_p : Option Addr) (t27_l t27_c : Nat), hcell h_1 ⟨b, 0, none⟩ = some (.slice t27_p t27_l t27_c) ∧
            ((0 : Int) ≤ i ∧ i < ((t27_l : Nat) : Int)) ∧
            onSome t27_p fun a_1 =>
            ∃ (t30_0 : Int), hcell h_1 (a_1.add (Int.toNat i * 5)) = some (.int .i64 t30_0) ∧ ∃ (t30_1 : Int), hcell h_1 ((a_1.add (Int.toNat i * 5)).add 1) = some (.int .i64 t30_1) ∧ ∃ (t30_2_p : Option Addr) (t30_2_l t30_2_c : Nat), hcell h_1 ((a_1.add (Int.toNat i * 5)).add 2) = some (.slice t30_2_p t30_2_l t30_2_c) ∧ ∃ (t30_3 : Int), hcell h_1 ((a_1.add (Int.toNat i * 5)).add 3) = some (.int .u64 t30_3) ∧ ∃ (t30_4 : Int), hcell h_1 ((a_1.add (Int.toNat i * 5)).add 4) = some (.int .i64 t30_4) ∧ 
            NewP h_1 (.cells #[.int .i64 t30_0, .int .i64 t30_1, .slice t30_2_p t30_2_l t30_2_c, .int .u64 t30_3, .int .i64 t30_4] T.ref23_Item) fun b_1 h_4 =>
            denSem Try.prog (Builtin.append_ #[T.s_ref23_Item, T.s_ref23_Item] T.s_ref23_Item #[.slice out_p out_l out_c, .slice (some ⟨b_1, 0, none⟩) 1 1]) h_4 fun v h_5 =>
            ∃ (t32_p : Option Addr) (t32_l t32_c : Nat), v = .slice t32_p t32_l t32_c ∧
            J_1 t32_p t32_l t32_c h_5
          else
            J_1 out_p out_l out_c h_1))
    else
      R (.slice out_p out_l out_c) h_1
theorem ref23_Box_There.den_eq (b : Nat) (h : Heap) (R : Value → Heap → Prop) : ref23_Box_There.vc b h R = den Try.prog Try.f32.ntmps (.seq .leaf (.seq .leaf (.seq (.seq .leaf (.block (.loop [(3, .one (.slice)), (4, .one (.int .i64))] (.seq (.seq .leaf (.cond .leaf .leaf)) (.seq (.join [(3, .one (.slice))] (.block (.seq .leaf (.join [(3, .one (.slice))] (.cond .leaf .leaf))))) .leaf))))) (.seq .leaf .leaf)))) none (bodyOf Try.f32) (retK Try.prog Try.f32.results R) (argEnv [.pointer (some ⟨b, 0, none⟩)]) h := by kernel_rfl
theorem ref23_Box_There.walk {b : Nat} {h : Heap} {R : Value → Heap → Prop} (hv : ref23_Box_There.vc b h R) : CallsH Try.prog F.ref23_Box_There #[.pointer (some ⟨b, 0, none⟩)] h R :=
  callsH_of_body _ Try.func32 rfl rfl (Eq.mp (ref23_Box_There.den_eq b h R) hv)

def ref23_Box_Counts.vc (b : Nat) (h : Heap) (R : Value → Heap → Prop) : Prop :=
  NewP h (.cells #[.int .i64 0, .int .i64 0, .int .i64 0, .int .i64 0, .int .i64 0] T.a5_int) fun b_1 h_1 =>
  ∃ (t8_p : Option Addr) (t8_l t8_c : Nat), hcell h_1 ⟨b, 0, none⟩ = some (.slice t8_p t8_l t8_c) ∧
  NewP h_1 (.cells #[.int .i64 0, .int .i64 0, .int .i64 0, .int .i64 0, .int .i64 0] T.a5_int) fun b_2 h_2 =>
  StoreP h_2 ⟨b_2, 0, none⟩ (.int .i64 ((t8_l : Nat) : Int)) fun h_3 =>
  StoreP h_3 ⟨b_2, 1, none⟩ (.int .i64 0) fun h_4 =>
  StoreP h_4 ⟨b_2, 2, none⟩ (.int .i64 0) fun h_5 =>
  StoreP h_5 ⟨b_2, 3, none⟩ (.int .i64 0) fun h_6 =>
  StoreP h_6 ⟨b_2, 4, none⟩ (.int .i64 0) fun h_7 =>
  ∃ (I : Int → Heap → Prop) (mu : Int → Heap → Nat), I 0 h_7 ∧ ∀ (i : Int) (h_8 : Heap), I i h_8 →
    ∃ (t15_p : Option Addr) (t15_l t15_c : Nat), hcell h_8 ⟨b, 0, none⟩ = some (.slice t15_p t15_l t15_c) ∧
    if (decide (i < ((t15_l : Nat) : Int))) = true then
      ∃ (t23_p : Option Addr) (t23_l t23_c : Nat), hcell h_8 ⟨b, 0, none⟩ = some (.slice t23_p t23_l t23_c) ∧
      ((0 : Int) ≤ i ∧ i < ((t23_l : Nat) : Int)) ∧
      onSome t23_p fun a =>
      ∃ (t27 : Int), hcell h_8 ((a.add (Int.toNat i * 5)).add 4) = some (.int .i64 t27) ∧
      ((0 : Int) ≤ t27 ∧ t27 < ((5 : Nat) : Int)) ∧
      ∃ (t29 : Int), hcell h_8 ((⟨b_2, 0, none⟩ : Addr).add (Int.toNat t27 * 1)) = some (.int .i64 t29) ∧
      ((0 : Int) ≤ t27 ∧ t27 < ((5 : Nat) : Int)) ∧
      StoreP h_8 ((⟨b_2, 0, none⟩ : Addr).add (Int.toNat t27 * 1)) (.int .i64 (IntKind.wrap .i64 (t29 + 1))) fun h_9 =>
      (I (IntKind.wrap .i64 (i + 1)) h_9 ∧ mu (IntKind.wrap .i64 (i + 1)) h_9 < mu i h_8)
    else
      ∃ (t32_0 : Int), hcell h_8 ⟨b_2, 0, none⟩ = some (.int .i64 t32_0) ∧ ∃ (t32_1 : Int), hcell h_8 ⟨b_2, 1, none⟩ = some (.int .i64 t32_1) ∧ ∃ (t32_2 : Int), hcell h_8 ⟨b_2, 2, none⟩ = some (.int .i64 t32_2) ∧ ∃ (t32_3 : Int), hcell h_8 ⟨b_2, 3, none⟩ = some (.int .i64 t32_3) ∧ ∃ (t32_4 : Int), hcell h_8 ⟨b_2, 4, none⟩ = some (.int .i64 t32_4) ∧ 
      StoreP h_8 ⟨b_1, 0, none⟩ (.int .i64 t32_0) fun h_10 =>
      StoreP h_10 ⟨b_1, 1, none⟩ (.int .i64 t32_1) fun h_11 =>
      StoreP h_11 ⟨b_1, 2, none⟩ (.int .i64 t32_2) fun h_12 =>
      StoreP h_12 ⟨b_1, 3, none⟩ (.int .i64 t32_3) fun h_13 =>
      StoreP h_13 ⟨b_1, 4, none⟩ (.int .i64 t32_4) fun h_14 =>
      ∃ (r_0 : Int), hcell h_14 ⟨b_1, 0, none⟩ = some (.int .i64 r_0) ∧ ∃ (r_1 : Int), hcell h_14 ⟨b_1, 1, none⟩ = some (.int .i64 r_1) ∧ ∃ (r_2 : Int), hcell h_14 ⟨b_1, 2, none⟩ = some (.int .i64 r_2) ∧ ∃ (r_3 : Int), hcell h_14 ⟨b_1, 3, none⟩ = some (.int .i64 r_3) ∧ ∃ (r_4 : Int), hcell h_14 ⟨b_1, 4, none⟩ = some (.int .i64 r_4) ∧ 
      R (.agg #[.int .i64 r_0, .int .i64 r_1, .int .i64 r_2, .int .i64 r_3, .int .i64 r_4]) h_14
theorem ref23_Box_Counts.den_eq (b : Nat) (h : Heap) (R : Value → Heap → Prop) : ref23_Box_Counts.vc b h R = den Try.prog Try.f33.ntmps (.seq .leaf (.seq .leaf (.seq (.seq .leaf (.block (.loop [(4, .one (.int .i64))] (.seq (.seq .leaf (.cond .leaf .leaf)) (.seq (.block .leaf) .leaf))))) (.seq .leaf .leaf)))) none (bodyOf Try.f33) (retK Try.prog Try.f33.results R) (argEnv [.pointer (some ⟨b, 0, none⟩)]) h := by kernel_rfl
theorem ref23_Box_Counts.walk {b : Nat} {h : Heap} {R : Value → Heap → Prop} (hv : ref23_Box_Counts.vc b h R) : CallsH Try.prog F.ref23_Box_Counts #[.pointer (some ⟨b, 0, none⟩)] h R :=
  callsH_of_body _ Try.func33 rfl rfl (Eq.mp (ref23_Box_Counts.den_eq b h R) hv)

def ref23_Box_Add.vc (b : Nat) (owner : Int) (data_p : Option Addr) (data_l data_c : Nat) (v_until : Int) (h : Heap) (R : Value → Heap → Prop) : Prop :=
  JoinP (fun (t30 : Bool) (h_1 : Heap) =>
    if t30 = true then
      R (.tuple #[.int .i64 0, .int .i64 1]) h_1
    else
      CallsH Try.prog F.ref23_Box_There #[.pointer (some ⟨b, 0, none⟩)] h_1 fun v h_2 =>
      ∃ (t32_p : Option Addr) (t32_l t32_c : Nat), v = .slice t32_p t32_l t32_c ∧
      if (decide (((t32_l : Nat) : Int) ≥ 16)) = true then
        R (.tuple #[.int .i64 0, .int .i64 15]) h_2
      else
        ∃ (t38_p : Option Addr) (t38_l t38_c : Nat), hcell h_2 ⟨b, 0, none⟩ = some (.slice t38_p t38_l t38_c) ∧
        NewP h_2 (.cells #[.int .i64 0, .int .i64 0, .slice none 0 0, .int .u64 0, .int .i64 0] T.ref23_Item) fun b_1 h_3 =>
        StoreP h_3 ⟨b_1, 0, none⟩ (.int .i64 (IntKind.wrap .i64 (((t38_l : Nat) : Int) + 1))) fun h_4 =>
        StoreP h_4 ⟨b_1, 1, none⟩ (.int .i64 owner) fun h_5 =>
        StoreP h_5 ⟨b_1, 2, none⟩ (.slice none 0 0) fun h_6 =>
        StoreP h_6 ⟨b_1, 3, none⟩ (.int .u64 v_until) fun h_7 =>
        StoreP h_7 ⟨b_1, 4, none⟩ (.int .i64 1) fun h_8 =>
        ∃ (t45_p : Option Addr) (t45_l t45_c : Nat), hcell h_8 ⟨b_1, 2, none⟩ = some (.slice t45_p t45_l t45_c) ∧
        denSem Try.prog (Builtin.append_ #[T.s_uint8, T.s_uint8] T.s_uint8 #[.slice t45_p t45_l t45_c, .slice data_p data_l data_c]) h_8 fun v_1 h_9 =>
        ∃ (t47_p : Option Addr) (t47_l t47_c : Nat), v_1 = .slice t47_p t47_l t47_c ∧
        StoreP h_9 ⟨b_1, 2, none⟩ (.slice t47_p t47_l t47_c) fun h_10 =>
        ∃ (t53_p : Option Addr) (t53_l t53_c : Nat), hcell h_10 ⟨b, 0, none⟩ = some (.slice t53_p t53_l t53_c) ∧
        ∃ (t54_0 : Int), hcell h_10 ⟨b_1, 0, none⟩ = some (.int .i64 t54_0) ∧ ∃ (t54_1 : Int), hcell h_10 ⟨b_1, 1, none⟩ = some (.int .i64 t54_1) ∧ ∃ (t54_2_p : Option Addr) (t54_2_l t54_2_c : Nat), hcell h_10 ⟨b_1, 2, none⟩ = some (.slice t54_2_p t54_2_l t54_2_c) ∧ ∃ (t54_3 : Int), hcell h_10 ⟨b_1, 3, none⟩ = some (.int .u64 t54_3) ∧ ∃ (t54_4 : Int), hcell h_10 ⟨b_1, 4, none⟩ = some (.int .i64 t54_4) ∧ 
        NewP h_10 (.cells #[.int .i64 t54_0, .int .i64 t54_1, .slice t54_2_p t54_2_l t54_2_c, .int .u64 t54_3, .int .i64 t54_4] T.ref23_Item) fun b_2 h_11 =>
        hcell h_11 ⟨b, 0, none⟩ = some (.slice t53_p t53_l t53_c) ∧
        denSem Try.prog (Builtin.append_ #[T.s_ref23_Item, T.s_ref23_Item] T.s_ref23_Item #[.slice t53_p t53_l t53_c, .slice (some ⟨b_2, 0, none⟩) 1 1]) h_11 fun v_2 h_12 =>
        ∃ (t56_p : Option Addr) (t56_l t56_c : Nat), v_2 = .slice t56_p t56_l t56_c ∧
        StoreP h_12 ⟨b, 0, none⟩ (.slice t56_p t56_l t56_c) fun h_13 =>
        ∃ (t60 : Int), hcell h_13 ⟨b_1, 0, none⟩ = some (.int .i64 t60) ∧
        R (.tuple #[.int .i64 t60, .int .i64 0]) h_13)
  (fun J =>
    if (decide (owner < 1)) = true then
      J true h
    else
      if (decide (owner > 1099511627776)) = true then
        J true h
      else
        if (decide (((data_l : Nat) : Int) < 1)) = true then
          J true h
        else
          if (decide (((data_l : Nat) : Int) > 600)) = true then
            J true h
          else
            J (decide (v_until > 1099511627776)) h)
theorem ref23_Box_Add.den_eq (b : Nat) (owner : Int) (data_p : Option Addr) (data_l data_c : Nat) (v_until : Int) (h : Heap) (R : Value → Heap → Prop) : ref23_Box_Add.vc b owner data_p data_l data_c v_until h R = den Try.prog Try.f12.ntmps (.seq .leaf (.seq (.seq (.join [(30, .one (.bool))] .leaf) (.cond (.seq .leaf .leaf) .leaf)) (.seq (.seq .leaf (.cond (.seq .leaf .leaf) .leaf)) (.seq .leaf (.seq .leaf (.seq (.plan (.op 0 (.op 1 (.op 2 (.op 3 (.op 4 (.op 5 (.op 6 (.op 7 (.op 8 (.op 9 (.op 10 .done)))))))))))) (.seq .leaf .leaf))))))) none (bodyOf Try.f12) (retK Try.prog Try.f12.results R) (argEnv [.pointer (some ⟨b, 0, none⟩), .int .i64 owner, .slice data_p data_l data_c, .int .u64 v_until]) h := by kernel_rfl
theorem ref23_Box_Add.walk {b : Nat} {owner : Int} {data_p : Option Addr} {data_l data_c : Nat} {v_until : Int} {h : Heap} {R : Value → Heap → Prop} (hv : ref23_Box_Add.vc b owner data_p data_l data_c v_until h R) : CallsH Try.prog F.ref23_Box_Add #[.pointer (some ⟨b, 0, none⟩), .int .i64 owner, .slice data_p data_l data_c, .int .u64 v_until] h R :=
  callsH_of_body _ Try.func12 rfl rfl (Eq.mp (ref23_Box_Add.den_eq b owner data_p data_l data_c v_until h R) hv)

def ref23_Box_Cancel.vc (b : Nat) (num : Int) (owner : Int) (h : Heap) (R : Value → Heap → Prop) : Prop :=
  JoinP (fun (t29 : Bool) (h_1 : Heap) =>
    if t29 = true then
      R (.int .i64 4) h_1
    else
      ∃ (t33_p : Option Addr) (t33_l t33_c : Nat), hcell h_1 ⟨b, 0, none⟩ = some (.slice t33_p t33_l t33_c) ∧
      ((0 : Int) ≤ IntKind.wrap .i64 (num - 1) ∧ IntKind.wrap .i64 (num - 1) < ((t33_l : Nat) : Int)) ∧
      onSome t33_p fun a =>
      ∃ (t38 : Int), hcell h_1 ((a.add (Int.toNat (IntKind.wrap .i64 (num - 1)) * 5)).add 1) = some (.int .i64 t38) ∧
      if (t38 != owner) = true then
        R (.int .i64 13) h_1
      else
        ∃ (t44_p : Option Addr) (t44_l t44_c : Nat), hcell h_1 ⟨b, 0, none⟩ = some (.slice t44_p t44_l t44_c) ∧
        ((0 : Int) ≤ IntKind.wrap .i64 (num - 1) ∧ IntKind.wrap .i64 (num - 1) < ((t44_l : Nat) : Int)) ∧
        onSome t44_p fun a_1 =>
        StoreP h_1 ((a_1.add (Int.toNat (IntKind.wrap .i64 (num - 1)) * 5)).add 4) (.int .i64 3) fun h_2 =>
        R (.int .i64 0) h_2)
  (fun J =>
    if (decide (num < 1)) = true then
      J true h
    else
      ∃ (t14_p : Option Addr) (t14_l t14_c : Nat), hcell h ⟨b, 0, none⟩ = some (.slice t14_p t14_l t14_c) ∧
      if (decide (num > ((t14_l : Nat) : Int))) = true then
        J true h
      else
        ∃ (t22_p : Option Addr) (t22_l t22_c : Nat), hcell h ⟨b, 0, none⟩ = some (.slice t22_p t22_l t22_c) ∧
        ((0 : Int) ≤ IntKind.wrap .i64 (num - 1) ∧ IntKind.wrap .i64 (num - 1) < ((t22_l : Nat) : Int)) ∧
        onSome t22_p fun a_2 =>
        ∃ (t27 : Int), hcell h ((a_2.add (Int.toNat (IntKind.wrap .i64 (num - 1)) * 5)).add 4) = some (.int .i64 t27) ∧
        J (t27 != 1) h)
theorem ref23_Box_Cancel.den_eq (b : Nat) (num : Int) (owner : Int) (h : Heap) (R : Value → Heap → Prop) : ref23_Box_Cancel.vc b num owner h R = den Try.prog Try.f13.ntmps (.seq .leaf (.seq (.seq (.join [(29, .one (.bool))] .leaf) (.cond (.seq .leaf .leaf) .leaf)) (.seq (.seq .leaf (.cond (.seq .leaf .leaf) .leaf)) (.seq .leaf (.seq .leaf .leaf))))) none (bodyOf Try.f13) (retK Try.prog Try.f13.results R) (argEnv [.pointer (some ⟨b, 0, none⟩), .int .i64 num, .int .i64 owner]) h := by kernel_rfl
theorem ref23_Box_Cancel.walk {b : Nat} {num : Int} {owner : Int} {h : Heap} {R : Value → Heap → Prop} (hv : ref23_Box_Cancel.vc b num owner h R) : CallsH Try.prog F.ref23_Box_Cancel #[.pointer (some ⟨b, 0, none⟩), .int .i64 num, .int .i64 owner] h R :=
  callsH_of_body _ Try.func13 rfl rfl (Eq.mp (ref23_Box_Cancel.den_eq b num owner h R) hv)

def ref23_Box_Take.vc (b : Nat) (h : Heap) (R : Value → Heap → Prop) : Prop :=
  ∃ (I : Int → Heap → Prop) (mu : Int → Heap → Nat), I 0 h ∧ ∀ (i : Int) (h_1 : Heap), I i h_1 →
    ∃ (t8_p : Option Addr) (t8_l t8_c : Nat), hcell h_1 ⟨b, 0, none⟩ = some (.slice t8_p t8_l t8_c) ∧
    if (decide (i < ((t8_l : Nat) : Int))) = true then
      ∃ (t16_p : Option Addr) (t16_l t16_c : Nat), hcell h_1 ⟨b, 0, none⟩ = some (.slice t16_p t16_l t16_c) ∧
      ((0 : Int) ≤ i ∧ i < ((t16_l : Nat) : Int)) ∧
      onSome t16_p fun a =>
      ∃ (t20 : Int), hcell h_1 ((a.add (Int.toNat i * 5)).add 4) = some (.int .i64 t20) ∧
      if (t20 == 1) = true then
        ∃ (t25_p : Option Addr) (t25_l t25_c : Nat), hcell h_1 ⟨b, 0, none⟩ = some (.slice t25_p t25_l t25_c) ∧
        ((0 : Int) ≤ i ∧ i < ((t25_l : Nat) : Int)) ∧
        onSome t25_p fun a_1 =>
        StoreP h_1 ((a_1.add (Int.toNat i * 5)).add 4) (.int .i64 2) fun h_2 =>
        R (.int .i64 i) h_2
      else
        (I (IntKind.wrap .i64 (i + 1)) h_1 ∧ mu (IntKind.wrap .i64 (i + 1)) h_1 < mu i h_1)
    else
      R (.int .i64 (-1)) h_1
theorem ref23_Box_Take.den_eq (b : Nat) (h : Heap) (R : Value → Heap → Prop) : ref23_Box_Take.vc b h R = den Try.prog Try.f14.ntmps (.seq .leaf (.seq (.seq .leaf (.block (.loop [(3, .one (.int .i64))] (.seq (.seq .leaf (.cond .leaf .leaf)) (.seq (.block (.seq .leaf (.cond (.seq .leaf (.seq .leaf .leaf)) .leaf))) .leaf))))) (.seq .leaf .leaf))) none (bodyOf Try.f14) (retK Try.prog Try.f14.results R) (argEnv [.pointer (some ⟨b, 0, none⟩)]) h := by kernel_rfl
theorem ref23_Box_Take.walk {b : Nat} {h : Heap} {R : Value → Heap → Prop} (hv : ref23_Box_Take.vc b h R) : CallsH Try.prog F.ref23_Box_Take #[.pointer (some ⟨b, 0, none⟩)] h R :=
  callsH_of_body _ Try.func14 rfl rfl (Eq.mp (ref23_Box_Take.den_eq b h R) hv)

def ref23_Box_Pass.vc (b : Nat) (now : Int) (h : Heap) (R : Value → Heap → Prop) : Prop :=
  ∃ (I : Option Addr → Nat → Nat → Heap → Prop) (mu : Option Addr → Nat → Nat → Heap → Nat), I none 0 0 h ∧ ∀ (out_p : Option Addr) (out_l out_c : Nat) (h_1 : Heap), I out_p out_l out_c h_1 →
    ∃ (I_1 : Int → Int → Heap → Prop) (mu_1 : Int → Int → Heap → Nat), I_1 (-1) 0 h_1 ∧ ∀ (best : Int) (i : Int) (h_2 : Heap), I_1 best i h_2 →
      ∃ (t12_p : Option Addr) (t12_l t12_c : Nat), hcell h_2 ⟨b, 0, none⟩ = some (.slice t12_p t12_l t12_c) ∧
      if (decide (i < ((t12_l : Nat) : Int))) = true then
        JoinP (fun (best_1 : Int) (h_3 : Heap) =>
          (I_1 best_1 (IntKind.wrap .i64 (i + 1)) h_3 ∧ mu_1 best_1 (IntKind.wrap .i64 (i + 1)) h_3 < mu_1 best i h_2))
        (fun J =>
          JoinP (fun (t60 : Bool) (h_4 : Heap) =>
            JoinP (fun (best_2 : Int) (h_5 : Heap) =>
              J best_2 h_5)
            (fun J_2 =>
              if t60 = true then
                J_2 i h_4
              else
                J_2 best h_4))
          (fun J_1 =>
            ∃ (t20_p : Option Addr) (t20_l t20_c : Nat), hcell h_2 ⟨b, 0, none⟩ = some (.slice t20_p t20_l t20_c) ∧
            ((0 : Int) ≤ i ∧ i < ((t20_l : Nat) : Int)) ∧
            onSome t20_p fun a =>
            ∃ (t24 : Int), hcell h_2 ((a.add (Int.toNat i * 5)).add 4) = some (.int .i64 t24) ∧
            if (t24 == 1) = true then
              ∃ (t30_p : Option Addr) (t30_l t30_c : Nat), hcell h_2 ⟨b, 0, none⟩ = some (.slice t30_p t30_l t30_c) ∧
              ((0 : Int) ≤ i ∧ i < ((t30_l : Nat) : Int)) ∧
              onSome t30_p fun a_1 =>
              ∃ (t34 : Int), hcell h_2 ((a_1.add (Int.toNat i * 5)).add 3) = some (.int .u64 t34) ∧
              if (decide (t34 ≤ now)) = true then
                if (decide (best < 0)) = true then
                  J_1 true h_2
                else
                  ∃ (t45_p : Option Addr) (t45_l t45_c : Nat), hcell h_2 ⟨b, 0, none⟩ = some (.slice t45_p t45_l t45_c) ∧
                  ((0 : Int) ≤ i ∧ i < ((t45_l : Nat) : Int)) ∧
                  onSome t45_p fun a_2 =>
                  ∃ (t49 : Int), hcell h_2 ((a_2.add (Int.toNat i * 5)).add 3) = some (.int .u64 t49) ∧
                  ∃ (t53_p : Option Addr) (t53_l t53_c : Nat), hcell h_2 ⟨b, 0, none⟩ = some (.slice t53_p t53_l t53_c) ∧
                  ((0 : Int) ≤ best ∧ best < ((t53_l : Nat) : Int)) ∧
                  onSome t53_p fun a_3 =>
                  ∃ (t57 : Int), hcell h_2 ((a_3.add (Int.toNat best * 5)).add 3) = some (.int .u64 t57) ∧
                  J_1 (decide (t49 < t57)) h_2
              else
                J_1 false h_2
            else
              J_1 false h_2))
      else
        if (decide (best < 0)) = true then
          R (.slice out_p out_l out_c) h_2
        else
          NewP h_2 (.cells #[.int .i64 best] T.int) fun b_1 h_6 =>
          denSem Try.prog (Builtin.append_ #[T.s_int, T.s_int] T.s_int #[.slice out_p out_l out_c, .slice (some ⟨b_1, 0, none⟩) 1 1]) h_6 fun v h_7 =>
          ∃ (t68_p : Option Addr) (t68_l t68_c : Nat), v = .slice t68_p t68_l t68_c ∧
          ∃ (t72_p : Option Addr) (t72_l t72_c : Nat), hcell h_7 ⟨b, 0, none⟩ = some (.slice t72_p t72_l t72_c) ∧
          ((0 : Int) ≤ best ∧ best < ((t72_l : Nat) : Int)) ∧
          onSome t72_p fun a_4 =>
          StoreP h_7 ((a_4.add (Int.toNat best * 5)).add 4) (.int .i64 4) fun h_8 =>
          (I t68_p t68_l t68_c h_8 ∧ mu t68_p t68_l t68_c h_8 < mu out_p out_l out_c h_1)
theorem ref23_Box_Pass.den_eq (b : Nat) (now : Int) (h : Heap) (R : Value → Heap → Prop) : ref23_Box_Pass.vc b now h R = den Try.prog Try.f16.ntmps (.seq .leaf (.seq .leaf (.block (.loop [(5, .one (.slice))] (.block (.seq .leaf (.seq (.seq .leaf (.block (.loop [(6, .one (.int .i64)), (7, .one (.int .i64))] (.seq (.seq .leaf (.cond .leaf .leaf)) (.seq (.join [(6, .one (.int .i64))] (.block (.seq (.join [(60, .one (.bool))] (.plan (.op 0 (.op 1 (.op 2 (.op 3 (.op 4 (.op 5 (.op 6 (.op 7 (.op 8 (.op 9 (.op 10 (.op 11 (.op 12 (.op 13 (.op 14 (.op 15 (.op 16 (.op 17 (.op 18 (.op 19 (.op 20 (.op 21 (.op 22 (.op 23 (.op 24 (.op 25 (.op 26 (.op 27 (.op 28 (.op 29 (.op 30 (.op 31 (.op 32 (.op 33 (.op 34 (.op 35 (.op 36 (.op 37 (.op 38 (.op 39 (.op 40 (.op 41 (.op 42 (.op 43 .done)))))))))))))))))))))))))))))))))))))))))))))) (.join [(6, .one (.int .i64))] (.cond .leaf .leaf))))) .leaf))))) (.seq (.seq .leaf (.cond (.seq .leaf .leaf) .leaf)) (.seq .leaf .leaf))))))))) none (bodyOf Try.f16) (retK Try.prog Try.f16.results R) (argEnv [.pointer (some ⟨b, 0, none⟩), .int .u64 now]) h := by kernel_rfl
theorem ref23_Box_Pass.walk {b : Nat} {now : Int} {h : Heap} {R : Value → Heap → Prop} (hv : ref23_Box_Pass.vc b now h R) : CallsH Try.prog F.ref23_Box_Pass #[.pointer (some ⟨b, 0, none⟩), .int .u64 now] h R :=
  callsH_of_body _ Try.func16 rfl rfl (Eq.mp (ref23_Box_Pass.den_eq b now h R) hv)

def ref23_Box_Save.vc (b : Nat) (h : Heap) (R : Value → Heap → Prop) : Prop :=
  CallsH Try.prog F.ref23_Box_Counts #[.pointer (some ⟨b, 0, none⟩)] h fun v h_1 =>
  ∃ (t12_0 : Int), ∃ (t12_1 : Int), ∃ (t12_2 : Int), ∃ (t12_3 : Int), ∃ (t12_4 : Int), v = .agg #[.int .i64 t12_0, .int .i64 t12_1, .int .i64 t12_2, .int .i64 t12_3, .int .i64 t12_4] ∧
  NewP h_1 (.cells #[.int .i64 0, .int .i64 0, .int .i64 0, .int .i64 0, .int .i64 0] T.a5_int) fun b_1 h_2 =>
  StoreP h_2 ⟨b_1, 0, none⟩ (.int .i64 t12_0) fun h_3 =>
  StoreP h_3 ⟨b_1, 1, none⟩ (.int .i64 t12_1) fun h_4 =>
  StoreP h_4 ⟨b_1, 2, none⟩ (.int .i64 t12_2) fun h_5 =>
  StoreP h_5 ⟨b_1, 3, none⟩ (.int .i64 t12_3) fun h_6 =>
  StoreP h_6 ⟨b_1, 4, none⟩ (.int .i64 t12_4) fun h_7 =>
  CallsH Try.prog F.ref23_Box_There #[.pointer (some ⟨b, 0, none⟩)] h_7 fun v_1 h_8 =>
  ∃ (t14_p : Option Addr) (t14_l t14_c : Nat), v_1 = .slice t14_p t14_l t14_c ∧
  ∃ (t18_p : Option Addr) (t18_l t18_c : Nat), hcell h_8 ⟨b, 0, none⟩ = some (.slice t18_p t18_l t18_c) ∧
  ((0 : Int) ≤ 2 ∧ 2 < ((5 : Nat) : Int)) ∧
  ∃ (t22 : Int), hcell h_8 ((⟨b_1, 0, none⟩ : Addr).add (Int.toNat 2 * 1)) = some (.int .i64 t22) ∧
  ((0 : Int) ≤ 3 ∧ 3 < ((5 : Nat) : Int)) ∧
  ∃ (t24 : Int), hcell h_8 ((⟨b_1, 0, none⟩ : Addr).add (Int.toNat 3 * 1)) = some (.int .i64 t24) ∧
  ((0 : Int) ≤ 4 ∧ 4 < ((5 : Nat) : Int)) ∧
  ∃ (t26 : Int), hcell h_8 ((⟨b_1, 0, none⟩ : Addr).add (Int.toNat 4 * 1)) = some (.int .i64 t26) ∧
  NewP h_8 (.cells #[.int .i64 (IntKind.wrap .i64 (((t18_l : Nat) : Int) + 1)), .int .i64 t22, .int .i64 t24, .int .i64 t26, .int .i64 ((t14_l : Nat) : Int)] T.int) fun b_2 h_9 =>
  hcell h_9 ⟨b, 0, none⟩ = some (.slice t18_p t18_l t18_c) ∧
  ∃ (I : Option Addr → Nat → Nat → Int → Heap → Prop) (mu : Option Addr → Nat → Nat → Int → Heap → Nat), I none 0 0 0 h_9 ∧ ∀ (head_p : Option Addr) (head_l head_c : Nat) (i : Int) (h_10 : Heap), I head_p head_l head_c i h_10 →
    if (decide (i < 5)) = true then
      ((0 : Int) ≤ i ∧ i < ((5 : Nat) : Int)) ∧
      ∃ (t38 : Int), hcell h_10 ((⟨b_2, 0, none⟩ : Addr).add (Int.toNat i * 1)) = some (.int .i64 t38) ∧
      CallsH Try.prog F.ref15_Num #[.int .u64 (IntKind.wrap .u64 t38)] h_10 fun v_2 h_11 =>
      ∃ (t40_p : Option Addr) (t40_l t40_c : Nat), v_2 = .slice t40_p t40_l t40_c ∧
      denSem Try.prog (Builtin.append_ #[T.s_uint8, T.s_uint8] T.s_uint8 #[.slice head_p head_l head_c, .slice t40_p t40_l t40_c]) h_11 fun v_3 h_12 =>
      ∃ (t41_p : Option Addr) (t41_l t41_c : Nat), v_3 = .slice t41_p t41_l t41_c ∧
      (I t41_p t41_l t41_c (IntKind.wrap .i64 (i + 1)) h_12 ∧ mu t41_p t41_l t41_c (IntKind.wrap .i64 (i + 1)) h_12 < mu head_p head_l head_c i h_10)
    else
      NewP h_10 (.cells #[.slice head_p head_l head_c] T.s_uint8) fun b_3 h_13 =>
      ∃ (I_1 : Option Addr → Nat → Nat → Int → Heap → Prop) (mu_1 : Option Addr → Nat → Nat → Int → Heap → Nat), I_1 (some ⟨b_3, 0, none⟩) 1 1 0 h_13 ∧ ∀ (out_p : Option Addr) (out_l out_c : Nat) (i_1 : Int) (h_14 : Heap), I_1 out_p out_l out_c i_1 h_14 →
        if (decide (i_1 < ((t14_l : Nat) : Int))) = true then
          ((0 : Int) ≤ i_1 ∧ i_1 < ((t14_l : Nat) : Int)) ∧
          onSome t14_p fun a =>
          ∃ (t54 : Int), hcell h_14 (a.add (Int.toNat i_1 * 5)) = some (.int .i64 t54) ∧
          CallsH Try.prog F.ref15_Num #[.int .u64 (IntKind.wrap .u64 t54)] h_14 fun v_4 h_15 =>
          ∃ (t56_p : Option Addr) (t56_l t56_c : Nat), v_4 = .slice t56_p t56_l t56_c ∧
          ((0 : Int) ≤ i_1 ∧ i_1 < ((t14_l : Nat) : Int)) ∧
          onSome t14_p fun a_1 =>
          ∃ (t62 : Int), hcell h_15 ((a_1.add (Int.toNat i_1 * 5)).add 1) = some (.int .i64 t62) ∧
          CallsH Try.prog F.ref15_Num #[.int .u64 (IntKind.wrap .u64 t62)] h_15 fun v_5 h_16 =>
          ∃ (t64_p : Option Addr) (t64_l t64_c : Nat), v_5 = .slice t64_p t64_l t64_c ∧
          denSem Try.prog (Builtin.append_ #[T.s_uint8, T.s_uint8] T.s_uint8 #[.slice t56_p t56_l t56_c, .slice t64_p t64_l t64_c]) h_16 fun v_6 h_17 =>
          ∃ (t65_p : Option Addr) (t65_l t65_c : Nat), v_6 = .slice t65_p t65_l t65_c ∧
          ((0 : Int) ≤ i_1 ∧ i_1 < ((t14_l : Nat) : Int)) ∧
          onSome t14_p fun a_2 =>
          ∃ (t71_p : Option Addr) (t71_l t71_c : Nat), hcell h_17 ((a_2.add (Int.toNat i_1 * 5)).add 2) = some (.slice t71_p t71_l t71_c) ∧
          CallsH Try.prog F.ref15_Text #[.slice t71_p t71_l t71_c] h_17 fun v_7 h_18 =>
          ∃ (t72_p : Option Addr) (t72_l t72_c : Nat), v_7 = .slice t72_p t72_l t72_c ∧
          denSem Try.prog (Builtin.append_ #[T.s_uint8, T.s_uint8] T.s_uint8 #[.slice t65_p t65_l t65_c, .slice t72_p t72_l t72_c]) h_18 fun v_8 h_19 =>
          ∃ (t73_p : Option Addr) (t73_l t73_c : Nat), v_8 = .slice t73_p t73_l t73_c ∧
          ((0 : Int) ≤ i_1 ∧ i_1 < ((t14_l : Nat) : Int)) ∧
          onSome t14_p fun a_3 =>
          ∃ (t80 : Int), hcell h_19 ((a_3.add (Int.toNat i_1 * 5)).add 3) = some (.int .u64 t80) ∧
          CallsH Try.prog F.ref15_Num #[.int .u64 t80] h_19 fun v_9 h_20 =>
          ∃ (t81_p : Option Addr) (t81_l t81_c : Nat), v_9 = .slice t81_p t81_l t81_c ∧
          denSem Try.prog (Builtin.append_ #[T.s_uint8, T.s_uint8] T.s_uint8 #[.slice t73_p t73_l t73_c, .slice t81_p t81_l t81_c]) h_20 fun v_10 h_21 =>
          ∃ (t82_p : Option Addr) (t82_l t82_c : Nat), v_10 = .slice t82_p t82_l t82_c ∧
          NewP h_21 (.cells #[.slice t82_p t82_l t82_c] T.s_uint8) fun b_4 h_22 =>
          denSem Try.prog (Builtin.append_ #[T.s_s_uint8, T.s_s_uint8] T.s_s_uint8 #[.slice out_p out_l out_c, .slice (some ⟨b_4, 0, none⟩) 1 1]) h_22 fun v_11 h_23 =>
          ∃ (t84_p : Option Addr) (t84_l t84_c : Nat), v_11 = .slice t84_p t84_l t84_c ∧
          (I_1 t84_p t84_l t84_c (IntKind.wrap .i64 (i_1 + 1)) h_23 ∧ mu_1 t84_p t84_l t84_c (IntKind.wrap .i64 (i_1 + 1)) h_23 < mu_1 out_p out_l out_c i_1 h_14)
        else
          R (.slice out_p out_l out_c) h_14
theorem ref23_Box_Save.den_eq (b : Nat) (h : Heap) (R : Value → Heap → Prop) : ref23_Box_Save.vc b h R = den Try.prog Try.f20.ntmps (.seq .leaf (.seq .leaf (.seq .leaf (.seq (.plan (.op 0 (.op 1 (.op 2 (.op 3 (.op 4 (.op 5 (.op 6 (.op 7 (.op 8 (.op 9 (.op 10 (.op 11 (.op 12 (.op 13 (.op 14 (.op 15 .done))))))))))))))))) (.seq .leaf (.seq (.seq .leaf (.block (.loop [(6, .one (.slice)), (7, .one (.int .i64))] (.seq (.seq .leaf (.cond .leaf .leaf)) (.seq (.block .leaf) .leaf))))) (.seq .leaf (.seq (.seq .leaf (.block (.loop [(8, .one (.slice)), (9, .one (.int .i64))] (.seq (.seq .leaf (.cond .leaf .leaf)) (.seq (.block (.seq .leaf (.seq .leaf (.seq .leaf .leaf)))) .leaf))))) (.seq .leaf .leaf))))))))) none (bodyOf Try.f20) (retK Try.prog Try.f20.results R) (argEnv [.pointer (some ⟨b, 0, none⟩)]) h := by kernel_rfl
theorem ref23_Box_Save.walk {b : Nat} {h : Heap} {R : Value → Heap → Prop} (hv : ref23_Box_Save.vc b h R) : CallsH Try.prog F.ref23_Box_Save #[.pointer (some ⟨b, 0, none⟩)] h R :=
  callsH_of_body _ Try.func20 rfl rfl (Eq.mp (ref23_Box_Save.den_eq b h R) hv)

def law23_same.vc (x_0 : Int) (x_1 : Int) (x_2_p : Option Addr) (x_2_l x_2_c : Nat) (x_3 : Int) (y_0 : Int) (y_1 : Int) (y_2_p : Option Addr) (y_2_l y_2_c : Nat) (y_3 : Int) (y_4 : Int) (h : Heap) (R : Value → Heap → Prop) : Prop :=
  NewP h (.cells #[.int .i64 x_0, .int .i64 x_1, .slice x_2_p x_2_l x_2_c, .int .u64 x_3] T.outbox_Item) fun b h_1 =>
  NewP h_1 (.cells #[.int .i64 y_0, .int .i64 y_1, .slice y_2_p y_2_l y_2_c, .int .u64 y_3, .int .i64 y_4] T.ref23_Item) fun b_1 h_2 =>
  ∃ (t6 : Int), hcell h_2 ⟨b, 0, none⟩ = some (.int .i64 t6) ∧
  ∃ (t8 : Int), hcell h_2 ⟨b_1, 0, none⟩ = some (.int .i64 t8) ∧
  if (t6 == t8) = true then
    ∃ (t12 : Int), hcell h_2 ⟨b, 1, none⟩ = some (.int .i64 t12) ∧
    ∃ (t14 : Int), hcell h_2 ⟨b_1, 1, none⟩ = some (.int .i64 t14) ∧
    if (t12 == t14) = true then
      ∃ (t19_p : Option Addr) (t19_l t19_c : Nat), hcell h_2 ⟨b, 2, none⟩ = some (.slice t19_p t19_l t19_c) ∧
      ∃ (t20 : ByteArray), ConvV Try.prog T.s_uint8 T.string (.slice t19_p t19_l t19_c) h_2 t20 ∧
      ∃ (t22_p : Option Addr) (t22_l t22_c : Nat), hcell h_2 ⟨b_1, 2, none⟩ = some (.slice t22_p t22_l t22_c) ∧
      ∃ (t23 : ByteArray), ConvV Try.prog T.s_uint8 T.string (.slice t22_p t22_l t22_c) h_2 t23 ∧
      if (t20.toList == t23.toList) = true then
        ∃ (t28 : Int), hcell h_2 ⟨b, 3, none⟩ = some (.int .u64 t28) ∧
        ∃ (t30 : Int), hcell h_2 ⟨b_1, 3, none⟩ = some (.int .u64 t30) ∧
        R (.bool (t28 == t30)) h_2
      else
        R (.bool false) h_2
    else
      R (.bool false) h_2
  else
    R (.bool false) h_2
theorem law23_same.den_eq (x_0 : Int) (x_1 : Int) (x_2_p : Option Addr) (x_2_l x_2_c : Nat) (x_3 : Int) (y_0 : Int) (y_1 : Int) (y_2_p : Option Addr) (y_2_l y_2_c : Nat) (y_3 : Int) (y_4 : Int) (h : Heap) (R : Value → Heap → Prop) : law23_same.vc x_0 x_1 x_2_p x_2_l x_2_c x_3 y_0 y_1 y_2_p y_2_l y_2_c y_3 y_4 h R = den Try.prog Try.f15.ntmps (.seq .leaf (.seq .leaf .leaf)) none (bodyOf Try.f15) (retK Try.prog Try.f15.results R) (argEnv [.agg #[.int .i64 x_0, .int .i64 x_1, .slice x_2_p x_2_l x_2_c, .int .u64 x_3], .agg #[.int .i64 y_0, .int .i64 y_1, .slice y_2_p y_2_l y_2_c, .int .u64 y_3, .int .i64 y_4]]) h := by kernel_rfl
theorem law23_same.walk {x_0 : Int} {x_1 : Int} {x_2_p : Option Addr} {x_2_l x_2_c : Nat} {x_3 : Int} {y_0 : Int} {y_1 : Int} {y_2_p : Option Addr} {y_2_l y_2_c : Nat} {y_3 : Int} {y_4 : Int} {h : Heap} {R : Value → Heap → Prop} (hv : law23_same.vc x_0 x_1 x_2_p x_2_l x_2_c x_3 y_0 y_1 y_2_p y_2_l y_2_c y_3 y_4 h R) : CallsH Try.prog F.law23_same #[.agg #[.int .i64 x_0, .int .i64 x_1, .slice x_2_p x_2_l x_2_c, .int .u64 x_3], .agg #[.int .i64 y_0, .int .i64 y_1, .slice y_2_p y_2_l y_2_c, .int .u64 y_3, .int .i64 y_4]] h R :=
  callsH_of_body _ Try.func15 rfl rfl (Eq.mp (law23_same.den_eq x_0 x_1 x_2_p x_2_l x_2_c x_3 y_0 y_1 y_2_p y_2_l y_2_c y_3 y_4 h R) hv)

def law23_Same.vc (b : Nat) (x : Nat) (h : Heap) (R : Value → Heap → Prop) : Prop :=
  CallsH Try.prog F.outbox_Box_All #[.pointer (some ⟨b, 0, none⟩)] h fun v h_1 =>
  ∃ (t9_p : Option Addr) (t9_l t9_c : Nat), v = .slice t9_p t9_l t9_c ∧
  CallsH Try.prog F.ref23_Box_There #[.pointer (some ⟨x, 0, none⟩)] h_1 fun v_1 h_2 =>
  ∃ (t11_p : Option Addr) (t11_l t11_c : Nat), v_1 = .slice t11_p t11_l t11_c ∧
  JoinP (fun (t23 : Bool) (h_3 : Heap) =>
    if t23 = true then
      R (.bool false) h_3
    else
      ∃ (I : Int → Heap → Prop) (mu : Int → Heap → Nat), I 0 h_3 ∧ ∀ (i : Int) (h_4 : Heap), I i h_4 →
        if (decide (i < ((t11_l : Nat) : Int))) = true then
          ((0 : Int) ≤ i ∧ i < ((t9_l : Nat) : Int)) ∧
          onSome t9_p fun a =>
          ∃ (t33_0 : Int), hcell h_4 (a.add (Int.toNat i * 4)) = some (.int .i64 t33_0) ∧ ∃ (t33_1 : Int), hcell h_4 ((a.add (Int.toNat i * 4)).add 1) = some (.int .i64 t33_1) ∧ ∃ (t33_2_p : Option Addr) (t33_2_l t33_2_c : Nat), hcell h_4 ((a.add (Int.toNat i * 4)).add 2) = some (.slice t33_2_p t33_2_l t33_2_c) ∧ ∃ (t33_3 : Int), hcell h_4 ((a.add (Int.toNat i * 4)).add 3) = some (.int .u64 t33_3) ∧ 
          ((0 : Int) ≤ i ∧ i < ((t11_l : Nat) : Int)) ∧
          onSome t11_p fun a_1 =>
          ∃ (t37_0 : Int), hcell h_4 (a_1.add (Int.toNat i * 5)) = some (.int .i64 t37_0) ∧ ∃ (t37_1 : Int), hcell h_4 ((a_1.add (Int.toNat i * 5)).add 1) = some (.int .i64 t37_1) ∧ ∃ (t37_2_p : Option Addr) (t37_2_l t37_2_c : Nat), hcell h_4 ((a_1.add (Int.toNat i * 5)).add 2) = some (.slice t37_2_p t37_2_l t37_2_c) ∧ ∃ (t37_3 : Int), hcell h_4 ((a_1.add (Int.toNat i * 5)).add 3) = some (.int .u64 t37_3) ∧ ∃ (t37_4 : Int), hcell h_4 ((a_1.add (Int.toNat i * 5)).add 4) = some (.int .i64 t37_4) ∧ 
          CallsH Try.prog F.law23_same #[.agg #[.int .i64 t33_0, .int .i64 t33_1, .slice t33_2_p t33_2_l t33_2_c, .int .u64 t33_3], .agg #[.int .i64 t37_0, .int .i64 t37_1, .slice t37_2_p t37_2_l t37_2_c, .int .u64 t37_3, .int .i64 t37_4]] h_4 fun v_2 h_5 =>
          ∃ (t38 : Bool), v_2 = .bool t38 ∧
          if (!t38) = true then
            R (.bool false) h_5
          else
            (I (IntKind.wrap .i64 (i + 1)) h_5 ∧ mu (IntKind.wrap .i64 (i + 1)) h_5 < mu i h_4)
        else
          R (.bool true) h_4)
  (fun J =>
    if (((t9_l : Nat) : Int) != ((t11_l : Nat) : Int)) = true then
      J true h_2
    else
      CallsH Try.prog F.outbox_Box_Counts #[.pointer (some ⟨b, 0, none⟩)] h_2 fun v_3 h_6 =>
      ∃ (t19_0 : Int), ∃ (t19_1 : Int), ∃ (t19_2 : Int), ∃ (t19_3 : Int), ∃ (t19_4 : Int), v_3 = .agg #[.int .i64 t19_0, .int .i64 t19_1, .int .i64 t19_2, .int .i64 t19_3, .int .i64 t19_4] ∧
      CallsH Try.prog F.ref23_Box_Counts #[.pointer (some ⟨x, 0, none⟩)] h_6 fun v_4 h_7 =>
      ∃ (t21_0 : Int), ∃ (t21_1 : Int), ∃ (t21_2 : Int), ∃ (t21_3 : Int), ∃ (t21_4 : Int), v_4 = .agg #[.int .i64 t21_0, .int .i64 t21_1, .int .i64 t21_2, .int .i64 t21_3, .int .i64 t21_4] ∧
      ∃ (eq : Bool), EqV Try.prog T.a5_int (.agg #[.int .i64 t19_0, .int .i64 t19_1, .int .i64 t19_2, .int .i64 t19_3, .int .i64 t19_4]) (.agg #[.int .i64 t21_0, .int .i64 t21_1, .int .i64 t21_2, .int .i64 t21_3, .int .i64 t21_4]) eq ∧
      J (!eq) h_7)
theorem law23_Same.den_eq (b : Nat) (x : Nat) (h : Heap) (R : Value → Heap → Prop) : law23_Same.vc b x h R = den Try.prog Try.f17.ntmps (.seq .leaf (.seq .leaf (.seq (.seq (.join [(23, .one (.bool))] .leaf) (.cond (.seq .leaf .leaf) .leaf)) (.seq (.seq .leaf (.block (.loop [(7, .one (.int .i64))] (.seq (.seq .leaf (.cond .leaf .leaf)) (.seq (.block (.seq (.plan (.op 0 (.op 1 (.op 2 (.op 3 (.op 4 (.op 5 (.op 6 (.op 7 (.op 8 (.op 9 .done))))))))))) (.cond (.seq .leaf .leaf) .leaf))) .leaf))))) (.seq .leaf .leaf))))) none (bodyOf Try.f17) (retK Try.prog Try.f17.results R) (argEnv [.pointer (some ⟨b, 0, none⟩), .pointer (some ⟨x, 0, none⟩)]) h := by kernel_rfl
theorem law23_Same.walk {b : Nat} {x : Nat} {h : Heap} {R : Value → Heap → Prop} (hv : law23_Same.vc b x h R) : CallsH Try.prog F.law23_Same #[.pointer (some ⟨b, 0, none⟩), .pointer (some ⟨x, 0, none⟩)] h R :=
  callsH_of_body _ Try.func17 rfl rfl (Eq.mp (law23_Same.den_eq b x h R) hv)

end Go.Proofs.Ytlonfpolnmiglaa
