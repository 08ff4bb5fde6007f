/-
  Printed by a program of this work (vc.py): the verification conditions of functions, and that each is enough for the call. No condition.
-/
import Derived.Test.YtcdmemcmmfgdlaaNames
set_option maxRecDepth 100000
set_option maxHeartbeats 4000000
namespace Go.Proofs.Ytcdmemcmmfgdlaa
open Go.Den
def ref20_Alarm_Find.vc (a : Nat) (key : Int) (h : Heap) (R : Value → Heap → Prop) : Prop :=
  ∃ (I : Int → Heap → Prop) (mu : Int → Heap → Nat), I 0 h ∧ ∀ (i : Int) (h_1 : Heap), I i h_1 →
    ∃ (t10_p : Option Addr) (t10_l t10_c : Nat), hcell h_1 ⟨a, 0, none⟩ = some (.slice t10_p t10_l t10_c) ∧
    if (decide (i < ((t10_l : Nat) : Int))) = true then
      ∃ (t18_p : Option Addr) (t18_l t18_c : Nat), hcell h_1 ⟨a, 0, none⟩ = some (.slice t18_p t18_l t18_c) ∧
      ((0 : Int) ≤ i ∧ i < ((t18_l : Nat) : Int)) ∧
      onSome t18_p fun a_1 =>
      ∃ (t22 : Int), hcell h_1 (a_1.add (Int.toNat i * 2)) = some (.int .i64 t22) ∧
      if (t22 == key) = true then
        R (.int .i64 i) h_1
      else
        (I (IntKind.wrap .i64 (i + 1)) h_1 ∧ mu (IntKind.wrap .i64 (i + 1)) h_1 < mu i h_1)
    else
      R (.int .i64 (-1)) h_1
theorem ref20_Alarm_Find.den_eq (a : Nat) (key : Int) (h : Heap) (R : Value → Heap → Prop) : ref20_Alarm_Find.vc a key h R = den Try.prog Try.f18.ntmps (.seq .leaf (.seq (.seq .leaf (.block (.loop [(5, .one (.int .i64))] (.seq (.seq .leaf (.cond .leaf .leaf)) (.seq (.block (.seq .leaf (.cond (.seq .leaf .leaf) .leaf))) .leaf))))) (.seq .leaf .leaf))) none (bodyOf Try.f18) (retK Try.prog Try.f18.results R) (argEnv [.pointer (some ⟨a, 0, none⟩), .int .i64 key]) h := by kernel_rfl
theorem ref20_Alarm_Find.walk {a : Nat} {key : Int} {h : Heap} {R : Value → Heap → Prop} (hv : ref20_Alarm_Find.vc a key h R) : CallsH Try.prog F.ref20_Alarm_Find #[.pointer (some ⟨a, 0, none⟩), .int .i64 key] h R :=
  callsH_of_body _ Try.func18 rfl rfl (Eq.mp (ref20_Alarm_Find.den_eq a key h R) hv)

def ref20_Alarm_Drop.vc (a : Nat) (key : Int) (h : Heap) (R : Value → Heap → Prop) : Prop :=
  CallsH Try.prog F.ref20_Alarm_Find #[.pointer (some ⟨a, 0, none⟩), .int .i64 key] h fun v h_1 =>
  ∃ (t9 : Int), v = .int .i64 t9 ∧
  if (decide (t9 < 0)) = true then
    R (.int .i64 4) h_1
  else
    ∃ (t16_p : Option Addr) (t16_l t16_c : Nat), hcell h_1 ⟨a, 0, none⟩ = some (.slice t16_p t16_l t16_c) ∧
    ((0 : Int) ≤ t9 ∧ t9 ≤ ((t16_c : Nat) : Int)) ∧ 
    denSem Try.prog (Builtin.append_ #[T.s_ref20_Entry, T.s_ref20_Entry] T.s_ref20_Entry #[.slice none 0 0, .slice (slBase t16_p t16_c 0 2) ((Int.toNat t9) - 0) (t16_c - 0)]) h_1 fun v_1 h_2 =>
    ∃ (t19_p : Option Addr) (t19_l t19_c : Nat), v_1 = .slice t19_p t19_l t19_c ∧
    ∃ (t25_p : Option Addr) (t25_l t25_c : Nat), hcell h_2 ⟨a, 0, none⟩ = some (.slice t25_p t25_l t25_c) ∧
    ((0 : Int) ≤ IntKind.wrap .i64 (t9 + 1) ∧ IntKind.wrap .i64 (t9 + 1) ≤ ((t25_l : Nat) : Int)) ∧ 
    denSem Try.prog (Builtin.append_ #[T.s_ref20_Entry, T.s_ref20_Entry] T.s_ref20_Entry #[.slice t19_p t19_l t19_c, .slice (slBase t25_p t25_c (Int.toNat (IntKind.wrap .i64 (t9 + 1))) 2) (t25_l - (Int.toNat (IntKind.wrap .i64 (t9 + 1)))) (t25_c - (Int.toNat (IntKind.wrap .i64 (t9 + 1))))]) h_2 fun v_2 h_3 =>
    ∃ (t29_p : Option Addr) (t29_l t29_c : Nat), v_2 = .slice t29_p t29_l t29_c ∧
    StoreP h_3 ⟨a, 0, none⟩ (.slice t29_p t29_l t29_c) fun h_4 =>
    R (.int .i64 0) h_4
theorem ref20_Alarm_Drop.den_eq (a : Nat) (key : Int) (h : Heap) (R : Value → Heap → Prop) : ref20_Alarm_Drop.vc a key h R = den Try.prog Try.f14.ntmps (.seq .leaf (.seq .leaf (.seq (.seq .leaf (.cond (.seq .leaf .leaf) .leaf)) (.seq .leaf (.seq .leaf (.seq .leaf (.seq .leaf .leaf))))))) none (bodyOf Try.f14) (retK Try.prog Try.f14.results R) (argEnv [.pointer (some ⟨a, 0, none⟩), .int .i64 key]) h := by kernel_rfl
theorem ref20_Alarm_Drop.walk {a : Nat} {key : Int} {h : Heap} {R : Value → Heap → Prop} (hv : ref20_Alarm_Drop.vc a key h R) : CallsH Try.prog F.ref20_Alarm_Drop #[.pointer (some ⟨a, 0, none⟩), .int .i64 key] h R :=
  callsH_of_body _ Try.func14 rfl rfl (Eq.mp (ref20_Alarm_Drop.den_eq a key h R) hv)

def ref20_Alarm_Set.vc (a : Nat) (key : Int) (v_at : Int) (h : Heap) (R : Value → Heap → Prop) : Prop :=
  JoinP (fun (t18 : Bool) (h_1 : Heap) =>
    if t18 = true then
      R (.int .i64 1) h_1
    else
      CallsH Try.prog F.ref20_Alarm_Drop #[.pointer (some ⟨a, 0, none⟩), .int .i64 key] h_1 fun v h_2 =>
      ∃ (t21 : Int), v = .int .i64 t21 ∧
      ∃ (I : Option Addr → Nat → Nat → Int → Heap → Prop) (mu : Option Addr → Nat → Nat → Int → Heap → Nat), I none 0 0 0 h_2 ∧ ∀ (l_p : Option Addr) (l_l l_c : Nat) (i : Int) (h_3 : Heap), I l_p l_l l_c i h_3 →
        JoinP (fun (t64 : Bool) (h_4 : Heap) =>
          if t64 = true then
            ∃ (t69_p : Option Addr) (t69_l t69_c : Nat), hcell h_4 ⟨a, 0, none⟩ = some (.slice t69_p t69_l t69_c) ∧
            ((0 : Int) ≤ i ∧ i < ((t69_l : Nat) : Int)) ∧
            onSome t69_p fun a_1 =>
            ∃ (t72_0 : Int), hcell h_4 (a_1.add (Int.toNat i * 2)) = some (.int .i64 t72_0) ∧ ∃ (t72_1 : Int), hcell h_4 ((a_1.add (Int.toNat i * 2)).add 1) = some (.int .u64 t72_1) ∧ 
            NewP h_4 (.cells #[.int .i64 t72_0, .int .u64 t72_1] T.ref20_Entry) fun b h_5 =>
            denSem Try.prog (Builtin.append_ #[T.s_ref20_Entry, T.s_ref20_Entry] T.s_ref20_Entry #[.slice l_p l_l l_c, .slice (some ⟨b, 0, none⟩) 1 1]) h_5 fun v_1 h_6 =>
            ∃ (t74_p : Option Addr) (t74_l t74_c : Nat), v_1 = .slice t74_p t74_l t74_c ∧
            (I t74_p t74_l t74_c (IntKind.wrap .i64 (i + 1)) h_6 ∧ mu t74_p t74_l t74_c (IntKind.wrap .i64 (i + 1)) h_6 < mu l_p l_l l_c i h_3)
          else
            NewP h_4 (.cells #[.int .i64 key, .int .u64 v_at] T.ref20_Entry) fun b_1 h_7 =>
            denSem Try.prog (Builtin.append_ #[T.s_ref20_Entry, T.s_ref20_Entry] T.s_ref20_Entry #[.slice l_p l_l l_c, .slice (some ⟨b_1, 0, none⟩) 1 1]) h_7 fun v_2 h_8 =>
            ∃ (t82_p : Option Addr) (t82_l t82_c : Nat), v_2 = .slice t82_p t82_l t82_c ∧
            ∃ (t88_p : Option Addr) (t88_l t88_c : Nat), hcell h_8 ⟨a, 0, none⟩ = some (.slice t88_p t88_l t88_c) ∧
            ((0 : Int) ≤ i ∧ i ≤ ((t88_l : Nat) : Int)) ∧ 
            denSem Try.prog (Builtin.append_ #[T.s_ref20_Entry, T.s_ref20_Entry] T.s_ref20_Entry #[.slice t82_p t82_l t82_c, .slice (slBase t88_p t88_c (Int.toNat i) 2) (t88_l - (Int.toNat i)) (t88_c - (Int.toNat i))]) h_8 fun v_3 h_9 =>
            ∃ (t91_p : Option Addr) (t91_l t91_c : Nat), v_3 = .slice t91_p t91_l t91_c ∧
            StoreP h_9 ⟨a, 0, none⟩ (.slice t91_p t91_l t91_c) fun h_10 =>
            R (.int .i64 0) h_10)
        (fun J_1 =>
          ∃ (t26_p : Option Addr) (t26_l t26_c : Nat), hcell h_3 ⟨a, 0, none⟩ = some (.slice t26_p t26_l t26_c) ∧
          if (decide (i < ((t26_l : Nat) : Int))) = true then
            ∃ (t33_p : Option Addr) (t33_l t33_c : Nat), hcell h_3 ⟨a, 0, none⟩ = some (.slice t33_p t33_l t33_c) ∧
            ((0 : Int) ≤ i ∧ i < ((t33_l : Nat) : Int)) ∧
            onSome t33_p fun a_2 =>
            ∃ (t37 : Int), hcell h_3 ((a_2.add (Int.toNat i * 2)).add 1) = some (.int .u64 t37) ∧
            if (decide (t37 < v_at)) = true then
              J_1 true h_3
            else
              ∃ (t44_p : Option Addr) (t44_l t44_c : Nat), hcell h_3 ⟨a, 0, none⟩ = some (.slice t44_p t44_l t44_c) ∧
              ((0 : Int) ≤ i ∧ i < ((t44_l : Nat) : Int)) ∧
              onSome t44_p fun a_3 =>
              ∃ (t48 : Int), hcell h_3 ((a_3.add (Int.toNat i * 2)).add 1) = some (.int .u64 t48) ∧
              if (t48 == v_at) = true then
                ∃ (t55_p : Option Addr) (t55_l t55_c : Nat), hcell h_3 ⟨a, 0, none⟩ = some (.slice t55_p t55_l t55_c) ∧
                ((0 : Int) ≤ i ∧ i < ((t55_l : Nat) : Int)) ∧
                onSome t55_p fun a_4 =>
                ∃ (t59 : Int), hcell h_3 (a_4.add (Int.toNat i * 2)) = some (.int .i64 t59) ∧
                J_1 (decide (t59 < key)) h_3
              else
                J_1 false h_3
          else
            J_1 false h_3))
  (fun J =>
    if (decide (key < 1)) = true then
      J true h
    else
      if (decide (key > 1099511627776)) = true then
        J true h
      else
        J (decide (v_at > 1099511627776)) h)
theorem ref20_Alarm_Set.den_eq (a : Nat) (key : Int) (v_at : Int) (h : Heap) (R : Value → Heap → Prop) : ref20_Alarm_Set.vc a key v_at h R = den Try.prog Try.f12.ntmps (.seq .leaf (.seq (.seq (.join [(18, .one (.bool))] .leaf) (.cond (.seq .leaf .leaf) .leaf)) (.seq .leaf (.seq .leaf (.seq .leaf (.seq (.block (.loop [(7, .one (.slice)), (8, .one (.int .i64))] (.seq (.seq (.join [(64, .one (.bool))] .leaf) (.cond .leaf .leaf)) (.block (.seq .leaf .leaf))))) (.seq .leaf (.seq .leaf (.seq .leaf .leaf))))))))) none (bodyOf Try.f12) (retK Try.prog Try.f12.results R) (argEnv [.pointer (some ⟨a, 0, none⟩), .int .i64 key, .int .u64 v_at]) h := by kernel_rfl
theorem ref20_Alarm_Set.walk {a : Nat} {key : Int} {v_at : Int} {h : Heap} {R : Value → Heap → Prop} (hv : ref20_Alarm_Set.vc a key v_at h R) : CallsH Try.prog F.ref20_Alarm_Set #[.pointer (some ⟨a, 0, none⟩), .int .i64 key, .int .u64 v_at] h R :=
  callsH_of_body _ Try.func12 rfl rfl (Eq.mp (ref20_Alarm_Set.den_eq a key v_at h R) hv)

def ref20_Alarm_Ring.vc (a : Nat) (now : Int) (h : Heap) (R : Value → Heap → Prop) : Prop :=
  ∃ (I : Option Addr → Nat → Nat → Heap → Prop) (mu : Option Addr → Nat → Nat → Heap → Nat), I none 0 0 h ∧ ∀ (out_p : Option Addr) (out_l out_c : Nat) (h_1 : Heap), I out_p out_l out_c h_1 →
    JoinP (fun (t22 : Bool) (h_2 : Heap) =>
      if t22 = true then
        ∃ (t27_p : Option Addr) (t27_l t27_c : Nat), hcell h_2 ⟨a, 0, none⟩ = some (.slice t27_p t27_l t27_c) ∧
        ((0 : Int) ≤ 0 ∧ 0 < ((t27_l : Nat) : Int)) ∧
        onSome t27_p fun a_1 =>
        ∃ (t30 : Int), hcell h_2 (a_1.add (Int.toNat 0 * 2)) = some (.int .i64 t30) ∧
        NewP h_2 (.cells #[.int .i64 t30] T.int) fun b h_3 =>
        denSem Try.prog (Builtin.append_ #[T.s_int, T.s_int] T.s_int #[.slice out_p out_l out_c, .slice (some ⟨b, 0, none⟩) 1 1]) h_3 fun v h_4 =>
        ∃ (t32_p : Option Addr) (t32_l t32_c : Nat), v = .slice t32_p t32_l t32_c ∧
        ∃ (t37_p : Option Addr) (t37_l t37_c : Nat), hcell h_4 ⟨a, 0, none⟩ = some (.slice t37_p t37_l t37_c) ∧
        ((0 : Int) ≤ 1 ∧ 1 ≤ ((t37_l : Nat) : Int)) ∧ 
        StoreP h_4 ⟨a, 0, none⟩ (.slice (slBase t37_p t37_c (Int.toNat 1) 2) (t37_l - (Int.toNat 1)) (t37_c - (Int.toNat 1))) fun h_5 =>
        (I t32_p t32_l t32_c h_5 ∧ mu t32_p t32_l t32_c h_5 < mu out_p out_l out_c h_1)
      else
        R (.slice out_p out_l out_c) h_2)
    (fun J =>
      ∃ (t9_p : Option Addr) (t9_l t9_c : Nat), hcell h_1 ⟨a, 0, none⟩ = some (.slice t9_p t9_l t9_c) ∧
      if (decide (((t9_l : Nat) : Int) > 0)) = true then
        ∃ (t16_p : Option Addr) (t16_l t16_c : Nat), hcell h_1 ⟨a, 0, none⟩ = some (.slice t16_p t16_l t16_c) ∧
        ((0 : Int) ≤ 0 ∧ 0 < ((t16_l : Nat) : Int)) ∧
        onSome t16_p fun a_2 =>
        ∃ (t19 : Int), hcell h_1 ((a_2.add (Int.toNat 0 * 2)).add 1) = some (.int .u64 t19) ∧
        J (decide (t19 ≤ now)) h_1
      else
        J false h_1)
theorem ref20_Alarm_Ring.den_eq (a : Nat) (now : Int) (h : Heap) (R : Value → Heap → Prop) : ref20_Alarm_Ring.vc a now h R = den Try.prog Try.f15.ntmps (.seq .leaf (.seq .leaf (.seq (.block (.loop [(5, .one (.slice))] (.seq (.seq (.join [(22, .one (.bool))] .leaf) (.cond .leaf .leaf)) (.block (.seq .leaf .leaf))))) (.seq .leaf .leaf)))) none (bodyOf Try.f15) (retK Try.prog Try.f15.results R) (argEnv [.pointer (some ⟨a, 0, none⟩), .int .u64 now]) h := by kernel_rfl
theorem ref20_Alarm_Ring.walk {a : Nat} {now : Int} {h : Heap} {R : Value → Heap → Prop} (hv : ref20_Alarm_Ring.vc a now h R) : CallsH Try.prog F.ref20_Alarm_Ring #[.pointer (some ⟨a, 0, none⟩), .int .u64 now] h R :=
  callsH_of_body _ Try.func15 rfl rfl (Eq.mp (ref20_Alarm_Ring.den_eq a now h R) hv)

end Go.Proofs.Ytcdmemcmmfgdlaa
