/-
  Printed by a program of this work (vc.py): the verification conditions of functions, and that each is enough for the call. No condition.
-/
import Derived.Test.YtlonfpolnmiglaaNames
set_option maxRecDepth 100000
set_option maxHeartbeats 4000000
namespace Go.Proofs.Ytlonfpolnmiglaa
open Go.Den
def slices_IndexFunc_s_outbox_Item_outbox_Item.find.vc (s_p : Option Addr) (s_l s_c : Nat) (f_c : Nat) (h : Heap) (R : Value → Heap → Prop) : Prop :=
  ∃ (I : Int → Heap → Prop) (mu : Int → Heap → Nat), I 0 h ∧ ∀ (t8 : Int) (h_1 : Heap), I t8 h_1 →
    if (decide (t8 < ((s_l : Nat) : Int))) = true then
      ((0 : Int) ≤ t8 ∧ t8 < ((s_l : Nat) : Int)) ∧
      onSome s_p fun a =>
      ∃ (t15_0 : Int), hcell h_1 (a.add (Int.toNat t8 * 4)) = some (.int .i64 t15_0) ∧ ∃ (t15_1 : Int), hcell h_1 ((a.add (Int.toNat t8 * 4)).add 1) = some (.int .i64 t15_1) ∧ ∃ (t15_2_p : Option Addr) (t15_2_l t15_2_c : Nat), hcell h_1 ((a.add (Int.toNat t8 * 4)).add 2) = some (.slice t15_2_p t15_2_l t15_2_c) ∧ ∃ (t15_3 : Int), hcell h_1 ((a.add (Int.toNat t8 * 4)).add 3) = some (.int .u64 t15_3) ∧ 
      CallsH Try.prog F.outbox_Box_find_1 #[.agg #[.int .i64 t15_0, .int .i64 t15_1, .slice t15_2_p t15_2_l t15_2_c, .int .u64 t15_3], .pointer (some ⟨f_c, 0, none⟩)] h_1 fun v h_2 =>
      ∃ (t16 : Bool), v = .bool t16 ∧
      if t16 = true then
        R (.int .i64 t8) h_2
      else
        (I (IntKind.wrap .i64 (t8 + 1)) h_2 ∧ mu (IntKind.wrap .i64 (t8 + 1)) h_2 < mu t8 h_1)
    else
      R (.int .i64 (-1)) h_1
theorem slices_IndexFunc_s_outbox_Item_outbox_Item.find.den_eq (s_p : Option Addr) (s_l s_c : Nat) (f_c : Nat) (h : Heap) (R : Value → Heap → Prop) : slices_IndexFunc_s_outbox_Item_outbox_Item.find.vc s_p s_l s_c f_c h R = den Try.prog Try.f53.ntmps (.seq .leaf (.seq (.seq .leaf (.block (.loop [(8, .one (.int .i64))] (.seq .leaf (.seq (.cond .leaf .leaf) (.seq (.block (.seq .leaf (.seq .leaf (.cond (.seq .leaf .leaf) .leaf)))) .leaf)))))) (.seq .leaf .leaf))) none (bodyOf Try.f53) (retK Try.prog Try.f53.results R) (argEnv [.slice s_p s_l s_c, .func (.func F.outbox_Box_find_1) #[] #[.pointer (some ⟨f_c, 0, none⟩)]]) h := by kernel_rfl
theorem slices_IndexFunc_s_outbox_Item_outbox_Item.find.walk {s_p : Option Addr} {s_l s_c : Nat} {f_c : Nat} {h : Heap} {R : Value → Heap → Prop} (hv : slices_IndexFunc_s_outbox_Item_outbox_Item.find.vc s_p s_l s_c f_c h R) : CallsH Try.prog F.slices_IndexFunc_s_outbox_Item_outbox_Item #[.slice s_p s_l s_c, .func (.func F.outbox_Box_find_1) #[] #[.pointer (some ⟨f_c, 0, none⟩)]] h R :=
  callsH_of_body _ Try.func53 rfl rfl (Eq.mp (slices_IndexFunc_s_outbox_Item_outbox_Item.find.den_eq s_p s_l s_c f_c h R) hv)

def slices_Concat_s_outbox_Item_outbox_Item.vc (slices_p : Option Addr) (slices_l slices_c : Nat) (h : Heap) (R : Value → Heap → Prop) : Prop :=
  ∃ (I : Int → Int → Heap → Prop) (mu : Int → Int → Heap → Nat), I 0 0 h ∧ ∀ (size : Int) (t11 : Int) (h_1 : Heap), I size t11 h_1 →
    if (decide (t11 < ((slices_l : Nat) : Int))) = true then
      JoinP (fun (size_1 : Int) (h_2 : Heap) =>
        (I size_1 (IntKind.wrap .i64 (t11 + 1)) h_2 ∧ mu size_1 (IntKind.wrap .i64 (t11 + 1)) h_2 < mu size t11 h_1))
      (fun J =>
        ((0 : Int) ≤ t11 ∧ t11 < ((slices_l : Nat) : Int)) ∧
        onSome slices_p fun a =>
        ∃ (t14_p : Option Addr) (t14_l t14_c : Nat), hcell h_1 (a.add (Int.toNat t11 * 1)) = some (.slice t14_p t14_l t14_c) ∧
        JoinP (fun (h_3 : Heap) =>
          J (IntKind.wrap .i64 (size + ((t14_l : Nat) : Int))) h_3)
        (fun J_1 =>
          if (decide ((IntKind.wrap .i64 (size + ((t14_l : Nat) : Int))) < 0)) = true then
            False
          else
            J_1 h_1))
    else
      CallsH Try.prog F.slices_Grow_s_outbox_Item_outbox_Item #[.slice none 0 0, .int .i64 size] h_1 fun v h_4 =>
      ∃ (t24_p : Option Addr) (t24_l t24_c : Nat), v = .slice t24_p t24_l t24_c ∧
      ∃ (I_1 : Option Addr → Nat → Nat → Int → Heap → Prop) (mu_1 : Option Addr → Nat → Nat → Int → Heap → Nat), I_1 t24_p t24_l t24_c 0 h_4 ∧ ∀ (newslice_p : Option Addr) (newslice_l newslice_c : Nat) (t27 : Int) (h_5 : Heap), I_1 newslice_p newslice_l newslice_c t27 h_5 →
        if (decide (t27 < ((slices_l : Nat) : Int))) = true then
          ((0 : Int) ≤ t27 ∧ t27 < ((slices_l : Nat) : Int)) ∧
          onSome slices_p fun a_1 =>
          ∃ (t30_p : Option Addr) (t30_l t30_c : Nat), hcell h_5 (a_1.add (Int.toNat t27 * 1)) = some (.slice t30_p t30_l t30_c) ∧
          denSem Try.prog (Builtin.append_ #[T.s_outbox_Item, T.s_outbox_Item] T.s_outbox_Item #[.slice newslice_p newslice_l newslice_c, .slice t30_p t30_l t30_c]) h_5 fun v_1 h_6 =>
          ∃ (t33_p : Option Addr) (t33_l t33_c : Nat), v_1 = .slice t33_p t33_l t33_c ∧
          (I_1 t33_p t33_l t33_c (IntKind.wrap .i64 (t27 + 1)) h_6 ∧ mu_1 t33_p t33_l t33_c (IntKind.wrap .i64 (t27 + 1)) h_6 < mu_1 newslice_p newslice_l newslice_c t27 h_5)
        else
          R (.slice newslice_p newslice_l newslice_c) h_5
theorem slices_Concat_s_outbox_Item_outbox_Item.den_eq (slices_p : Option Addr) (slices_l slices_c : Nat) (h : Heap) (R : Value → Heap → Prop) : slices_Concat_s_outbox_Item_outbox_Item.vc slices_p slices_l slices_c h R = den Try.prog Try.f52.ntmps (.seq .leaf (.seq .leaf (.seq (.seq .leaf (.block (.loop [(3, .one (.int .i64)), (11, .one (.int .i64))] (.seq .leaf (.seq (.cond .leaf .leaf) (.seq (.join [(3, .one (.int .i64))] (.block (.seq .leaf (.seq .leaf (.seq .leaf (.join [] (.cond .leaf .leaf))))))) .leaf)))))) (.seq .leaf (.seq (.seq .leaf (.block (.loop [(6, .one (.slice)), (27, .one (.int .i64))] (.seq .leaf (.seq (.cond .leaf .leaf) (.seq (.block (.seq .leaf .leaf)) .leaf)))))) (.seq .leaf .leaf)))))) none (bodyOf Try.f52) (retK Try.prog Try.f52.results R) (argEnv [.slice slices_p slices_l slices_c]) h := by kernel_rfl
theorem slices_Concat_s_outbox_Item_outbox_Item.walk {slices_p : Option Addr} {slices_l slices_c : Nat} {h : Heap} {R : Value → Heap → Prop} (hv : slices_Concat_s_outbox_Item_outbox_Item.vc slices_p slices_l slices_c h R) : CallsH Try.prog F.slices_Concat_s_outbox_Item_outbox_Item #[.slice slices_p slices_l slices_c] h R :=
  callsH_of_body _ Try.func52 rfl rfl (Eq.mp (slices_Concat_s_outbox_Item_outbox_Item.den_eq slices_p slices_l slices_c h R) hv)

def slices_Grow_s_outbox_Item_outbox_Item.vc (s_p : Option Addr) (s_l s_c : Nat) (n : Int) (h : Heap) (R : Value → Heap → Prop) : Prop :=
  JoinP (fun (h_1 : Heap) =>
    JoinP (fun (s_p_1 : Option Addr) (s_l_1 s_c_1 : Nat) (h_2 : Heap) =>
      R (.slice s_p_1 s_l_1 s_c_1) h_2)
    (fun J_1 =>
      if (decide ((IntKind.wrap .i64 (n - (IntKind.wrap .i64 (((s_c : Nat) : Int) - ((s_l : Nat) : Int))))) > 0)) = true then
        ((0 : Int) ≤ ((s_c : Nat) : Int) ∧ ((s_c : Nat) : Int) ≤ ((s_c : Nat) : Int)) ∧ 
        denSem Try.prog (Builtin.append_ #[T.s_outbox_Item, T.int] T.s_outbox_Item #[.slice (slBase s_p s_c 0 4) ((Int.toNat ((s_c : Nat) : Int)) - 0) (s_c - 0), .int .i64 (IntKind.wrap .i64 (n - (IntKind.wrap .i64 (((s_c : Nat) : Int) - ((s_l : Nat) : Int)))))]) h_1 fun v h_3 =>
        ∃ (t22_p : Option Addr) (t22_l t22_c : Nat), v = .slice t22_p t22_l t22_c ∧
        ((0 : Int) ≤ ((s_l : Nat) : Int) ∧ ((s_l : Nat) : Int) ≤ ((t22_c : Nat) : Int)) ∧ 
        J_1 (slBase t22_p t22_c 0 4) ((Int.toNat ((s_l : Nat) : Int)) - 0) (t22_c - 0) h_3
      else
        J_1 s_p s_l s_c h_1))
  (fun J =>
    if (decide (n < 0)) = true then
      False
    else
      J h)
theorem slices_Grow_s_outbox_Item_outbox_Item.den_eq (s_p : Option Addr) (s_l s_c : Nat) (n : Int) (h : Heap) (R : Value → Heap → Prop) : slices_Grow_s_outbox_Item_outbox_Item.vc s_p s_l s_c n h R = den Try.prog Try.f61.ntmps (.seq .leaf (.seq (.seq .leaf (.join [] (.cond .leaf .leaf))) (.seq (.seq .leaf (.seq .leaf (.join [(0, .one (.slice))] (.cond .leaf .leaf)))) (.seq .leaf .leaf)))) none (bodyOf Try.f61) (retK Try.prog Try.f61.results R) (argEnv [.slice s_p s_l s_c, .int .i64 n]) h := by kernel_rfl
theorem slices_Grow_s_outbox_Item_outbox_Item.walk {s_p : Option Addr} {s_l s_c : Nat} {n : Int} {h : Heap} {R : Value → Heap → Prop} (hv : slices_Grow_s_outbox_Item_outbox_Item.vc s_p s_l s_c n h R) : CallsH Try.prog F.slices_Grow_s_outbox_Item_outbox_Item #[.slice s_p s_l s_c, .int .i64 n] h R :=
  callsH_of_body _ Try.func61 rfl rfl (Eq.mp (slices_Grow_s_outbox_Item_outbox_Item.den_eq s_p s_l s_c n h R) hv)

end Go.Proofs.Ytlonfpolnmiglaa
