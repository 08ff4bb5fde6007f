/-
  Printed by a program of this work (vc.py): the verification conditions of functions, and that each is enough for the call. No condition.
-/
import Derived.Test.YtlnofnmdiddmkaaNames
set_option maxRecDepth 100000
set_option maxHeartbeats 4000000
namespace Go.Proofs.Ytlnofnmdiddmkaa
open Go.Den
def slices_DeleteFunc_s_sessions_Answer_sessions_Answer.keep.vc (s_p : Option Addr) (s_l s_c : Nat) (del_c : Nat) (h : Heap) (R : Value → Heap → Prop) : Prop :=
  CallsH Try.prog F.slices_IndexFunc_s_sessions_Answer_sessions_Answer #[.slice s_p s_l s_c, .func (.func F.sessions_Table_Keep_1) #[] #[.pointer (some ⟨del_c, 0, none⟩)]] h fun v h_1 =>
  ∃ (t10 : Int), v = .int .i64 t10 ∧
  if (t10 == (-1)) = true then
    R (.slice s_p s_l s_c) h_1
  else
    ∃ (I : Int → Int → Heap → Prop) (mu : Int → Int → Heap → Nat), I t10 (IntKind.wrap .i64 (t10 + 1)) h_1 ∧ ∀ (i : Int) (j : Int) (h_2 : Heap), I i j h_2 →
      if (decide (j < ((s_l : Nat) : Int))) = true then
        JoinP (fun (i_1 : Int) (h_3 : Heap) =>
          (I i_1 (IntKind.wrap .i64 (j + 1)) h_3 ∧ mu i_1 (IntKind.wrap .i64 (j + 1)) h_3 < mu i j h_2))
        (fun J =>
          ((0 : Int) ≤ j ∧ j < ((s_l : Nat) : Int)) ∧
          onSome s_p fun a =>
          ∃ (t25_0 : Int), hcell h_2 (a.add (Int.toNat j * 2)) = some (.int .u64 t25_0) ∧ ∃ (t25_1_p : Option Addr) (t25_1_l t25_1_c : Nat), hcell h_2 ((a.add (Int.toNat j * 2)).add 1) = some (.slice t25_1_p t25_1_l t25_1_c) ∧ 
          NewP h_2 (.cells #[.int .u64 0, .slice none 0 0] T.sessions_Answer) fun b h_4 =>
          StoreP h_4 ⟨b, 0, none⟩ (.int .u64 t25_0) fun h_5 =>
          StoreP h_5 ⟨b, 1, none⟩ (.slice t25_1_p t25_1_l t25_1_c) fun h_6 =>
          ∃ (t27_0 : Int), hcell h_6 ⟨b, 0, none⟩ = some (.int .u64 t27_0) ∧ ∃ (t27_1_p : Option Addr) (t27_1_l t27_1_c : Nat), hcell h_6 ⟨b, 1, none⟩ = some (.slice t27_1_p t27_1_l t27_1_c) ∧ 
          CallsH Try.prog F.sessions_Table_Keep_1 #[.agg #[.int .u64 t27_0, .slice t27_1_p t27_1_l t27_1_c], .pointer (some ⟨del_c, 0, none⟩)] h_6 fun v_1 h_7 =>
          ∃ (t28 : Bool), v_1 = .bool t28 ∧
          JoinP (fun (i_2 : Int) (h_8 : Heap) =>
            J i_2 h_8)
          (fun J_1 =>
            if (!t28) = true then
              ∃ (t32_0 : Int), hcell h_7 ⟨b, 0, none⟩ = some (.int .u64 t32_0) ∧ ∃ (t32_1_p : Option Addr) (t32_1_l t32_1_c : Nat), hcell h_7 ⟨b, 1, none⟩ = some (.slice t32_1_p t32_1_l t32_1_c) ∧ 
              ((0 : Int) ≤ i ∧ i < ((s_l : Nat) : Int)) ∧
              onSome s_p fun a_1 =>
              StoreP h_7 (a_1.add (Int.toNat i * 2)) (.int .u64 t32_0) fun h_9 =>
              StoreP h_9 ((a_1.add (Int.toNat i * 2)).add 1) (.slice t32_1_p t32_1_l t32_1_c) fun h_10 =>
              J_1 (IntKind.wrap .i64 (i + 1)) h_10
            else
              J_1 i h_7))
      else
        ((0 : Int) ≤ i ∧ i ≤ ((s_l : Nat) : Int)) ∧ 
        denSem Try.prog (Builtin.clear_ #[T.s_sessions_Answer] T.tup_ #[.slice (slBase s_p s_c (Int.toNat i) 2) (s_l - (Int.toNat i)) (s_c - (Int.toNat i))]) h_2 fun v_2 h_11 =>
        v_2 = .tuple #[] ∧
        ((0 : Int) ≤ i ∧ i ≤ ((s_c : Nat) : Int)) ∧ 
        R (.slice (slBase s_p s_c 0 2) ((Int.toNat i) - 0) (s_c - 0)) h_11
theorem slices_DeleteFunc_s_sessions_Answer_sessions_Answer.keep.den_eq (s_p : Option Addr) (s_l s_c : Nat) (del_c : Nat) (h : Heap) (R : Value → Heap → Prop) : slices_DeleteFunc_s_sessions_Answer_sessions_Answer.keep.vc s_p s_l s_c del_c h R = den Try.prog Try.f24.ntmps (.seq .leaf (.seq .leaf (.seq (.seq .leaf (.cond (.seq .leaf .leaf) .leaf)) (.seq (.seq .leaf (.block (.loop [(5, .one (.int .i64)), (6, .one (.int .i64))] (.seq (.seq .leaf (.cond .leaf .leaf)) (.seq (.join [(5, .one (.int .i64))] (.block (.seq .leaf (.seq .leaf (.join [(5, .one (.int .i64))] (.cond (.seq .leaf .leaf) .leaf)))))) .leaf))))) (.seq .leaf (.seq .leaf .leaf)))))) none (bodyOf Try.f24) (retK Try.prog Try.f24.results R) (argEnv [.slice s_p s_l s_c, .func (.func F.sessions_Table_Keep_1) #[] #[.pointer (some ⟨del_c, 0, none⟩)]]) h := by kernel_rfl
theorem slices_DeleteFunc_s_sessions_Answer_sessions_Answer.keep.walk {s_p : Option Addr} {s_l s_c : Nat} {del_c : Nat} {h : Heap} {R : Value → Heap → Prop} (hv : slices_DeleteFunc_s_sessions_Answer_sessions_Answer.keep.vc s_p s_l s_c del_c h R) : CallsH Try.prog F.slices_DeleteFunc_s_sessions_Answer_sessions_Answer #[.slice s_p s_l s_c, .func (.func F.sessions_Table_Keep_1) #[] #[.pointer (some ⟨del_c, 0, none⟩)]] h R :=
  callsH_of_body _ Try.func24 rfl rfl (Eq.mp (slices_DeleteFunc_s_sessions_Answer_sessions_Answer.keep.den_eq s_p s_l s_c del_c h R) hv)

def slices_IndexFunc_s_sessions_Answer_sessions_Answer.keep.vc (s_p : Option Addr) (s_l s_c : Nat) (f_c : Nat) (h : Heap) (R : Value → Heap → Prop) : Prop :=
  ∃ (I : Int → Heap → Prop) (mu : Int → Heap → Nat), I 0 h ∧ ∀ (t8 : Int) (h_1 : Heap), I t8 h_1 →
    if (decide (t8 < ((s_l : Nat) : Int))) = true then
      ((0 : Int) ≤ t8 ∧ t8 < ((s_l : Nat) : Int)) ∧
      onSome s_p fun a =>
      ∃ (t15_0 : Int), hcell h_1 (a.add (Int.toNat t8 * 2)) = some (.int .u64 t15_0) ∧ ∃ (t15_1_p : Option Addr) (t15_1_l t15_1_c : Nat), hcell h_1 ((a.add (Int.toNat t8 * 2)).add 1) = some (.slice t15_1_p t15_1_l t15_1_c) ∧ 
      CallsH Try.prog F.sessions_Table_Keep_1 #[.agg #[.int .u64 t15_0, .slice t15_1_p t15_1_l t15_1_c], .pointer (some ⟨f_c, 0, none⟩)] h_1 fun v h_2 =>
      ∃ (t16 : Bool), v = .bool t16 ∧
      if t16 = true then
        R (.int .i64 t8) h_2
      else
        (I (IntKind.wrap .i64 (t8 + 1)) h_2 ∧ mu (IntKind.wrap .i64 (t8 + 1)) h_2 < mu t8 h_1)
    else
      R (.int .i64 (-1)) h_1
theorem slices_IndexFunc_s_sessions_Answer_sessions_Answer.keep.den_eq (s_p : Option Addr) (s_l s_c : Nat) (f_c : Nat) (h : Heap) (R : Value → Heap → Prop) : slices_IndexFunc_s_sessions_Answer_sessions_Answer.keep.vc s_p s_l s_c f_c h R = den Try.prog Try.f28.ntmps (.seq .leaf (.seq (.seq .leaf (.block (.loop [(8, .one (.int .i64))] (.seq .leaf (.seq (.cond .leaf .leaf) (.seq (.block (.seq .leaf (.seq .leaf (.cond (.seq .leaf .leaf) .leaf)))) .leaf)))))) (.seq .leaf .leaf))) none (bodyOf Try.f28) (retK Try.prog Try.f28.results R) (argEnv [.slice s_p s_l s_c, .func (.func F.sessions_Table_Keep_1) #[] #[.pointer (some ⟨f_c, 0, none⟩)]]) h := by kernel_rfl
theorem slices_IndexFunc_s_sessions_Answer_sessions_Answer.keep.walk {s_p : Option Addr} {s_l s_c : Nat} {f_c : Nat} {h : Heap} {R : Value → Heap → Prop} (hv : slices_IndexFunc_s_sessions_Answer_sessions_Answer.keep.vc s_p s_l s_c f_c h R) : CallsH Try.prog F.slices_IndexFunc_s_sessions_Answer_sessions_Answer #[.slice s_p s_l s_c, .func (.func F.sessions_Table_Keep_1) #[] #[.pointer (some ⟨f_c, 0, none⟩)]] h R :=
  callsH_of_body _ Try.func28 rfl rfl (Eq.mp (slices_IndexFunc_s_sessions_Answer_sessions_Answer.keep.den_eq s_p s_l s_c f_c h R) hv)

def slices_IndexFunc_s_sessions_Answer_sessions_Answer.kept.vc (s_p : Option Addr) (s_l s_c : Nat) (f_c : Nat) (h : Heap) (R : Value → Heap → Prop) : Prop :=
  ∃ (I : Int → Heap → Prop) (mu : Int → Heap → Nat), I 0 h ∧ ∀ (t8 : Int) (h_1 : Heap), I t8 h_1 →
    if (decide (t8 < ((s_l : Nat) : Int))) = true then
      ((0 : Int) ≤ t8 ∧ t8 < ((s_l : Nat) : Int)) ∧
      onSome s_p fun a =>
      ∃ (t15_0 : Int), hcell h_1 (a.add (Int.toNat t8 * 2)) = some (.int .u64 t15_0) ∧ ∃ (t15_1_p : Option Addr) (t15_1_l t15_1_c : Nat), hcell h_1 ((a.add (Int.toNat t8 * 2)).add 1) = some (.slice t15_1_p t15_1_l t15_1_c) ∧ 
      CallsH Try.prog F.sessions_Table_Kept_1 #[.agg #[.int .u64 t15_0, .slice t15_1_p t15_1_l t15_1_c], .pointer (some ⟨f_c, 0, none⟩)] h_1 fun v h_2 =>
      ∃ (t16 : Bool), v = .bool t16 ∧
      if t16 = true then
        R (.int .i64 t8) h_2
      else
        (I (IntKind.wrap .i64 (t8 + 1)) h_2 ∧ mu (IntKind.wrap .i64 (t8 + 1)) h_2 < mu t8 h_1)
    else
      R (.int .i64 (-1)) h_1
theorem slices_IndexFunc_s_sessions_Answer_sessions_Answer.kept.den_eq (s_p : Option Addr) (s_l s_c : Nat) (f_c : Nat) (h : Heap) (R : Value → Heap → Prop) : slices_IndexFunc_s_sessions_Answer_sessions_Answer.kept.vc s_p s_l s_c f_c h R = den Try.prog Try.f28.ntmps (.seq .leaf (.seq (.seq .leaf (.block (.loop [(8, .one (.int .i64))] (.seq .leaf (.seq (.cond .leaf .leaf) (.seq (.block (.seq .leaf (.seq .leaf (.cond (.seq .leaf .leaf) .leaf)))) .leaf)))))) (.seq .leaf .leaf))) none (bodyOf Try.f28) (retK Try.prog Try.f28.results R) (argEnv [.slice s_p s_l s_c, .func (.func F.sessions_Table_Kept_1) #[] #[.pointer (some ⟨f_c, 0, none⟩)]]) h := by kernel_rfl
theorem slices_IndexFunc_s_sessions_Answer_sessions_Answer.kept.walk {s_p : Option Addr} {s_l s_c : Nat} {f_c : Nat} {h : Heap} {R : Value → Heap → Prop} (hv : slices_IndexFunc_s_sessions_Answer_sessions_Answer.kept.vc s_p s_l s_c f_c h R) : CallsH Try.prog F.slices_IndexFunc_s_sessions_Answer_sessions_Answer #[.slice s_p s_l s_c, .func (.func F.sessions_Table_Kept_1) #[] #[.pointer (some ⟨f_c, 0, none⟩)]] h R :=
  callsH_of_body _ Try.func28 rfl rfl (Eq.mp (slices_IndexFunc_s_sessions_Answer_sessions_Answer.kept.den_eq s_p s_l s_c f_c h R) hv)

def slices_Clone_s_sessions_Answer_sessions_Answer.vc (s_p : Option Addr) (s_l s_c : Nat) (h : Heap) (R : Value → Heap → Prop) : Prop :=
  if s_p.isNone = true then
    R (.slice none 0 0) h
  else
    NewP h (.cells #[] T.sessions_Answer) fun b h_1 =>
    denSem Try.prog (Builtin.append_ #[T.s_sessions_Answer, T.s_sessions_Answer] T.s_sessions_Answer #[.slice (some ⟨b, 0, none⟩) 0 0, .slice s_p s_l s_c]) h_1 fun v h_2 =>
    ∃ (t7_p : Option Addr) (t7_l t7_c : Nat), v = .slice t7_p t7_l t7_c ∧
    R (.slice t7_p t7_l t7_c) h_2
theorem slices_Clone_s_sessions_Answer_sessions_Answer.den_eq (s_p : Option Addr) (s_l s_c : Nat) (h : Heap) (R : Value → Heap → Prop) : slices_Clone_s_sessions_Answer_sessions_Answer.vc s_p s_l s_c h R = den Try.prog Try.f27.ntmps (.seq .leaf (.seq (.seq .leaf (.cond (.seq .leaf .leaf) .leaf)) (.seq .leaf .leaf))) none (bodyOf Try.f27) (retK Try.prog Try.f27.results R) (argEnv [.slice s_p s_l s_c]) h := by kernel_rfl
theorem slices_Clone_s_sessions_Answer_sessions_Answer.walk {s_p : Option Addr} {s_l s_c : Nat} {h : Heap} {R : Value → Heap → Prop} (hv : slices_Clone_s_sessions_Answer_sessions_Answer.vc s_p s_l s_c h R) : CallsH Try.prog F.slices_Clone_s_sessions_Answer_sessions_Answer #[.slice s_p s_l s_c] h R :=
  callsH_of_body _ Try.func27 rfl rfl (Eq.mp (slices_Clone_s_sessions_Answer_sessions_Answer.den_eq s_p s_l s_c h R) hv)

def slices_Clone_s_s_byte_s_byte.vc (s_p : Option Addr) (s_l s_c : Nat) (h : Heap) (R : Value → Heap → Prop) : Prop :=
  if s_p.isNone = true then
    R (.slice none 0 0) h
  else
    NewP h (.cells #[] T.s_uint8) fun b h_1 =>
    denSem Try.prog (Builtin.append_ #[T.s_s_uint8, T.s_s_uint8] T.s_s_uint8 #[.slice (some ⟨b, 0, none⟩) 0 0, .slice s_p s_l s_c]) h_1 fun v h_2 =>
    ∃ (t7_p : Option Addr) (t7_l t7_c : Nat), v = .slice t7_p t7_l t7_c ∧
    R (.slice t7_p t7_l t7_c) h_2
theorem slices_Clone_s_s_byte_s_byte.den_eq (s_p : Option Addr) (s_l s_c : Nat) (h : Heap) (R : Value → Heap → Prop) : slices_Clone_s_s_byte_s_byte.vc s_p s_l s_c h R = den Try.prog Try.f31.ntmps (.seq .leaf (.seq (.seq .leaf (.cond (.seq .leaf .leaf) .leaf)) (.seq .leaf .leaf))) none (bodyOf Try.f31) (retK Try.prog Try.f31.results R) (argEnv [.slice s_p s_l s_c]) h := by kernel_rfl
theorem slices_Clone_s_s_byte_s_byte.walk {s_p : Option Addr} {s_l s_c : Nat} {h : Heap} {R : Value → Heap → Prop} (hv : slices_Clone_s_s_byte_s_byte.vc s_p s_l s_c h R) : CallsH Try.prog F.slices_Clone_s_s_byte_s_byte #[.slice s_p s_l s_c] h R :=
  callsH_of_body _ Try.func31 rfl rfl (Eq.mp (slices_Clone_s_s_byte_s_byte.den_eq s_p s_l s_c h R) hv)

end Go.Proofs.Ytlnofnmdiddmkaa
