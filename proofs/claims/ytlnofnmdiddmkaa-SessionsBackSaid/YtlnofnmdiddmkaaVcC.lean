/-
  Printed by a program of this work (vc.py): the verification conditions of functions, and that each is enough for the call. No condition.
-/
import Derived.Test.YtlnofnmdiddmkaaNames
set_option maxRecDepth 100000
set_option maxHeartbeats 4000000
namespace Go.Proofs.Ytlnofnmdiddmkaa
open Go.Den
def sessions_New.vc  (h : Heap) (R : Value → Heap → Prop) : Prop :=
  NewP h (.cells #[.bool true, .slice none 0 0] T.sessions_Table) fun b h_1 =>
  R (.pointer (some ⟨b, 0, none⟩)) h_1
theorem sessions_New.den_eq  (h : Heap) (R : Value → Heap → Prop) : sessions_New.vc h R = den Try.prog Try.f6.ntmps (.seq .leaf (.seq .leaf .leaf)) none (bodyOf Try.f6) (retK Try.prog Try.f6.results R) (argEnv []) h := by kernel_rfl
theorem sessions_New.walk  {h : Heap} {R : Value → Heap → Prop} (hv : sessions_New.vc h R) : CallsH Try.prog F.sessions_New #[] h R :=
  callsH_of_body _ Try.func6 rfl rfl (Eq.mp (sessions_New.den_eq h R) hv)

def sessions_Table_find.vc (t : Nat) (num : Int) (h : Heap) (R : Value → Heap → Prop) : Prop :=
  JoinP (fun (t6 : Bool) (h_1 : Heap) =>
    if t6 = true then
      R (.tuple #[.pointer none, .int .i64 6]) h_1
    else
      JoinP (fun (t16 : Bool) (h_2 : Heap) =>
        if t16 = true then
          R (.tuple #[.pointer none, .int .i64 4]) h_2
        else
          ∃ (t31_p : Option Addr) (t31_l t31_c : Nat), hcell h_2 ⟨t, 1, none⟩ = some (.slice t31_p t31_l t31_c) ∧
          ((0 : Int) ≤ IntKind.wrap .i64 (num - 1) ∧ IntKind.wrap .i64 (num - 1) < ((t31_l : Nat) : Int)) ∧
          onSome t31_p fun a =>
          ∃ (t35 : Option Addr), hcell h_2 (a.add (Int.toNat (IntKind.wrap .i64 (num - 1)) * 1)) = some (.pointer t35) ∧
          R (.tuple #[.pointer t35, .int .i64 0]) h_2)
      (fun J_1 =>
        if (decide (num < 1)) = true then
          J_1 true h_1
        else
          ∃ (t24_p : Option Addr) (t24_l t24_c : Nat), hcell h_1 ⟨t, 1, none⟩ = some (.slice t24_p t24_l t24_c) ∧
          J_1 (decide (num > ((t24_l : Nat) : Int))) h_1))
  (fun J =>
    ∃ (t13 : Bool), hcell h ⟨t, 0, none⟩ = some (.bool t13) ∧
    J (!t13) h)
theorem sessions_Table_find.den_eq (t : Nat) (num : Int) (h : Heap) (R : Value → Heap → Prop) : sessions_Table_find.vc t num h R = den Try.prog Try.f23.ntmps (.seq .leaf (.seq (.block (.seq (.join [(6, .one (.bool))] .leaf) (.cond (.seq .leaf .leaf) (.seq (.join [(16, .one (.bool))] .leaf) (.cond (.seq .leaf .leaf) .leaf))))) (.seq .leaf .leaf))) none (bodyOf Try.f23) (retK Try.prog Try.f23.results R) (argEnv [.pointer (some ⟨t, 0, none⟩), .int .i64 num]) h := by kernel_rfl
theorem sessions_Table_find.walk {t : Nat} {num : Int} {h : Heap} {R : Value → Heap → Prop} (hv : sessions_Table_find.vc t num h R) : CallsH Try.prog F.sessions_Table_find #[.pointer (some ⟨t, 0, none⟩), .int .i64 num] h R :=
  callsH_of_body _ Try.func23 rfl rfl (Eq.mp (sessions_Table_find.den_eq t num h R) hv)

def sessions_Table_find.nil.vc (num : Int) (h : Heap) (R : Value → Heap → Prop) : Prop :=
  JoinP (fun (t6 : Bool) (h_1 : Heap) =>
    if t6 = true then
      R (.tuple #[.pointer none, .int .i64 6]) h_1
    else
      JoinP (fun (t16 : Bool) (h_2 : Heap) =>
        if t16 = true then
          R (.tuple #[.pointer none, .int .i64 4]) h_2
        else
          False)
      (fun J_1 =>
        if (decide (num < 1)) = true then
          J_1 true h_1
        else
          False))
  (fun J =>
    J true h)
theorem sessions_Table_find.nil.den_eq (num : Int) (h : Heap) (R : Value → Heap → Prop) : sessions_Table_find.nil.vc num h R = den Try.prog Try.f23.ntmps (.seq .leaf (.seq (.block (.seq (.join [(6, .one (.bool))] .leaf) (.cond (.seq .leaf .leaf) (.seq (.join [(16, .one (.bool))] .leaf) (.cond (.seq .leaf .leaf) .leaf))))) (.seq .leaf .leaf))) none (bodyOf Try.f23) (retK Try.prog Try.f23.results R) (argEnv [.pointer none, .int .i64 num]) h := by kernel_rfl
theorem sessions_Table_find.nil.walk {num : Int} {h : Heap} {R : Value → Heap → Prop} (hv : sessions_Table_find.nil.vc num h R) : CallsH Try.prog F.sessions_Table_find #[.pointer none, .int .i64 num] h R :=
  callsH_of_body _ Try.func23 rfl rfl (Eq.mp (sessions_Table_find.nil.den_eq num h R) hv)

def sessions_Table_Up.vc (t : Nat) (num : Int) (h : Heap) (R : Value → Heap → Prop) : Prop :=
  CallsH Try.prog F.sessions_Table_find #[.pointer (some ⟨t, 0, none⟩), .int .i64 num] h fun v h_1 =>
  ∃ (t10_0 : Option Addr), ∃ (t10_1 : Int), v = .tuple #[.pointer t10_0, .int .i64 t10_1] ∧
  if (t10_1 == 0) = true then
    onSome t10_0 fun a =>
    ∃ (t19 : Bool), hcell h_1 (a.add 2) = some (.bool t19) ∧
    R (.bool t19) h_1
  else
    R (.bool false) h_1
theorem sessions_Table_Up.den_eq (t : Nat) (num : Int) (h : Heap) (R : Value → Heap → Prop) : sessions_Table_Up.vc t num h R = den Try.prog Try.f13.ntmps (.seq .leaf (.seq .leaf (.seq .leaf .leaf))) none (bodyOf Try.f13) (retK Try.prog Try.f13.results R) (argEnv [.pointer (some ⟨t, 0, none⟩), .int .i64 num]) h := by kernel_rfl
theorem sessions_Table_Up.walk {t : Nat} {num : Int} {h : Heap} {R : Value → Heap → Prop} (hv : sessions_Table_Up.vc t num h R) : CallsH Try.prog F.sessions_Table_Up #[.pointer (some ⟨t, 0, none⟩), .int .i64 num] h R :=
  callsH_of_body _ Try.func13 rfl rfl (Eq.mp (sessions_Table_Up.den_eq t num h R) hv)

def sessions_Table_Up.nil.vc (num : Int) (h : Heap) (R : Value → Heap → Prop) : Prop :=
  CallsH Try.prog F.sessions_Table_find #[.pointer none, .int .i64 num] h fun v h_1 =>
  ∃ (t10_0 : Option Addr), ∃ (t10_1 : Int), v = .tuple #[.pointer t10_0, .int .i64 t10_1] ∧
  if (t10_1 == 0) = true then
    onSome t10_0 fun a =>
    ∃ (t19 : Bool), hcell h_1 (a.add 2) = some (.bool t19) ∧
    R (.bool t19) h_1
  else
    R (.bool false) h_1
theorem sessions_Table_Up.nil.den_eq (num : Int) (h : Heap) (R : Value → Heap → Prop) : sessions_Table_Up.nil.vc num h R = den Try.prog Try.f13.ntmps (.seq .leaf (.seq .leaf (.seq .leaf .leaf))) none (bodyOf Try.f13) (retK Try.prog Try.f13.results R) (argEnv [.pointer none, .int .i64 num]) h := by kernel_rfl
theorem sessions_Table_Up.nil.walk {num : Int} {h : Heap} {R : Value → Heap → Prop} (hv : sessions_Table_Up.nil.vc num h R) : CallsH Try.prog F.sessions_Table_Up #[.pointer none, .int .i64 num] h R :=
  callsH_of_body _ Try.func13 rfl rfl (Eq.mp (sessions_Table_Up.nil.den_eq num h R) hv)

def sessions_Table_of.vc (t : Nat) (token : Int) (h : Heap) (R : Value → Heap → Prop) : Prop :=
  ∃ (t10_p : Option Addr) (t10_l t10_c : Nat), hcell h ⟨t, 1, none⟩ = some (.slice t10_p t10_l t10_c) ∧
  ∃ (I : Int → Heap → Prop) (mu : Int → Heap → Nat), I 0 h ∧ ∀ (t12 : Int) (h_1 : Heap), I t12 h_1 →
    if (decide (t12 < ((t10_l : Nat) : Int))) = true then
      ((0 : Int) ≤ t12 ∧ t12 < ((t10_l : Nat) : Int)) ∧
      onSome t10_p fun a =>
      ∃ (t15 : Option Addr), hcell h_1 (a.add (Int.toNat t12 * 1)) = some (.pointer t15) ∧
      onSome t15 fun a_1 =>
      ∃ (t19 : Int), hcell h_1 (a_1.add 1) = some (.int .u64 t19) ∧
      if (t19 == token) = true then
        R (.pointer t15) h_1
      else
        (I (IntKind.wrap .i64 (t12 + 1)) h_1 ∧ mu (IntKind.wrap .i64 (t12 + 1)) h_1 < mu t12 h_1)
    else
      R (.pointer none) h_1
theorem sessions_Table_of.den_eq (t : Nat) (token : Int) (h : Heap) (R : Value → Heap → Prop) : sessions_Table_of.vc t token h R = den Try.prog Try.f21.ntmps (.seq .leaf (.seq (.seq .leaf (.block (.loop [(12, .one (.int .i64))] (.seq .leaf (.seq (.cond .leaf .leaf) (.seq (.block (.seq .leaf (.seq .leaf (.cond (.seq .leaf .leaf) .leaf)))) .leaf)))))) (.seq .leaf .leaf))) none (bodyOf Try.f21) (retK Try.prog Try.f21.results R) (argEnv [.pointer (some ⟨t, 0, none⟩), .int .u64 token]) h := by kernel_rfl
theorem sessions_Table_of.walk {t : Nat} {token : Int} {h : Heap} {R : Value → Heap → Prop} (hv : sessions_Table_of.vc t token h R) : CallsH Try.prog F.sessions_Table_of #[.pointer (some ⟨t, 0, none⟩), .int .u64 token] h R :=
  callsH_of_body _ Try.func21 rfl rfl (Eq.mp (sessions_Table_of.den_eq t token h R) hv)

def sessions_Table_Open.vc (t : Nat) (token : Int) (h : Heap) (R : Value → Heap → Prop) : Prop :=
  JoinP (fun (t7 : Bool) (h_1 : Heap) =>
    if t7 = true then
      R (.tuple #[.int .i64 0, .int .i64 6]) h_1
    else
      JoinP (fun (t17 : Bool) (h_2 : Heap) =>
        if t17 = true then
          R (.tuple #[.int .i64 0, .int .i64 1]) h_2
        else
          CallsH Try.prog F.sessions_Table_of #[.pointer (some ⟨t, 0, none⟩), .int .u64 token] h_2 fun v h_3 =>
          ∃ (t27 : Option Addr), v = .pointer t27 ∧
          if (!t27.isNone) = true then
            R (.tuple #[.int .i64 0, .int .i64 12]) h_3
          else
            ∃ (t33_p : Option Addr) (t33_l t33_c : Nat), hcell h_3 ⟨t, 1, none⟩ = some (.slice t33_p t33_l t33_c) ∧
            if (decide (((t33_l : Nat) : Int) ≥ 8)) = true then
              R (.tuple #[.int .i64 0, .int .i64 5]) h_3
            else
              ∃ (t39_p : Option Addr) (t39_l t39_c : Nat), hcell h_3 ⟨t, 1, none⟩ = some (.slice t39_p t39_l t39_c) ∧
              NewP h_3 (.cells #[.int .i64 (IntKind.wrap .i64 (((t39_l : Nat) : Int) + 1)), .int .u64 token, .bool true, .bool false, .slice none 0 0, .slice none 0 0] T.sessions_Session) fun b h_4 =>
              ∃ (t49_p : Option Addr) (t49_l t49_c : Nat), hcell h_4 ⟨t, 1, none⟩ = some (.slice t49_p t49_l t49_c) ∧
              NewP h_4 (.cells #[.pointer (some ⟨b, 0, none⟩)] T.p_sessions_Session) fun b_1 h_5 =>
              denSem Try.prog (Builtin.append_ #[T.s_p_sessions_Session, T.s_p_sessions_Session] T.s_p_sessions_Session #[.slice t49_p t49_l t49_c, .slice (some ⟨b_1, 0, none⟩) 1 1]) h_5 fun v_1 h_6 =>
              ∃ (t52_p : Option Addr) (t52_l t52_c : Nat), v_1 = .slice t52_p t52_l t52_c ∧
              StoreP h_6 ⟨t, 1, none⟩ (.slice t52_p t52_l t52_c) fun h_7 =>
              ∃ (t58 : Int), hcell h_7 ⟨b, 0, none⟩ = some (.int .i64 t58) ∧
              R (.tuple #[.int .i64 t58, .int .i64 0]) h_7)
      (fun J_1 =>
        if (decide (token < 1)) = true then
          J_1 true h_1
        else
          J_1 (decide (token > 2147483648)) h_1))
  (fun J =>
    ∃ (t14 : Bool), hcell h ⟨t, 0, none⟩ = some (.bool t14) ∧
    J (!t14) h)
theorem sessions_Table_Open.den_eq (t : Nat) (token : Int) (h : Heap) (R : Value → Heap → Prop) : sessions_Table_Open.vc t token h R = den Try.prog Try.f7.ntmps (.seq .leaf (.seq (.block (.seq (.join [(7, .one (.bool))] .leaf) (.cond (.seq .leaf .leaf) (.seq (.join [(17, .one (.bool))] .leaf) (.cond (.seq .leaf .leaf) (.seq .leaf (.cond (.seq .leaf .leaf) (.seq .leaf (.cond (.seq .leaf .leaf) .leaf))))))))) (.seq .leaf (.seq .leaf (.seq .leaf .leaf))))) none (bodyOf Try.f7) (retK Try.prog Try.f7.results R) (argEnv [.pointer (some ⟨t, 0, none⟩), .int .u64 token]) h := by kernel_rfl
theorem sessions_Table_Open.walk {t : Nat} {token : Int} {h : Heap} {R : Value → Heap → Prop} (hv : sessions_Table_Open.vc t token h R) : CallsH Try.prog F.sessions_Table_Open #[.pointer (some ⟨t, 0, none⟩), .int .u64 token] h R :=
  callsH_of_body _ Try.func7 rfl rfl (Eq.mp (sessions_Table_Open.den_eq t token h R) hv)

def sessions_Table_Open.nil.vc (token : Int) (h : Heap) (R : Value → Heap → Prop) : Prop :=
  JoinP (fun (t7 : Bool) (h_1 : Heap) =>
    if t7 = true then
      R (.tuple #[.int .i64 0, .int .i64 6]) h_1
    else
      JoinP (fun (t17 : Bool) (h_2 : Heap) =>
        if t17 = true then
          R (.tuple #[.int .i64 0, .int .i64 1]) h_2
        else
          CallsH Try.prog F.sessions_Table_of #[.pointer none, .int .u64 token] h_2 fun v h_3 =>
          ∃ (t27 : Option Addr), v = .pointer t27 ∧
          if (!t27.isNone) = true then
            R (.tuple #[.int .i64 0, .int .i64 12]) h_3
          else
            False)
      (fun J_1 =>
        if (decide (token < 1)) = true then
          J_1 true h_1
        else
          J_1 (decide (token > 2147483648)) h_1))
  (fun J =>
    J true h)
theorem sessions_Table_Open.nil.den_eq (token : Int) (h : Heap) (R : Value → Heap → Prop) : sessions_Table_Open.nil.vc token h R = den Try.prog Try.f7.ntmps (.seq .leaf (.seq (.block (.seq (.join [(7, .one (.bool))] .leaf) (.cond (.seq .leaf .leaf) (.seq (.join [(17, .one (.bool))] .leaf) (.cond (.seq .leaf .leaf) (.seq .leaf (.cond (.seq .leaf .leaf) (.seq .leaf (.cond (.seq .leaf .leaf) .leaf))))))))) (.seq .leaf (.seq .leaf (.seq .leaf .leaf))))) none (bodyOf Try.f7) (retK Try.prog Try.f7.results R) (argEnv [.pointer none, .int .u64 token]) h := by kernel_rfl
theorem sessions_Table_Open.nil.walk {token : Int} {h : Heap} {R : Value → Heap → Prop} (hv : sessions_Table_Open.nil.vc token h R) : CallsH Try.prog F.sessions_Table_Open #[.pointer none, .int .u64 token] h R :=
  callsH_of_body _ Try.func7 rfl rfl (Eq.mp (sessions_Table_Open.nil.den_eq token h R) hv)

def sessions_Table_Resume.vc (t : Nat) (token : Int) (h : Heap) (R : Value → Heap → Prop) : Prop :=
  JoinP (fun (t15 : Bool) (h_1 : Heap) =>
    if t15 = true then
      R (.tuple #[.int .i64 0, .int .i64 6]) h_1
    else
      CallsH Try.prog F.sessions_Table_of #[.pointer (some ⟨t, 0, none⟩), .int .u64 token] h_1 fun v h_2 =>
      ∃ (t18 : Option Addr), v = .pointer t18 ∧
      if t18.isNone = true then
        R (.tuple #[.int .i64 0, .int .i64 12]) h_2
      else
        onSome t18 fun a =>
        ∃ (t26 : Bool), hcell h_2 (a.add 2) = some (.bool t26) ∧
        if t26 = true then
          R (.tuple #[.int .i64 0, .int .i64 7]) h_2
        else
          onSome t18 fun a_1 =>
          StoreP h_2 (a_1.add 2) (.bool true) fun h_3 =>
          onSome t18 fun a_2 =>
          ∃ (t33 : Int), hcell h_3 a_2 = some (.int .i64 t33) ∧
          R (.tuple #[.int .i64 t33, .int .i64 0]) h_3)
  (fun J =>
    ∃ (t13 : Bool), hcell h ⟨t, 0, none⟩ = some (.bool t13) ∧
    J (!t13) h)
theorem sessions_Table_Resume.den_eq (t : Nat) (token : Int) (h : Heap) (R : Value → Heap → Prop) : sessions_Table_Resume.vc t token h R = den Try.prog Try.f11.ntmps (.seq .leaf (.seq (.seq (.join [(15, .one (.bool))] .leaf) (.cond (.seq .leaf .leaf) .leaf)) (.seq .leaf (.seq (.block (.seq .leaf (.cond (.seq .leaf .leaf) (.seq .leaf (.cond (.seq .leaf .leaf) .leaf))))) (.seq .leaf (.seq .leaf .leaf)))))) none (bodyOf Try.f11) (retK Try.prog Try.f11.results R) (argEnv [.pointer (some ⟨t, 0, none⟩), .int .u64 token]) h := by kernel_rfl
theorem sessions_Table_Resume.walk {t : Nat} {token : Int} {h : Heap} {R : Value → Heap → Prop} (hv : sessions_Table_Resume.vc t token h R) : CallsH Try.prog F.sessions_Table_Resume #[.pointer (some ⟨t, 0, none⟩), .int .u64 token] h R :=
  callsH_of_body _ Try.func11 rfl rfl (Eq.mp (sessions_Table_Resume.den_eq t token h R) hv)

def sessions_Table_Resume.nil.vc (token : Int) (h : Heap) (R : Value → Heap → Prop) : Prop :=
  JoinP (fun (t15 : Bool) (h_1 : Heap) =>
    if t15 = true then
      R (.tuple #[.int .i64 0, .int .i64 6]) h_1
    else
      CallsH Try.prog F.sessions_Table_of #[.pointer none, .int .u64 token] h_1 fun v h_2 =>
      ∃ (t18 : Option Addr), v = .pointer t18 ∧
      if t18.isNone = true then
        R (.tuple #[.int .i64 0, .int .i64 12]) h_2
      else
        onSome t18 fun a =>
        ∃ (t26 : Bool), hcell h_2 (a.add 2) = some (.bool t26) ∧
        if t26 = true then
          R (.tuple #[.int .i64 0, .int .i64 7]) h_2
        else
          onSome t18 fun a_1 =>
          StoreP h_2 (a_1.add 2) (.bool true) fun h_3 =>
          onSome t18 fun a_2 =>
          ∃ (t33 : Int), hcell h_3 a_2 = some (.int .i64 t33) ∧
          R (.tuple #[.int .i64 t33, .int .i64 0]) h_3)
  (fun J =>
    J true h)
theorem sessions_Table_Resume.nil.den_eq (token : Int) (h : Heap) (R : Value → Heap → Prop) : sessions_Table_Resume.nil.vc token h R = den Try.prog Try.f11.ntmps (.seq .leaf (.seq (.seq (.join [(15, .one (.bool))] .leaf) (.cond (.seq .leaf .leaf) .leaf)) (.seq .leaf (.seq (.block (.seq .leaf (.cond (.seq .leaf .leaf) (.seq .leaf (.cond (.seq .leaf .leaf) .leaf))))) (.seq .leaf (.seq .leaf .leaf)))))) none (bodyOf Try.f11) (retK Try.prog Try.f11.results R) (argEnv [.pointer none, .int .u64 token]) h := by kernel_rfl
theorem sessions_Table_Resume.nil.walk {token : Int} {h : Heap} {R : Value → Heap → Prop} (hv : sessions_Table_Resume.nil.vc token h R) : CallsH Try.prog F.sessions_Table_Resume #[.pointer none, .int .u64 token] h R :=
  callsH_of_body _ Try.func11 rfl rfl (Eq.mp (sessions_Table_Resume.nil.den_eq token h R) hv)

def sessions_Table_Down.vc (t : Nat) (num : Int) (h : Heap) (R : Value → Heap → Prop) : Prop :=
  CallsH Try.prog F.sessions_Table_find #[.pointer (some ⟨t, 0, none⟩), .int .i64 num] h fun v h_1 =>
  ∃ (t10_0 : Option Addr), ∃ (t10_1 : Int), v = .tuple #[.pointer t10_0, .int .i64 t10_1] ∧
  if (t10_1 != 0) = true then
    R (.int .i64 t10_1) h_1
  else
    onSome t10_0 fun a =>
    ∃ (t21 : Bool), hcell h_1 (a.add 2) = some (.bool t21) ∧
    if (!t21) = true then
      R (.int .i64 7) h_1
    else
      onSome t10_0 fun a_1 =>
      StoreP h_1 (a_1.add 2) (.bool false) fun h_2 =>
      R (.int .i64 0) h_2
theorem sessions_Table_Down.den_eq (t : Nat) (num : Int) (h : Heap) (R : Value → Heap → Prop) : sessions_Table_Down.vc t num h R = den Try.prog Try.f14.ntmps (.seq .leaf (.seq .leaf (.seq (.block (.seq .leaf (.cond (.seq .leaf .leaf) (.seq .leaf (.cond (.seq .leaf .leaf) .leaf))))) (.seq .leaf (.seq .leaf .leaf))))) none (bodyOf Try.f14) (retK Try.prog Try.f14.results R) (argEnv [.pointer (some ⟨t, 0, none⟩), .int .i64 num]) h := by kernel_rfl
theorem sessions_Table_Down.walk {t : Nat} {num : Int} {h : Heap} {R : Value → Heap → Prop} (hv : sessions_Table_Down.vc t num h R) : CallsH Try.prog F.sessions_Table_Down #[.pointer (some ⟨t, 0, none⟩), .int .i64 num] h R :=
  callsH_of_body _ Try.func14 rfl rfl (Eq.mp (sessions_Table_Down.den_eq t num h R) hv)

def sessions_Table_Down.nil.vc (num : Int) (h : Heap) (R : Value → Heap → Prop) : Prop :=
  CallsH Try.prog F.sessions_Table_find #[.pointer none, .int .i64 num] h fun v h_1 =>
  ∃ (t10_0 : Option Addr), ∃ (t10_1 : Int), v = .tuple #[.pointer t10_0, .int .i64 t10_1] ∧
  if (t10_1 != 0) = true then
    R (.int .i64 t10_1) h_1
  else
    onSome t10_0 fun a =>
    ∃ (t21 : Bool), hcell h_1 (a.add 2) = some (.bool t21) ∧
    if (!t21) = true then
      R (.int .i64 7) h_1
    else
      onSome t10_0 fun a_1 =>
      StoreP h_1 (a_1.add 2) (.bool false) fun h_2 =>
      R (.int .i64 0) h_2
theorem sessions_Table_Down.nil.den_eq (num : Int) (h : Heap) (R : Value → Heap → Prop) : sessions_Table_Down.nil.vc num h R = den Try.prog Try.f14.ntmps (.seq .leaf (.seq .leaf (.seq (.block (.seq .leaf (.cond (.seq .leaf .leaf) (.seq .leaf (.cond (.seq .leaf .leaf) .leaf))))) (.seq .leaf (.seq .leaf .leaf))))) none (bodyOf Try.f14) (retK Try.prog Try.f14.results R) (argEnv [.pointer none, .int .i64 num]) h := by kernel_rfl
theorem sessions_Table_Down.nil.walk {num : Int} {h : Heap} {R : Value → Heap → Prop} (hv : sessions_Table_Down.nil.vc num h R) : CallsH Try.prog F.sessions_Table_Down #[.pointer none, .int .i64 num] h R :=
  callsH_of_body _ Try.func14 rfl rfl (Eq.mp (sessions_Table_Down.nil.den_eq num h R) hv)

def sessions_Table_AllDown.vc (t : Nat) (h : Heap) (R : Value → Heap → Prop) : Prop :=
  ∃ (t9_p : Option Addr) (t9_l t9_c : Nat), hcell h ⟨t, 1, none⟩ = some (.slice t9_p t9_l t9_c) ∧
  ∃ (I : Int → Heap → Prop) (mu : Int → Heap → Nat), I 0 h ∧ ∀ (t11 : Int) (h_1 : Heap), I t11 h_1 →
    if (decide (t11 < ((t9_l : Nat) : Int))) = true then
      ((0 : Int) ≤ t11 ∧ t11 < ((t9_l : Nat) : Int)) ∧
      onSome t9_p fun a =>
      ∃ (t14 : Option Addr), hcell h_1 (a.add (Int.toNat t11 * 1)) = some (.pointer t14) ∧
      onSome t14 fun a_1 =>
      StoreP h_1 (a_1.add 2) (.bool false) fun h_2 =>
      (I (IntKind.wrap .i64 (t11 + 1)) h_2 ∧ mu (IntKind.wrap .i64 (t11 + 1)) h_2 < mu t11 h_1)
    else
      R (.tuple #[]) h_1
theorem sessions_Table_AllDown.den_eq (t : Nat) (h : Heap) (R : Value → Heap → Prop) : sessions_Table_AllDown.vc t h R = den Try.prog Try.f12.ntmps (.seq .leaf (.cond (.seq .leaf (.block (.loop [(11, .one (.int .i64))] (.seq .leaf (.seq (.cond .leaf .leaf) (.seq (.block (.seq .leaf .leaf)) .leaf)))))) .leaf)) none (bodyOf Try.f12) (retK Try.prog Try.f12.results R) (argEnv [.pointer (some ⟨t, 0, none⟩)]) h := by kernel_rfl
theorem sessions_Table_AllDown.walk {t : Nat} {h : Heap} {R : Value → Heap → Prop} (hv : sessions_Table_AllDown.vc t h R) : CallsH Try.prog F.sessions_Table_AllDown #[.pointer (some ⟨t, 0, none⟩)] h R :=
  callsH_of_body _ Try.func12 rfl rfl (Eq.mp (sessions_Table_AllDown.den_eq t h R) hv)

def sessions_Table_AllDown.nil.vc  (h : Heap) (R : Value → Heap → Prop) : Prop :=
  R (.tuple #[]) h
theorem sessions_Table_AllDown.nil.den_eq  (h : Heap) (R : Value → Heap → Prop) : sessions_Table_AllDown.nil.vc h R = den Try.prog Try.f12.ntmps (.seq .leaf (.cond (.seq .leaf (.block (.loop [(11, .one (.int .i64))] (.seq .leaf (.seq (.cond .leaf .leaf) (.seq (.block (.seq .leaf .leaf)) .leaf)))))) .leaf)) none (bodyOf Try.f12) (retK Try.prog Try.f12.results R) (argEnv [.pointer none]) h := by kernel_rfl
theorem sessions_Table_AllDown.nil.walk  {h : Heap} {R : Value → Heap → Prop} (hv : sessions_Table_AllDown.nil.vc h R) : CallsH Try.prog F.sessions_Table_AllDown #[.pointer none] h R :=
  callsH_of_body _ Try.func12 rfl rfl (Eq.mp (sessions_Table_AllDown.nil.den_eq h R) hv)

def sessions_Table_Keep.vc (t : Nat) (num : Int) (id : Int) (data_p : Option Addr) (data_l data_c : Nat) (h : Heap) (R : Value → Heap → Prop) : Prop :=
  NewP h (.cells #[.int .u64 id] T.uint64) fun b h_1 =>
  CallsH Try.prog F.sessions_Table_find #[.pointer (some ⟨t, 0, none⟩), .int .i64 num] h_1 fun v h_2 =>
  ∃ (t14_0 : Option Addr), ∃ (t14_1 : Int), v = .tuple #[.pointer t14_0, .int .i64 t14_1] ∧
  if (t14_1 != 0) = true then
    R (.int .i64 t14_1) h_2
  else
    JoinP (fun (t21 : Bool) (h_3 : Heap) =>
      if t21 = true then
        R (.int .i64 1) h_3
      else
        onSome t14_0 fun a =>
        ∃ (t33_p : Option Addr) (t33_l t33_c : Nat), hcell h_3 (a.add 4) = some (.slice t33_p t33_l t33_c) ∧
        CallsH Try.prog F.slices_DeleteFunc_s_sessions_Answer_sessions_Answer #[.slice t33_p t33_l t33_c, .func (.func F.sessions_Table_Keep_1) #[] #[.pointer (some ⟨b, 0, none⟩)]] h_3 fun v_1 h_4 =>
        ∃ (t35_p : Option Addr) (t35_l t35_c : Nat), v_1 = .slice t35_p t35_l t35_c ∧
        onSome t14_0 fun a_1 =>
        StoreP h_4 (a_1.add 4) (.slice t35_p t35_l t35_c) fun h_5 =>
        onSome t14_0 fun a_2 =>
        ∃ (t42_p : Option Addr) (t42_l t42_c : Nat), hcell h_5 (a_2.add 4) = some (.slice t42_p t42_l t42_c) ∧
        ∃ (t43 : Int), hcell h_5 ⟨b, 0, none⟩ = some (.int .u64 t43) ∧
        CallsH Try.prog F.slices_Clone_s_byte_byte #[.slice data_p data_l data_c] h_5 fun v_2 h_6 =>
        ∃ (t45_p : Option Addr) (t45_l t45_c : Nat), v_2 = .slice t45_p t45_l t45_c ∧
        hcell h_6 ⟨b, 0, none⟩ = some (.int .u64 t43) ∧
        hcell h_6 (a_2.add 4) = some (.slice t42_p t42_l t42_c) ∧
        NewP h_6 (.cells #[.int .u64 t43, .slice t45_p t45_l t45_c] T.sessions_Answer) fun b_1 h_7 =>
        hcell h_7 ⟨b, 0, none⟩ = some (.int .u64 t43) ∧
        hcell h_7 (a_2.add 4) = some (.slice t42_p t42_l t42_c) ∧
        denSem Try.prog (Builtin.append_ #[T.s_sessions_Answer, T.s_sessions_Answer] T.s_sessions_Answer #[.slice t42_p t42_l t42_c, .slice (some ⟨b_1, 0, none⟩) 1 1]) h_7 fun v_3 h_8 =>
        ∃ (t48_p : Option Addr) (t48_l t48_c : Nat), v_3 = .slice t48_p t48_l t48_c ∧
        hcell h_8 ⟨b, 0, none⟩ = some (.int .u64 t43) ∧
        onSome t14_0 fun a_3 =>
        StoreP h_8 (a_3.add 4) (.slice t48_p t48_l t48_c) fun h_9 =>
        onSome t14_0 fun a_4 =>
        ∃ (t54_p : Option Addr) (t54_l t54_c : Nat), hcell h_9 (a_4.add 4) = some (.slice t54_p t54_l t54_c) ∧
        JoinP (fun (h_10 : Heap) =>
          R (.int .i64 0) h_10)
        (fun J_1 =>
          if (decide (((t54_l : Nat) : Int) > 6)) = true then
            onSome t14_0 fun a_5 =>
            ∃ (t61_p : Option Addr) (t61_l t61_c : Nat), hcell h_9 (a_5.add 4) = some (.slice t61_p t61_l t61_c) ∧
            ((0 : Int) ≤ 1 ∧ 1 ≤ ((t61_l : Nat) : Int)) ∧ 
            CallsH Try.prog F.slices_Clone_s_sessions_Answer_sessions_Answer #[.slice (slBase t61_p t61_c (Int.toNat 1) 2) (t61_l - (Int.toNat 1)) (t61_c - (Int.toNat 1))] h_9 fun v_4 h_11 =>
            ∃ (t63_p : Option Addr) (t63_l t63_c : Nat), v_4 = .slice t63_p t63_l t63_c ∧
            onSome t14_0 fun a_6 =>
            StoreP h_11 (a_6.add 4) (.slice t63_p t63_l t63_c) fun h_12 =>
            J_1 h_12
          else
            J_1 h_9))
    (fun J =>
      ∃ (t22 : Int), hcell h_2 ⟨b, 0, none⟩ = some (.int .u64 t22) ∧
      if (decide (t22 > 1099511627776)) = true then
        J true h_2
      else
        J (decide (((data_l : Nat) : Int) > 1000)) h_2)
theorem sessions_Table_Keep.den_eq (t : Nat) (num : Int) (id : Int) (data_p : Option Addr) (data_l data_c : Nat) (h : Heap) (R : Value → Heap → Prop) : sessions_Table_Keep.vc t num id data_p data_l data_c h R = den Try.prog Try.f9.ntmps (.seq .leaf (.seq .leaf (.seq (.block (.seq .leaf (.cond (.seq .leaf .leaf) (.seq (.join [(21, .one (.bool))] .leaf) (.cond (.seq .leaf .leaf) .leaf))))) (.seq .leaf (.seq (.plan (.op 0 (.op 1 (.op 2 (.op 3 (.op 4 (.op 5 (.op 6 (.op 7 (.op 8 (.op 9 (.op 10 (.op 11 (.op 12 (.op 13 .done))))))))))))))) (.seq (.seq .leaf (.join [] (.cond .leaf .leaf))) (.seq .leaf .leaf))))))) none (bodyOf Try.f9) (retK Try.prog Try.f9.results R) (argEnv [.pointer (some ⟨t, 0, none⟩), .int .i64 num, .int .u64 id, .slice data_p data_l data_c]) h := by kernel_rfl
theorem sessions_Table_Keep.walk {t : Nat} {num : Int} {id : Int} {data_p : Option Addr} {data_l data_c : Nat} {h : Heap} {R : Value → Heap → Prop} (hv : sessions_Table_Keep.vc t num id data_p data_l data_c h R) : CallsH Try.prog F.sessions_Table_Keep #[.pointer (some ⟨t, 0, none⟩), .int .i64 num, .int .u64 id, .slice data_p data_l data_c] h R :=
  callsH_of_body _ Try.func9 rfl rfl (Eq.mp (sessions_Table_Keep.den_eq t num id data_p data_l data_c h R) hv)

def sessions_Table_Keep.nil.vc (num : Int) (id : Int) (data_p : Option Addr) (data_l data_c : Nat) (h : Heap) (R : Value → Heap → Prop) : Prop :=
  NewP h (.cells #[.int .u64 id] T.uint64) fun b h_1 =>
  CallsH Try.prog F.sessions_Table_find #[.pointer none, .int .i64 num] h_1 fun v h_2 =>
  ∃ (t14_0 : Option Addr), ∃ (t14_1 : Int), v = .tuple #[.pointer t14_0, .int .i64 t14_1] ∧
  if (t14_1 != 0) = true then
    R (.int .i64 t14_1) h_2
  else
    JoinP (fun (t21 : Bool) (h_3 : Heap) =>
      if t21 = true then
        R (.int .i64 1) h_3
      else
        onSome t14_0 fun a =>
        ∃ (t33_p : Option Addr) (t33_l t33_c : Nat), hcell h_3 (a.add 4) = some (.slice t33_p t33_l t33_c) ∧
        CallsH Try.prog F.slices_DeleteFunc_s_sessions_Answer_sessions_Answer #[.slice t33_p t33_l t33_c, .func (.func F.sessions_Table_Keep_1) #[] #[.pointer (some ⟨b, 0, none⟩)]] h_3 fun v_1 h_4 =>
        ∃ (t35_p : Option Addr) (t35_l t35_c : Nat), v_1 = .slice t35_p t35_l t35_c ∧
        onSome t14_0 fun a_1 =>
        StoreP h_4 (a_1.add 4) (.slice t35_p t35_l t35_c) fun h_5 =>
        onSome t14_0 fun a_2 =>
        ∃ (t42_p : Option Addr) (t42_l t42_c : Nat), hcell h_5 (a_2.add 4) = some (.slice t42_p t42_l t42_c) ∧
        ∃ (t43 : Int), hcell h_5 ⟨b, 0, none⟩ = some (.int .u64 t43) ∧
        CallsH Try.prog F.slices_Clone_s_byte_byte #[.slice data_p data_l data_c] h_5 fun v_2 h_6 =>
        ∃ (t45_p : Option Addr) (t45_l t45_c : Nat), v_2 = .slice t45_p t45_l t45_c ∧
        hcell h_6 ⟨b, 0, none⟩ = some (.int .u64 t43) ∧
        hcell h_6 (a_2.add 4) = some (.slice t42_p t42_l t42_c) ∧
        NewP h_6 (.cells #[.int .u64 t43, .slice t45_p t45_l t45_c] T.sessions_Answer) fun b_1 h_7 =>
        hcell h_7 ⟨b, 0, none⟩ = some (.int .u64 t43) ∧
        hcell h_7 (a_2.add 4) = some (.slice t42_p t42_l t42_c) ∧
        denSem Try.prog (Builtin.append_ #[T.s_sessions_Answer, T.s_sessions_Answer] T.s_sessions_Answer #[.slice t42_p t42_l t42_c, .slice (some ⟨b_1, 0, none⟩) 1 1]) h_7 fun v_3 h_8 =>
        ∃ (t48_p : Option Addr) (t48_l t48_c : Nat), v_3 = .slice t48_p t48_l t48_c ∧
        hcell h_8 ⟨b, 0, none⟩ = some (.int .u64 t43) ∧
        onSome t14_0 fun a_3 =>
        StoreP h_8 (a_3.add 4) (.slice t48_p t48_l t48_c) fun h_9 =>
        onSome t14_0 fun a_4 =>
        ∃ (t54_p : Option Addr) (t54_l t54_c : Nat), hcell h_9 (a_4.add 4) = some (.slice t54_p t54_l t54_c) ∧
        JoinP (fun (h_10 : Heap) =>
          R (.int .i64 0) h_10)
        (fun J_1 =>
          if (decide (((t54_l : Nat) : Int) > 6)) = true then
            onSome t14_0 fun a_5 =>
            ∃ (t61_p : Option Addr) (t61_l t61_c : Nat), hcell h_9 (a_5.add 4) = some (.slice t61_p t61_l t61_c) ∧
            ((0 : Int) ≤ 1 ∧ 1 ≤ ((t61_l : Nat) : Int)) ∧ 
            CallsH Try.prog F.slices_Clone_s_sessions_Answer_sessions_Answer #[.slice (slBase t61_p t61_c (Int.toNat 1) 2) (t61_l - (Int.toNat 1)) (t61_c - (Int.toNat 1))] h_9 fun v_4 h_11 =>
            ∃ (t63_p : Option Addr) (t63_l t63_c : Nat), v_4 = .slice t63_p t63_l t63_c ∧
            onSome t14_0 fun a_6 =>
            StoreP h_11 (a_6.add 4) (.slice t63_p t63_l t63_c) fun h_12 =>
            J_1 h_12
          else
            J_1 h_9))
    (fun J =>
      ∃ (t22 : Int), hcell h_2 ⟨b, 0, none⟩ = some (.int .u64 t22) ∧
      if (decide (t22 > 1099511627776)) = true then
        J true h_2
      else
        J (decide (((data_l : Nat) : Int) > 1000)) h_2)
theorem sessions_Table_Keep.nil.den_eq (num : Int) (id : Int) (data_p : Option Addr) (data_l data_c : Nat) (h : Heap) (R : Value → Heap → Prop) : sessions_Table_Keep.nil.vc num id data_p data_l data_c h R = den Try.prog Try.f9.ntmps (.seq .leaf (.seq .leaf (.seq (.block (.seq .leaf (.cond (.seq .leaf .leaf) (.seq (.join [(21, .one (.bool))] .leaf) (.cond (.seq .leaf .leaf) .leaf))))) (.seq .leaf (.seq (.plan (.op 0 (.op 1 (.op 2 (.op 3 (.op 4 (.op 5 (.op 6 (.op 7 (.op 8 (.op 9 (.op 10 (.op 11 (.op 12 (.op 13 .done))))))))))))))) (.seq (.seq .leaf (.join [] (.cond .leaf .leaf))) (.seq .leaf .leaf))))))) none (bodyOf Try.f9) (retK Try.prog Try.f9.results R) (argEnv [.pointer none, .int .i64 num, .int .u64 id, .slice data_p data_l data_c]) h := by kernel_rfl
theorem sessions_Table_Keep.nil.walk {num : Int} {id : Int} {data_p : Option Addr} {data_l data_c : Nat} {h : Heap} {R : Value → Heap → Prop} (hv : sessions_Table_Keep.nil.vc num id data_p data_l data_c h R) : CallsH Try.prog F.sessions_Table_Keep #[.pointer none, .int .i64 num, .int .u64 id, .slice data_p data_l data_c] h R :=
  callsH_of_body _ Try.func9 rfl rfl (Eq.mp (sessions_Table_Keep.nil.den_eq num id data_p data_l data_c h R) hv)

def sessions_Table_Keep_1.vc (a_0 : Int) (a_1_p : Option Addr) (a_1_l a_1_c : Nat) (c0 : Nat) (h : Heap) (R : Value → Heap → Prop) : Prop :=
  NewP h (.cells #[.int .u64 a_0, .slice a_1_p a_1_l a_1_c] T.sessions_Answer) fun b h_1 =>
  ∃ (t5 : Int), hcell h_1 ⟨b, 0, none⟩ = some (.int .u64 t5) ∧
  ∃ (t6 : Int), hcell h_1 ⟨c0, 0, none⟩ = some (.int .u64 t6) ∧
  R (.bool (t5 == t6)) h_1
theorem sessions_Table_Keep_1.den_eq (a_0 : Int) (a_1_p : Option Addr) (a_1_l a_1_c : Nat) (c0 : Nat) (h : Heap) (R : Value → Heap → Prop) : sessions_Table_Keep_1.vc a_0 a_1_p a_1_l a_1_c c0 h R = den Try.prog Try.f25.ntmps (.seq .leaf (.seq .leaf .leaf)) none (bodyOf Try.f25) (retK Try.prog Try.f25.results R) (argEnv [.agg #[.int .u64 a_0, .slice a_1_p a_1_l a_1_c], .pointer (some ⟨c0, 0, none⟩)]) h := by kernel_rfl
theorem sessions_Table_Keep_1.walk {a_0 : Int} {a_1_p : Option Addr} {a_1_l a_1_c : Nat} {c0 : Nat} {h : Heap} {R : Value → Heap → Prop} (hv : sessions_Table_Keep_1.vc a_0 a_1_p a_1_l a_1_c c0 h R) : CallsH Try.prog F.sessions_Table_Keep_1 #[.agg #[.int .u64 a_0, .slice a_1_p a_1_l a_1_c], .pointer (some ⟨c0, 0, none⟩)] h R :=
  callsH_of_body _ Try.func25 rfl rfl (Eq.mp (sessions_Table_Keep_1.den_eq a_0 a_1_p a_1_l a_1_c c0 h R) hv)

def sessions_Table_Kept.vc (t : Nat) (num : Int) (id : Int) (h : Heap) (R : Value → Heap → Prop) : Prop :=
  NewP h (.cells #[.int .u64 id] T.uint64) fun b h_1 =>
  CallsH Try.prog F.sessions_Table_find #[.pointer (some ⟨t, 0, none⟩), .int .i64 num] h_1 fun v h_2 =>
  ∃ (t14_0 : Option Addr), ∃ (t14_1 : Int), v = .tuple #[.pointer t14_0, .int .i64 t14_1] ∧
  if (t14_1 != 0) = true then
    R (.tuple #[.slice none 0 0, .bool false]) h_2
  else
    onSome t14_0 fun a =>
    ∃ (t22_p : Option Addr) (t22_l t22_c : Nat), hcell h_2 (a.add 4) = some (.slice t22_p t22_l t22_c) ∧
    CallsH Try.prog F.slices_IndexFunc_s_sessions_Answer_sessions_Answer #[.slice t22_p t22_l t22_c, .func (.func F.sessions_Table_Kept_1) #[] #[.pointer (some ⟨b, 0, none⟩)]] h_2 fun v_1 h_3 =>
    ∃ (t24 : Int), v_1 = .int .i64 t24 ∧
    if (decide (t24 < 0)) = true then
      R (.tuple #[.slice none 0 0, .bool false]) h_3
    else
      onSome t14_0 fun a_1 =>
      ∃ (t30_p : Option Addr) (t30_l t30_c : Nat), hcell h_3 (a_1.add 4) = some (.slice t30_p t30_l t30_c) ∧
      ((0 : Int) ≤ t24 ∧ t24 < ((t30_l : Nat) : Int)) ∧
      onSome t30_p fun a_2 =>
      ∃ (t34_p : Option Addr) (t34_l t34_c : Nat), hcell h_3 ((a_2.add (Int.toNat t24 * 2)).add 1) = some (.slice t34_p t34_l t34_c) ∧
      CallsH Try.prog F.slices_Clone_s_byte_byte #[.slice t34_p t34_l t34_c] h_3 fun v_2 h_4 =>
      ∃ (t35_p : Option Addr) (t35_l t35_c : Nat), v_2 = .slice t35_p t35_l t35_c ∧
      R (.tuple #[.slice t35_p t35_l t35_c, .bool true]) h_4
theorem sessions_Table_Kept.den_eq (t : Nat) (num : Int) (id : Int) (h : Heap) (R : Value → Heap → Prop) : sessions_Table_Kept.vc t num id h R = den Try.prog Try.f10.ntmps (.seq .leaf (.seq .leaf (.seq (.seq .leaf (.cond (.seq .leaf .leaf) .leaf)) (.seq .leaf (.seq (.seq .leaf (.cond (.seq .leaf .leaf) .leaf)) (.seq .leaf .leaf)))))) none (bodyOf Try.f10) (retK Try.prog Try.f10.results R) (argEnv [.pointer (some ⟨t, 0, none⟩), .int .i64 num, .int .u64 id]) h := by kernel_rfl
theorem sessions_Table_Kept.walk {t : Nat} {num : Int} {id : Int} {h : Heap} {R : Value → Heap → Prop} (hv : sessions_Table_Kept.vc t num id h R) : CallsH Try.prog F.sessions_Table_Kept #[.pointer (some ⟨t, 0, none⟩), .int .i64 num, .int .u64 id] h R :=
  callsH_of_body _ Try.func10 rfl rfl (Eq.mp (sessions_Table_Kept.den_eq t num id h R) hv)

def sessions_Table_Kept.nil.vc (num : Int) (id : Int) (h : Heap) (R : Value → Heap → Prop) : Prop :=
  NewP h (.cells #[.int .u64 id] T.uint64) fun b h_1 =>
  CallsH Try.prog F.sessions_Table_find #[.pointer none, .int .i64 num] h_1 fun v h_2 =>
  ∃ (t14_0 : Option Addr), ∃ (t14_1 : Int), v = .tuple #[.pointer t14_0, .int .i64 t14_1] ∧
  if (t14_1 != 0) = true then
    R (.tuple #[.slice none 0 0, .bool false]) h_2
  else
    onSome t14_0 fun a =>
    ∃ (t22_p : Option Addr) (t22_l t22_c : Nat), hcell h_2 (a.add 4) = some (.slice t22_p t22_l t22_c) ∧
    CallsH Try.prog F.slices_IndexFunc_s_sessions_Answer_sessions_Answer #[.slice t22_p t22_l t22_c, .func (.func F.sessions_Table_Kept_1) #[] #[.pointer (some ⟨b, 0, none⟩)]] h_2 fun v_1 h_3 =>
    ∃ (t24 : Int), v_1 = .int .i64 t24 ∧
    if (decide (t24 < 0)) = true then
      R (.tuple #[.slice none 0 0, .bool false]) h_3
    else
      onSome t14_0 fun a_1 =>
      ∃ (t30_p : Option Addr) (t30_l t30_c : Nat), hcell h_3 (a_1.add 4) = some (.slice t30_p t30_l t30_c) ∧
      ((0 : Int) ≤ t24 ∧ t24 < ((t30_l : Nat) : Int)) ∧
      onSome t30_p fun a_2 =>
      ∃ (t34_p : Option Addr) (t34_l t34_c : Nat), hcell h_3 ((a_2.add (Int.toNat t24 * 2)).add 1) = some (.slice t34_p t34_l t34_c) ∧
      CallsH Try.prog F.slices_Clone_s_byte_byte #[.slice t34_p t34_l t34_c] h_3 fun v_2 h_4 =>
      ∃ (t35_p : Option Addr) (t35_l t35_c : Nat), v_2 = .slice t35_p t35_l t35_c ∧
      R (.tuple #[.slice t35_p t35_l t35_c, .bool true]) h_4
theorem sessions_Table_Kept.nil.den_eq (num : Int) (id : Int) (h : Heap) (R : Value → Heap → Prop) : sessions_Table_Kept.nil.vc num id h R = den Try.prog Try.f10.ntmps (.seq .leaf (.seq .leaf (.seq (.seq .leaf (.cond (.seq .leaf .leaf) .leaf)) (.seq .leaf (.seq (.seq .leaf (.cond (.seq .leaf .leaf) .leaf)) (.seq .leaf .leaf)))))) none (bodyOf Try.f10) (retK Try.prog Try.f10.results R) (argEnv [.pointer none, .int .i64 num, .int .u64 id]) h := by kernel_rfl
theorem sessions_Table_Kept.nil.walk {num : Int} {id : Int} {h : Heap} {R : Value → Heap → Prop} (hv : sessions_Table_Kept.nil.vc num id h R) : CallsH Try.prog F.sessions_Table_Kept #[.pointer none, .int .i64 num, .int .u64 id] h R :=
  callsH_of_body _ Try.func10 rfl rfl (Eq.mp (sessions_Table_Kept.nil.den_eq num id h R) hv)

def sessions_Table_Kept_1.vc (a_0 : Int) (a_1_p : Option Addr) (a_1_l a_1_c : Nat) (c0 : Nat) (h : Heap) (R : Value → Heap → Prop) : Prop :=
  NewP h (.cells #[.int .u64 a_0, .slice a_1_p a_1_l a_1_c] T.sessions_Answer) fun b h_1 =>
  ∃ (t5 : Int), hcell h_1 ⟨b, 0, none⟩ = some (.int .u64 t5) ∧
  ∃ (t6 : Int), hcell h_1 ⟨c0, 0, none⟩ = some (.int .u64 t6) ∧
  R (.bool (t5 == t6)) h_1
theorem sessions_Table_Kept_1.den_eq (a_0 : Int) (a_1_p : Option Addr) (a_1_l a_1_c : Nat) (c0 : Nat) (h : Heap) (R : Value → Heap → Prop) : sessions_Table_Kept_1.vc a_0 a_1_p a_1_l a_1_c c0 h R = den Try.prog Try.f29.ntmps (.seq .leaf (.seq .leaf .leaf)) none (bodyOf Try.f29) (retK Try.prog Try.f29.results R) (argEnv [.agg #[.int .u64 a_0, .slice a_1_p a_1_l a_1_c], .pointer (some ⟨c0, 0, none⟩)]) h := by kernel_rfl
theorem sessions_Table_Kept_1.walk {a_0 : Int} {a_1_p : Option Addr} {a_1_l a_1_c : Nat} {c0 : Nat} {h : Heap} {R : Value → Heap → Prop} (hv : sessions_Table_Kept_1.vc a_0 a_1_p a_1_l a_1_c c0 h R) : CallsH Try.prog F.sessions_Table_Kept_1 #[.agg #[.int .u64 a_0, .slice a_1_p a_1_l a_1_c], .pointer (some ⟨c0, 0, none⟩)] h R :=
  callsH_of_body _ Try.func29 rfl rfl (Eq.mp (sessions_Table_Kept_1.den_eq a_0 a_1_p a_1_l a_1_c c0 h R) hv)

def sessions_Table_Watch.vc (t : Nat) (num : Int) (on : Bool) (h : Heap) (R : Value → Heap → Prop) : Prop :=
  CallsH Try.prog F.sessions_Table_find #[.pointer (some ⟨t, 0, none⟩), .int .i64 num] h fun v h_1 =>
  ∃ (t12_0 : Option Addr), ∃ (t12_1 : Int), v = .tuple #[.pointer t12_0, .int .i64 t12_1] ∧
  JoinP (fun (h_2 : Heap) =>
    R (.int .i64 t12_1) h_2)
  (fun J =>
    if (t12_1 == 0) = true then
      onSome t12_0 fun a =>
      StoreP h_1 (a.add 3) (.bool on) fun h_3 =>
      J h_3
    else
      J h_1)
theorem sessions_Table_Watch.den_eq (t : Nat) (num : Int) (on : Bool) (h : Heap) (R : Value → Heap → Prop) : sessions_Table_Watch.vc t num on h R = den Try.prog Try.f15.ntmps (.seq .leaf (.seq .leaf (.seq (.seq .leaf (.join [] (.cond .leaf .leaf))) (.seq .leaf .leaf)))) none (bodyOf Try.f15) (retK Try.prog Try.f15.results R) (argEnv [.pointer (some ⟨t, 0, none⟩), .int .i64 num, .bool on]) h := by kernel_rfl
theorem sessions_Table_Watch.walk {t : Nat} {num : Int} {on : Bool} {h : Heap} {R : Value → Heap → Prop} (hv : sessions_Table_Watch.vc t num on h R) : CallsH Try.prog F.sessions_Table_Watch #[.pointer (some ⟨t, 0, none⟩), .int .i64 num, .bool on] h R :=
  callsH_of_body _ Try.func15 rfl rfl (Eq.mp (sessions_Table_Watch.den_eq t num on h R) hv)

def sessions_Table_Watch.nil.vc (num : Int) (on : Bool) (h : Heap) (R : Value → Heap → Prop) : Prop :=
  CallsH Try.prog F.sessions_Table_find #[.pointer none, .int .i64 num] h fun v h_1 =>
  ∃ (t12_0 : Option Addr), ∃ (t12_1 : Int), v = .tuple #[.pointer t12_0, .int .i64 t12_1] ∧
  JoinP (fun (h_2 : Heap) =>
    R (.int .i64 t12_1) h_2)
  (fun J =>
    if (t12_1 == 0) = true then
      onSome t12_0 fun a =>
      StoreP h_1 (a.add 3) (.bool on) fun h_3 =>
      J h_3
    else
      J h_1)
theorem sessions_Table_Watch.nil.den_eq (num : Int) (on : Bool) (h : Heap) (R : Value → Heap → Prop) : sessions_Table_Watch.nil.vc num on h R = den Try.prog Try.f15.ntmps (.seq .leaf (.seq .leaf (.seq (.seq .leaf (.join [] (.cond .leaf .leaf))) (.seq .leaf .leaf)))) none (bodyOf Try.f15) (retK Try.prog Try.f15.results R) (argEnv [.pointer none, .int .i64 num, .bool on]) h := by kernel_rfl
theorem sessions_Table_Watch.nil.walk {num : Int} {on : Bool} {h : Heap} {R : Value → Heap → Prop} (hv : sessions_Table_Watch.nil.vc num on h R) : CallsH Try.prog F.sessions_Table_Watch #[.pointer none, .int .i64 num, .bool on] h R :=
  callsH_of_body _ Try.func15 rfl rfl (Eq.mp (sessions_Table_Watch.nil.den_eq num on h R) hv)

def sessions_isNote.vc (b_p : Option Addr) (b_l b_c : Nat) (h : Heap) (R : Value → Heap → Prop) : Prop :=
  if (decide (((b_l : Nat) : Int) ≥ 1)) = true then
    R (.bool (decide (((b_l : Nat) : Int) ≤ 600))) h
  else
    R (.bool false) h
theorem sessions_isNote.den_eq (b_p : Option Addr) (b_l b_c : Nat) (h : Heap) (R : Value → Heap → Prop) : sessions_isNote.vc b_p b_l b_c h R = den Try.prog Try.f30.ntmps (.seq .leaf (.seq .leaf .leaf)) none (bodyOf Try.f30) (retK Try.prog Try.f30.results R) (argEnv [.slice b_p b_l b_c]) h := by kernel_rfl
theorem sessions_isNote.walk {b_p : Option Addr} {b_l b_c : Nat} {h : Heap} {R : Value → Heap → Prop} (hv : sessions_isNote.vc b_p b_l b_c h R) : CallsH Try.prog F.sessions_isNote #[.slice b_p b_l b_c] h R :=
  callsH_of_body _ Try.func30 rfl rfl (Eq.mp (sessions_isNote.den_eq b_p b_l b_c h R) hv)

def sessions_Table_Note.vc (t : Nat) (num : Int) (data_p : Option Addr) (data_l data_c : Nat) (h : Heap) (R : Value → Heap → Prop) : Prop :=
  CallsH Try.prog F.sessions_Table_find #[.pointer (some ⟨t, 0, none⟩), .int .i64 num] h fun v h_1 =>
  ∃ (t12_0 : Option Addr), ∃ (t12_1 : Int), v = .tuple #[.pointer t12_0, .int .i64 t12_1] ∧
  if (t12_1 != 0) = true then
    R (.int .i64 t12_1) h_1
  else
    CallsH Try.prog F.sessions_isNote #[.slice data_p data_l data_c] h_1 fun v_1 h_2 =>
    ∃ (t21 : Bool), v_1 = .bool t21 ∧
    if (!t21) = true then
      R (.int .i64 1) h_2
    else
      onSome t12_0 fun a =>
      ∃ (t27 : Bool), hcell h_2 (a.add 3) = some (.bool t27) ∧
      if (!t27) = true then
        R (.int .i64 7) h_2
      else
        onSome t12_0 fun a_1 =>
        ∃ (t33_p : Option Addr) (t33_l t33_c : Nat), hcell h_2 (a_1.add 5) = some (.slice t33_p t33_l t33_c) ∧
        CallsH Try.prog F.slices_Clone_s_byte_byte #[.slice data_p data_l data_c] h_2 fun v_2 h_3 =>
        ∃ (t35_p : Option Addr) (t35_l t35_c : Nat), v_2 = .slice t35_p t35_l t35_c ∧
        hcell h_3 (a_1.add 5) = some (.slice t33_p t33_l t33_c) ∧
        NewP h_3 (.cells #[.slice t35_p t35_l t35_c] T.s_uint8) fun b h_4 =>
        hcell h_4 (a_1.add 5) = some (.slice t33_p t33_l t33_c) ∧
        denSem Try.prog (Builtin.append_ #[T.s_s_uint8, T.s_s_uint8] T.s_s_uint8 #[.slice t33_p t33_l t33_c, .slice (some ⟨b, 0, none⟩) 1 1]) h_4 fun v_3 h_5 =>
        ∃ (t37_p : Option Addr) (t37_l t37_c : Nat), v_3 = .slice t37_p t37_l t37_c ∧
        onSome t12_0 fun a_2 =>
        StoreP h_5 (a_2.add 5) (.slice t37_p t37_l t37_c) fun h_6 =>
        onSome t12_0 fun a_3 =>
        ∃ (t43_p : Option Addr) (t43_l t43_c : Nat), hcell h_6 (a_3.add 5) = some (.slice t43_p t43_l t43_c) ∧
        JoinP (fun (h_7 : Heap) =>
          R (.int .i64 0) h_7)
        (fun J =>
          if (decide (((t43_l : Nat) : Int) > 6)) = true then
            onSome t12_0 fun a_4 =>
            ∃ (t50_p : Option Addr) (t50_l t50_c : Nat), hcell h_6 (a_4.add 5) = some (.slice t50_p t50_l t50_c) ∧
            ((0 : Int) ≤ 1 ∧ 1 ≤ ((t50_l : Nat) : Int)) ∧ 
            CallsH Try.prog F.slices_Clone_s_s_byte_s_byte #[.slice (slBase t50_p t50_c (Int.toNat 1) 1) (t50_l - (Int.toNat 1)) (t50_c - (Int.toNat 1))] h_6 fun v_4 h_8 =>
            ∃ (t52_p : Option Addr) (t52_l t52_c : Nat), v_4 = .slice t52_p t52_l t52_c ∧
            onSome t12_0 fun a_5 =>
            StoreP h_8 (a_5.add 5) (.slice t52_p t52_l t52_c) fun h_9 =>
            J h_9
          else
            J h_6)
theorem sessions_Table_Note.den_eq (t : Nat) (num : Int) (data_p : Option Addr) (data_l data_c : Nat) (h : Heap) (R : Value → Heap → Prop) : sessions_Table_Note.vc t num data_p data_l data_c h R = den Try.prog Try.f16.ntmps (.seq .leaf (.seq .leaf (.seq (.block (.seq .leaf (.cond (.seq .leaf .leaf) (.seq .leaf (.cond (.seq .leaf .leaf) (.seq .leaf (.cond (.seq .leaf .leaf) .leaf))))))) (.seq (.plan (.op 0 (.op 1 (.op 2 (.op 3 (.op 4 (.op 5 (.op 6 (.op 7 (.op 8 (.op 9 (.op 10 (.op 11 .done))))))))))))) (.seq (.seq .leaf (.join [] (.cond .leaf .leaf))) (.seq .leaf .leaf)))))) none (bodyOf Try.f16) (retK Try.prog Try.f16.results R) (argEnv [.pointer (some ⟨t, 0, none⟩), .int .i64 num, .slice data_p data_l data_c]) h := by kernel_rfl
theorem sessions_Table_Note.walk {t : Nat} {num : Int} {data_p : Option Addr} {data_l data_c : Nat} {h : Heap} {R : Value → Heap → Prop} (hv : sessions_Table_Note.vc t num data_p data_l data_c h R) : CallsH Try.prog F.sessions_Table_Note #[.pointer (some ⟨t, 0, none⟩), .int .i64 num, .slice data_p data_l data_c] h R :=
  callsH_of_body _ Try.func16 rfl rfl (Eq.mp (sessions_Table_Note.den_eq t num data_p data_l data_c h R) hv)

def sessions_Table_Note.nil.vc (num : Int) (data_p : Option Addr) (data_l data_c : Nat) (h : Heap) (R : Value → Heap → Prop) : Prop :=
  CallsH Try.prog F.sessions_Table_find #[.pointer none, .int .i64 num] h fun v h_1 =>
  ∃ (t12_0 : Option Addr), ∃ (t12_1 : Int), v = .tuple #[.pointer t12_0, .int .i64 t12_1] ∧
  if (t12_1 != 0) = true then
    R (.int .i64 t12_1) h_1
  else
    CallsH Try.prog F.sessions_isNote #[.slice data_p data_l data_c] h_1 fun v_1 h_2 =>
    ∃ (t21 : Bool), v_1 = .bool t21 ∧
    if (!t21) = true then
      R (.int .i64 1) h_2
    else
      onSome t12_0 fun a =>
      ∃ (t27 : Bool), hcell h_2 (a.add 3) = some (.bool t27) ∧
      if (!t27) = true then
        R (.int .i64 7) h_2
      else
        onSome t12_0 fun a_1 =>
        ∃ (t33_p : Option Addr) (t33_l t33_c : Nat), hcell h_2 (a_1.add 5) = some (.slice t33_p t33_l t33_c) ∧
        CallsH Try.prog F.slices_Clone_s_byte_byte #[.slice data_p data_l data_c] h_2 fun v_2 h_3 =>
        ∃ (t35_p : Option Addr) (t35_l t35_c : Nat), v_2 = .slice t35_p t35_l t35_c ∧
        hcell h_3 (a_1.add 5) = some (.slice t33_p t33_l t33_c) ∧
        NewP h_3 (.cells #[.slice t35_p t35_l t35_c] T.s_uint8) fun b h_4 =>
        hcell h_4 (a_1.add 5) = some (.slice t33_p t33_l t33_c) ∧
        denSem Try.prog (Builtin.append_ #[T.s_s_uint8, T.s_s_uint8] T.s_s_uint8 #[.slice t33_p t33_l t33_c, .slice (some ⟨b, 0, none⟩) 1 1]) h_4 fun v_3 h_5 =>
        ∃ (t37_p : Option Addr) (t37_l t37_c : Nat), v_3 = .slice t37_p t37_l t37_c ∧
        onSome t12_0 fun a_2 =>
        StoreP h_5 (a_2.add 5) (.slice t37_p t37_l t37_c) fun h_6 =>
        onSome t12_0 fun a_3 =>
        ∃ (t43_p : Option Addr) (t43_l t43_c : Nat), hcell h_6 (a_3.add 5) = some (.slice t43_p t43_l t43_c) ∧
        JoinP (fun (h_7 : Heap) =>
          R (.int .i64 0) h_7)
        (fun J =>
          if (decide (((t43_l : Nat) : Int) > 6)) = true then
            onSome t12_0 fun a_4 =>
            ∃ (t50_p : Option Addr) (t50_l t50_c : Nat), hcell h_6 (a_4.add 5) = some (.slice t50_p t50_l t50_c) ∧
            ((0 : Int) ≤ 1 ∧ 1 ≤ ((t50_l : Nat) : Int)) ∧ 
            CallsH Try.prog F.slices_Clone_s_s_byte_s_byte #[.slice (slBase t50_p t50_c (Int.toNat 1) 1) (t50_l - (Int.toNat 1)) (t50_c - (Int.toNat 1))] h_6 fun v_4 h_8 =>
            ∃ (t52_p : Option Addr) (t52_l t52_c : Nat), v_4 = .slice t52_p t52_l t52_c ∧
            onSome t12_0 fun a_5 =>
            StoreP h_8 (a_5.add 5) (.slice t52_p t52_l t52_c) fun h_9 =>
            J h_9
          else
            J h_6)
theorem sessions_Table_Note.nil.den_eq (num : Int) (data_p : Option Addr) (data_l data_c : Nat) (h : Heap) (R : Value → Heap → Prop) : sessions_Table_Note.nil.vc num data_p data_l data_c h R = den Try.prog Try.f16.ntmps (.seq .leaf (.seq .leaf (.seq (.block (.seq .leaf (.cond (.seq .leaf .leaf) (.seq .leaf (.cond (.seq .leaf .leaf) (.seq .leaf (.cond (.seq .leaf .leaf) .leaf))))))) (.seq (.plan (.op 0 (.op 1 (.op 2 (.op 3 (.op 4 (.op 5 (.op 6 (.op 7 (.op 8 (.op 9 (.op 10 (.op 11 .done))))))))))))) (.seq (.seq .leaf (.join [] (.cond .leaf .leaf))) (.seq .leaf .leaf)))))) none (bodyOf Try.f16) (retK Try.prog Try.f16.results R) (argEnv [.pointer none, .int .i64 num, .slice data_p data_l data_c]) h := by kernel_rfl
theorem sessions_Table_Note.nil.walk {num : Int} {data_p : Option Addr} {data_l data_c : Nat} {h : Heap} {R : Value → Heap → Prop} (hv : sessions_Table_Note.nil.vc num data_p data_l data_c h R) : CallsH Try.prog F.sessions_Table_Note #[.pointer none, .int .i64 num, .slice data_p data_l data_c] h R :=
  callsH_of_body _ Try.func16 rfl rfl (Eq.mp (sessions_Table_Note.nil.den_eq num data_p data_l data_c h R) hv)

def sessions_Table_Read.vc (t : Nat) (num : Int) (h : Heap) (R : Value → Heap → Prop) : Prop :=
  CallsH Try.prog F.sessions_Table_find #[.pointer (some ⟨t, 0, none⟩), .int .i64 num] h fun v h_1 =>
  ∃ (t14_0 : Option Addr), ∃ (t14_1 : Int), v = .tuple #[.pointer t14_0, .int .i64 t14_1] ∧
  JoinP (fun (n : Int) (h_2 : Heap) =>
    if (n == 0) = true then
      R (.tuple #[.slice none 0 0, .int .i64 0, .int .i64 t14_1]) h_2
    else
      onSome t14_0 fun a =>
      ∃ (t30_p : Option Addr) (t30_l t30_c : Nat), hcell h_2 (a.add 5) = some (.slice t30_p t30_l t30_c) ∧
      ((0 : Int) ≤ 0 ∧ 0 < ((t30_l : Nat) : Int)) ∧
      onSome t30_p fun a_1 =>
      ∃ (t32_p : Option Addr) (t32_l t32_c : Nat), hcell h_2 (a_1.add (Int.toNat 0 * 1)) = some (.slice t32_p t32_l t32_c) ∧
      onSome t14_0 fun a_2 =>
      ∃ (t37_p : Option Addr) (t37_l t37_c : Nat), hcell h_2 (a_2.add 5) = some (.slice t37_p t37_l t37_c) ∧
      ((0 : Int) ≤ 1 ∧ 1 ≤ ((t37_l : Nat) : Int)) ∧ 
      CallsH Try.prog F.slices_Clone_s_s_byte_s_byte #[.slice (slBase t37_p t37_c (Int.toNat 1) 1) (t37_l - (Int.toNat 1)) (t37_c - (Int.toNat 1))] h_2 fun v_1 h_3 =>
      ∃ (t39_p : Option Addr) (t39_l t39_c : Nat), v_1 = .slice t39_p t39_l t39_c ∧
      onSome t14_0 fun a_3 =>
      StoreP h_3 (a_3.add 5) (.slice t39_p t39_l t39_c) fun h_4 =>
      R (.tuple #[.slice t32_p t32_l t32_c, .int .i64 n, .int .i64 0]) h_4)
  (fun J =>
    if (t14_1 == 0) = true then
      onSome t14_0 fun a_4 =>
      ∃ (t22_p : Option Addr) (t22_l t22_c : Nat), hcell h_1 (a_4.add 5) = some (.slice t22_p t22_l t22_c) ∧
      J ((t22_l : Nat) : Int) h_1
    else
      J 0 h_1)
theorem sessions_Table_Read.den_eq (t : Nat) (num : Int) (h : Heap) (R : Value → Heap → Prop) : sessions_Table_Read.vc t num h R = den Try.prog Try.f22.ntmps (.seq .leaf (.seq .leaf (.seq .leaf (.seq (.seq .leaf (.join [(9, .one (.int .i64))] (.cond .leaf .leaf))) (.seq (.seq .leaf (.cond (.seq .leaf .leaf) .leaf)) (.seq .leaf (.seq .leaf (.seq .leaf .leaf)))))))) none (bodyOf Try.f22) (retK Try.prog Try.f22.results R) (argEnv [.pointer (some ⟨t, 0, none⟩), .int .i64 num]) h := by kernel_rfl
theorem sessions_Table_Read.walk {t : Nat} {num : Int} {h : Heap} {R : Value → Heap → Prop} (hv : sessions_Table_Read.vc t num h R) : CallsH Try.prog F.sessions_Table_Read #[.pointer (some ⟨t, 0, none⟩), .int .i64 num] h R :=
  callsH_of_body _ Try.func22 rfl rfl (Eq.mp (sessions_Table_Read.den_eq t num h R) hv)

def sessions_Table_Read.nil.vc (num : Int) (h : Heap) (R : Value → Heap → Prop) : Prop :=
  CallsH Try.prog F.sessions_Table_find #[.pointer none, .int .i64 num] h fun v h_1 =>
  ∃ (t14_0 : Option Addr), ∃ (t14_1 : Int), v = .tuple #[.pointer t14_0, .int .i64 t14_1] ∧
  JoinP (fun (n : Int) (h_2 : Heap) =>
    if (n == 0) = true then
      R (.tuple #[.slice none 0 0, .int .i64 0, .int .i64 t14_1]) h_2
    else
      onSome t14_0 fun a =>
      ∃ (t30_p : Option Addr) (t30_l t30_c : Nat), hcell h_2 (a.add 5) = some (.slice t30_p t30_l t30_c) ∧
      ((0 : Int) ≤ 0 ∧ 0 < ((t30_l : Nat) : Int)) ∧
      onSome t30_p fun a_1 =>
      ∃ (t32_p : Option Addr) (t32_l t32_c : Nat), hcell h_2 (a_1.add (Int.toNat 0 * 1)) = some (.slice t32_p t32_l t32_c) ∧
      onSome t14_0 fun a_2 =>
      ∃ (t37_p : Option Addr) (t37_l t37_c : Nat), hcell h_2 (a_2.add 5) = some (.slice t37_p t37_l t37_c) ∧
      ((0 : Int) ≤ 1 ∧ 1 ≤ ((t37_l : Nat) : Int)) ∧ 
      CallsH Try.prog F.slices_Clone_s_s_byte_s_byte #[.slice (slBase t37_p t37_c (Int.toNat 1) 1) (t37_l - (Int.toNat 1)) (t37_c - (Int.toNat 1))] h_2 fun v_1 h_3 =>
      ∃ (t39_p : Option Addr) (t39_l t39_c : Nat), v_1 = .slice t39_p t39_l t39_c ∧
      onSome t14_0 fun a_3 =>
      StoreP h_3 (a_3.add 5) (.slice t39_p t39_l t39_c) fun h_4 =>
      R (.tuple #[.slice t32_p t32_l t32_c, .int .i64 n, .int .i64 0]) h_4)
  (fun J =>
    if (t14_1 == 0) = true then
      onSome t14_0 fun a_4 =>
      ∃ (t22_p : Option Addr) (t22_l t22_c : Nat), hcell h_1 (a_4.add 5) = some (.slice t22_p t22_l t22_c) ∧
      J ((t22_l : Nat) : Int) h_1
    else
      J 0 h_1)
theorem sessions_Table_Read.nil.den_eq (num : Int) (h : Heap) (R : Value → Heap → Prop) : sessions_Table_Read.nil.vc num h R = den Try.prog Try.f22.ntmps (.seq .leaf (.seq .leaf (.seq .leaf (.seq (.seq .leaf (.join [(9, .one (.int .i64))] (.cond .leaf .leaf))) (.seq (.seq .leaf (.cond (.seq .leaf .leaf) .leaf)) (.seq .leaf (.seq .leaf (.seq .leaf .leaf)))))))) none (bodyOf Try.f22) (retK Try.prog Try.f22.results R) (argEnv [.pointer none, .int .i64 num]) h := by kernel_rfl
theorem sessions_Table_Read.nil.walk {num : Int} {h : Heap} {R : Value → Heap → Prop} (hv : sessions_Table_Read.nil.vc num h R) : CallsH Try.prog F.sessions_Table_Read #[.pointer none, .int .i64 num] h R :=
  callsH_of_body _ Try.func22 rfl rfl (Eq.mp (sessions_Table_Read.nil.den_eq num h R) hv)

end Go.Proofs.Ytlnofnmdiddmkaa
