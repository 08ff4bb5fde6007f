/-
  Printed by a program of this work (vc.py): the verification conditions of functions, and that each is enough for the call. No condition.
-/
import Derived.Test.YtjjmbohnchngcaaNames
set_option maxRecDepth 100000
set_option maxHeartbeats 4000000
namespace Go.Proofs.Ytjjmbohnchngcaa
open Go.Den
def quota_Purse_made.vc (p : Nat) (h : Heap) (R : Value → Heap → Prop) : Prop :=
  ∃ (t9 : Option Nat), hcell h ⟨p, 2, none⟩ = some (.map t9) ∧
  R (.bool (!t9.isNone)) h
theorem quota_Purse_made.den_eq (p : Nat) (h : Heap) (R : Value → Heap → Prop) : quota_Purse_made.vc p h R = den Try.prog Try.f17.ntmps (.seq .leaf (.seq .leaf .leaf)) (bodyOf Try.f17) (retK Try.prog Try.f17.results R) (argEnv [.pointer (some ⟨p, 0, none⟩)]) h := by kernel_rfl
theorem quota_Purse_made.walk {p : Nat} {h : Heap} {R : Value → Heap → Prop} (hv : quota_Purse_made.vc p h R) : CallsH Try.prog F.quota_Purse_made #[.pointer (some ⟨p, 0, none⟩)] h R :=
  callsH_of_body _ Try.func17 rfl rfl (Eq.mp (quota_Purse_made.den_eq p h R) hv)

def quota_Purse_made.nil.vc  (h : Heap) (R : Value → Heap → Prop) : Prop :=
  R (.bool false) h
theorem quota_Purse_made.nil.den_eq  (h : Heap) (R : Value → Heap → Prop) : quota_Purse_made.nil.vc h R = den Try.prog Try.f17.ntmps (.seq .leaf (.seq .leaf .leaf)) (bodyOf Try.f17) (retK Try.prog Try.f17.results R) (argEnv [.pointer none]) h := by kernel_rfl
theorem quota_Purse_made.nil.walk  {h : Heap} {R : Value → Heap → Prop} (hv : quota_Purse_made.nil.vc h R) : CallsH Try.prog F.quota_Purse_made #[.pointer none] h R :=
  callsH_of_body _ Try.func17 rfl rfl (Eq.mp (quota_Purse_made.nil.den_eq h R) hv)

def quota_New.vc (whole : Int) (share : Int) (h : Heap) (R : Value → Heap → Prop) : Prop :=
  JoinP (fun (t20 : Bool) (h_1 : Heap) =>
    if t20 = true then
      R (.tuple #[.pointer none, .int .i64 1]) h_1
    else
      NewP h_1 (.map #[] 0) fun b h_2 =>
      NewP h_2 (.cells #[.int .i64 whole, .int .i64 share, .map (some b), .int .i64 0] T.quota_Purse) fun b_1 h_3 =>
      R (.tuple #[.pointer (some ⟨b_1, 0, none⟩), .int .i64 0]) h_3)
  (fun J =>
    if (decide (whole < 1)) = true then
      J true h
    else
      if (decide (whole > 1048576)) = true then
        J true h
      else
        if (decide (share < 1)) = true then
          J true h
        else
          J (decide (share > whole)) h)
theorem quota_New.den_eq (whole : Int) (share : Int) (h : Heap) (R : Value → Heap → Prop) : quota_New.vc whole share h R = den Try.prog Try.f6.ntmps (.seq .leaf (.seq (.seq (.join [(20, .one (.bool))] .leaf) (.cond (.seq .leaf .leaf) .leaf)) (.seq .leaf .leaf))) (bodyOf Try.f6) (retK Try.prog Try.f6.results R) (argEnv [.int .i64 whole, .int .i64 share]) h := by kernel_rfl
theorem quota_New.walk {whole : Int} {share : Int} {h : Heap} {R : Value → Heap → Prop} (hv : quota_New.vc whole share h R) : CallsH Try.prog F.quota_New #[.int .i64 whole, .int .i64 share] h R :=
  callsH_of_body _ Try.func6 rfl rfl (Eq.mp (quota_New.den_eq whole share h R) hv)

def quota_Purse_Used.vc (p : Nat) (owner : Int) (h : Heap) (R : Value → Heap → Prop) : Prop :=
  CallsH Try.prog F.quota_Purse_made #[.pointer (some ⟨p, 0, none⟩)] h fun v h_1 =>
  ∃ (t6 : Bool), v = .bool t6 ∧
  if (!t6) = true then
    R (.int .i64 0) h_1
  else
    ∃ (t11 : Option Nat), hcell h_1 ⟨p, 2, none⟩ = some (.map t11) ∧
    ∃ (t13 : Int), LookV Try.prog T.m_int_int (.map t11) (.int .i64 owner) false h_1 (.int .i64 t13) ∧
    R (.int .i64 t13) h_1
theorem quota_Purse_Used.den_eq (p : Nat) (owner : Int) (h : Heap) (R : Value → Heap → Prop) : quota_Purse_Used.vc p owner h R = den Try.prog Try.f14.ntmps (.seq .leaf (.seq (.seq .leaf (.cond (.seq .leaf .leaf) .leaf)) (.seq .leaf .leaf))) (bodyOf Try.f14) (retK Try.prog Try.f14.results R) (argEnv [.pointer (some ⟨p, 0, none⟩), .int .i64 owner]) h := by kernel_rfl
theorem quota_Purse_Used.walk {p : Nat} {owner : Int} {h : Heap} {R : Value → Heap → Prop} (hv : quota_Purse_Used.vc p owner h R) : CallsH Try.prog F.quota_Purse_Used #[.pointer (some ⟨p, 0, none⟩), .int .i64 owner] h R :=
  callsH_of_body _ Try.func14 rfl rfl (Eq.mp (quota_Purse_Used.den_eq p owner h R) hv)

def quota_Purse_Used.nil.vc (owner : Int) (h : Heap) (R : Value → Heap → Prop) : Prop :=
  CallsH Try.prog F.quota_Purse_made #[.pointer none] h fun v h_1 =>
  ∃ (t6 : Bool), v = .bool t6 ∧
  if (!t6) = true then
    R (.int .i64 0) h_1
  else
    False
theorem quota_Purse_Used.nil.den_eq (owner : Int) (h : Heap) (R : Value → Heap → Prop) : quota_Purse_Used.nil.vc owner h R = den Try.prog Try.f14.ntmps (.seq .leaf (.seq (.seq .leaf (.cond (.seq .leaf .leaf) .leaf)) (.seq .leaf .leaf))) (bodyOf Try.f14) (retK Try.prog Try.f14.results R) (argEnv [.pointer none, .int .i64 owner]) h := by kernel_rfl
theorem quota_Purse_Used.nil.walk {owner : Int} {h : Heap} {R : Value → Heap → Prop} (hv : quota_Purse_Used.nil.vc owner h R) : CallsH Try.prog F.quota_Purse_Used #[.pointer none, .int .i64 owner] h R :=
  callsH_of_body _ Try.func14 rfl rfl (Eq.mp (quota_Purse_Used.nil.den_eq owner h R) hv)

def quota_Purse_All.vc (p : Nat) (h : Heap) (R : Value → Heap → Prop) : Prop :=
  CallsH Try.prog F.quota_Purse_made #[.pointer (some ⟨p, 0, none⟩)] h fun v h_1 =>
  ∃ (t4 : Bool), v = .bool t4 ∧
  if (!t4) = true then
    R (.int .i64 0) h_1
  else
    ∃ (t9 : Int), hcell h_1 ⟨p, 3, none⟩ = some (.int .i64 t9) ∧
    R (.int .i64 t9) h_1
theorem quota_Purse_All.den_eq (p : Nat) (h : Heap) (R : Value → Heap → Prop) : quota_Purse_All.vc p h R = den Try.prog Try.f12.ntmps (.seq .leaf (.seq (.seq .leaf (.cond (.seq .leaf .leaf) .leaf)) (.seq .leaf .leaf))) (bodyOf Try.f12) (retK Try.prog Try.f12.results R) (argEnv [.pointer (some ⟨p, 0, none⟩)]) h := by kernel_rfl
theorem quota_Purse_All.walk {p : Nat} {h : Heap} {R : Value → Heap → Prop} (hv : quota_Purse_All.vc p h R) : CallsH Try.prog F.quota_Purse_All #[.pointer (some ⟨p, 0, none⟩)] h R :=
  callsH_of_body _ Try.func12 rfl rfl (Eq.mp (quota_Purse_All.den_eq p h R) hv)

def quota_Purse_All.nil.vc  (h : Heap) (R : Value → Heap → Prop) : Prop :=
  CallsH Try.prog F.quota_Purse_made #[.pointer none] h fun v h_1 =>
  ∃ (t4 : Bool), v = .bool t4 ∧
  if (!t4) = true then
    R (.int .i64 0) h_1
  else
    False
theorem quota_Purse_All.nil.den_eq  (h : Heap) (R : Value → Heap → Prop) : quota_Purse_All.nil.vc h R = den Try.prog Try.f12.ntmps (.seq .leaf (.seq (.seq .leaf (.cond (.seq .leaf .leaf) .leaf)) (.seq .leaf .leaf))) (bodyOf Try.f12) (retK Try.prog Try.f12.results R) (argEnv [.pointer none]) h := by kernel_rfl
theorem quota_Purse_All.nil.walk  {h : Heap} {R : Value → Heap → Prop} (hv : quota_Purse_All.nil.vc h R) : CallsH Try.prog F.quota_Purse_All #[.pointer none] h R :=
  callsH_of_body _ Try.func12 rfl rfl (Eq.mp (quota_Purse_All.nil.den_eq h R) hv)

def quota_Purse_ask.vc (p : Nat) (owner : Int) (n : Int) (h : Heap) (R : Value → Heap → Prop) : Prop :=
  CallsH Try.prog F.quota_Purse_made #[.pointer (some ⟨p, 0, none⟩)] h fun v h_1 =>
  ∃ (t9 : Bool), v = .bool t9 ∧
  if (!t9) = true then
    R (.int .i64 6) h_1
  else
    JoinP (fun (t11 : Bool) (h_2 : Heap) =>
      if t11 = true then
        R (.int .i64 1) h_2
      else
        R (.int .i64 0) h_2)
    (fun J =>
      if (decide (owner < 1)) = true then
        J true h_1
      else
        if (decide (owner > 1099511627776)) = true then
          J true h_1
        else
          J (decide (n < 0)) h_1)
theorem quota_Purse_ask.den_eq (p : Nat) (owner : Int) (n : Int) (h : Heap) (R : Value → Heap → Prop) : quota_Purse_ask.vc p owner n h R = den Try.prog Try.f16.ntmps (.seq .leaf (.seq (.block (.seq .leaf (.cond (.seq .leaf .leaf) (.seq (.join [(11, .one (.bool))] .leaf) (.cond (.seq .leaf .leaf) .leaf))))) (.seq .leaf .leaf))) (bodyOf Try.f16) (retK Try.prog Try.f16.results R) (argEnv [.pointer (some ⟨p, 0, none⟩), .int .i64 owner, .int .i64 n]) h := by kernel_rfl
theorem quota_Purse_ask.walk {p : Nat} {owner : Int} {n : Int} {h : Heap} {R : Value → Heap → Prop} (hv : quota_Purse_ask.vc p owner n h R) : CallsH Try.prog F.quota_Purse_ask #[.pointer (some ⟨p, 0, none⟩), .int .i64 owner, .int .i64 n] h R :=
  callsH_of_body _ Try.func16 rfl rfl (Eq.mp (quota_Purse_ask.den_eq p owner n h R) hv)

def quota_Purse_ask.nil.vc (owner : Int) (n : Int) (h : Heap) (R : Value → Heap → Prop) : Prop :=
  CallsH Try.prog F.quota_Purse_made #[.pointer none] h fun v h_1 =>
  ∃ (t9 : Bool), v = .bool t9 ∧
  if (!t9) = true then
    R (.int .i64 6) h_1
  else
    JoinP (fun (t11 : Bool) (h_2 : Heap) =>
      if t11 = true then
        R (.int .i64 1) h_2
      else
        R (.int .i64 0) h_2)
    (fun J =>
      if (decide (owner < 1)) = true then
        J true h_1
      else
        if (decide (owner > 1099511627776)) = true then
          J true h_1
        else
          J (decide (n < 0)) h_1)
theorem quota_Purse_ask.nil.den_eq (owner : Int) (n : Int) (h : Heap) (R : Value → Heap → Prop) : quota_Purse_ask.nil.vc owner n h R = den Try.prog Try.f16.ntmps (.seq .leaf (.seq (.block (.seq .leaf (.cond (.seq .leaf .leaf) (.seq (.join [(11, .one (.bool))] .leaf) (.cond (.seq .leaf .leaf) .leaf))))) (.seq .leaf .leaf))) (bodyOf Try.f16) (retK Try.prog Try.f16.results R) (argEnv [.pointer none, .int .i64 owner, .int .i64 n]) h := by kernel_rfl
theorem quota_Purse_ask.nil.walk {owner : Int} {n : Int} {h : Heap} {R : Value → Heap → Prop} (hv : quota_Purse_ask.nil.vc owner n h R) : CallsH Try.prog F.quota_Purse_ask #[.pointer none, .int .i64 owner, .int .i64 n] h R :=
  callsH_of_body _ Try.func16 rfl rfl (Eq.mp (quota_Purse_ask.nil.den_eq owner n h R) hv)

def quota_Purse_Take.vc (p : Nat) (owner : Int) (n : Int) (h : Heap) (R : Value → Heap → Prop) : Prop :=
  CallsH Try.prog F.quota_Purse_ask #[.pointer (some ⟨p, 0, none⟩), .int .i64 owner, .int .i64 n] h fun v h_1 =>
  ∃ (t11 : Int), v = .int .i64 t11 ∧
  if (t11 != 0) = true then
    R (.int .i64 t11) h_1
  else
    JoinP (fun (t40 : Bool) (h_2 : Heap) =>
      if t40 = true then
        R (.int .i64 15) h_2
      else
        JoinP (fun (h_3 : Heap) =>
          R (.int .i64 0) h_3)
        (fun J_1 =>
          if (decide (n > 0)) = true then
            ∃ (t46 : Option Nat), hcell h_2 ⟨p, 2, none⟩ = some (.map t46) ∧
            ∃ (t48 : Int), LookV Try.prog T.m_int_int (.map t46) (.int .i64 owner) false h_2 (.int .i64 t48) ∧
            denSem Try.prog (Instr.mapUpdate T.m_int_int (.map t46) (.int .i64 owner) (.int .i64 (IntKind.wrap .i64 (t48 + n)))) h_2 fun _ h_4 =>
            ∃ (t54 : Int), hcell h_4 ⟨p, 3, none⟩ = some (.int .i64 t54) ∧
            StoreP h_4 ⟨p, 3, none⟩ (.int .i64 (IntKind.wrap .i64 (t54 + n))) fun h_5 =>
            J_1 h_5
          else
            J_1 h_2))
    (fun J =>
      ∃ (t19 : Int), hcell h_1 ⟨p, 1, none⟩ = some (.int .i64 t19) ∧
      ∃ (t23 : Option Nat), hcell h_1 ⟨p, 2, none⟩ = some (.map t23) ∧
      ∃ (t25 : Int), LookV Try.prog T.m_int_int (.map t23) (.int .i64 owner) false h_1 (.int .i64 t25) ∧
      if (decide (n > (IntKind.wrap .i64 (t19 - t25)))) = true then
        J true h_1
      else
        ∃ (t33 : Int), hcell h_1 ⟨p, 0, none⟩ = some (.int .i64 t33) ∧
        ∃ (t37 : Int), hcell h_1 ⟨p, 3, none⟩ = some (.int .i64 t37) ∧
        J (decide (n > (IntKind.wrap .i64 (t33 - t37)))) h_1)
theorem quota_Purse_Take.den_eq (p : Nat) (owner : Int) (n : Int) (h : Heap) (R : Value → Heap → Prop) : quota_Purse_Take.vc p owner n h R = den Try.prog Try.f10.ntmps (.seq .leaf (.seq (.seq .leaf (.seq .leaf (.cond (.seq .leaf .leaf) .leaf))) (.seq (.seq (.join [(40, .one (.bool))] (.plan [0, 1, 2, 3, 4, 5, 6, 7, 8, 9, 10, 11, 12, 13, 14, 15, 16, 17, 18, 19, 20, 21, 22, 23, 24, 25])) (.cond (.seq .leaf .leaf) .leaf)) (.seq (.seq .leaf (.join [] (.cond (.seq .leaf .leaf) .leaf))) (.seq .leaf .leaf))))) (bodyOf Try.f10) (retK Try.prog Try.f10.results R) (argEnv [.pointer (some ⟨p, 0, none⟩), .int .i64 owner, .int .i64 n]) h := by kernel_rfl
theorem quota_Purse_Take.walk {p : Nat} {owner : Int} {n : Int} {h : Heap} {R : Value → Heap → Prop} (hv : quota_Purse_Take.vc p owner n h R) : CallsH Try.prog F.quota_Purse_Take #[.pointer (some ⟨p, 0, none⟩), .int .i64 owner, .int .i64 n] h R :=
  callsH_of_body _ Try.func10 rfl rfl (Eq.mp (quota_Purse_Take.den_eq p owner n h R) hv)

def quota_Purse_Take.nil.vc (owner : Int) (n : Int) (h : Heap) (R : Value → Heap → Prop) : Prop :=
  CallsH Try.prog F.quota_Purse_ask #[.pointer none, .int .i64 owner, .int .i64 n] h fun v h_1 =>
  ∃ (t11 : Int), v = .int .i64 t11 ∧
  if (t11 != 0) = true then
    R (.int .i64 t11) h_1
  else
    JoinP (fun (t40 : Bool) (h_2 : Heap) =>
      if t40 = true then
        R (.int .i64 15) h_2
      else
        JoinP (fun (h_3 : Heap) =>
          R (.int .i64 0) h_3)
        (fun J_1 =>
          if (decide (n > 0)) = true then
            False
          else
            J_1 h_2))
    (fun J =>
      False)
theorem quota_Purse_Take.nil.den_eq (owner : Int) (n : Int) (h : Heap) (R : Value → Heap → Prop) : quota_Purse_Take.nil.vc owner n h R = den Try.prog Try.f10.ntmps (.seq .leaf (.seq (.seq .leaf (.seq .leaf (.cond (.seq .leaf .leaf) .leaf))) (.seq (.seq (.join [(40, .one (.bool))] (.plan [0, 1, 2, 3, 4, 5, 6, 7, 8, 9, 10, 11, 12, 13, 14, 15, 16, 17, 18, 19, 20, 21, 22, 23, 24, 25])) (.cond (.seq .leaf .leaf) .leaf)) (.seq (.seq .leaf (.join [] (.cond (.seq .leaf .leaf) .leaf))) (.seq .leaf .leaf))))) (bodyOf Try.f10) (retK Try.prog Try.f10.results R) (argEnv [.pointer none, .int .i64 owner, .int .i64 n]) h := by kernel_rfl
theorem quota_Purse_Take.nil.walk {owner : Int} {n : Int} {h : Heap} {R : Value → Heap → Prop} (hv : quota_Purse_Take.nil.vc owner n h R) : CallsH Try.prog F.quota_Purse_Take #[.pointer none, .int .i64 owner, .int .i64 n] h R :=
  callsH_of_body _ Try.func10 rfl rfl (Eq.mp (quota_Purse_Take.nil.den_eq owner n h R) hv)

def quota_Purse_Fits.vc (p : Nat) (owner : Int) (n : Int) (h : Heap) (R : Value → Heap → Prop) : Prop :=
  CallsH Try.prog F.quota_Purse_ask #[.pointer (some ⟨p, 0, none⟩), .int .i64 owner, .int .i64 n] h fun v h_1 =>
  ∃ (t10 : Int), v = .int .i64 t10 ∧
  if (t10 == 0) = true then
    ∃ (t17 : Int), hcell h_1 ⟨p, 1, none⟩ = some (.int .i64 t17) ∧
    ∃ (t21 : Option Nat), hcell h_1 ⟨p, 2, none⟩ = some (.map t21) ∧
    ∃ (t23 : Int), LookV Try.prog T.m_int_int (.map t21) (.int .i64 owner) false h_1 (.int .i64 t23) ∧
    if (decide (n ≤ (IntKind.wrap .i64 (t17 - t23)))) = true then
      ∃ (t32 : Int), hcell h_1 ⟨p, 0, none⟩ = some (.int .i64 t32) ∧
      ∃ (t36 : Int), hcell h_1 ⟨p, 3, none⟩ = some (.int .i64 t36) ∧
      R (.bool (decide (n ≤ (IntKind.wrap .i64 (t32 - t36))))) h_1
    else
      R (.bool false) h_1
  else
    R (.bool false) h_1
theorem quota_Purse_Fits.den_eq (p : Nat) (owner : Int) (n : Int) (h : Heap) (R : Value → Heap → Prop) : quota_Purse_Fits.vc p owner n h R = den Try.prog Try.f15.ntmps (.seq .leaf (.seq (.plan [0, 1, 2, 3, 4, 5, 6, 7, 8, 9, 10, 11, 12, 13, 14, 15, 16, 17, 18, 19, 20, 21, 22, 23, 24, 25, 26, 27, 28, 29, 30, 31, 32, 33]) .leaf)) (bodyOf Try.f15) (retK Try.prog Try.f15.results R) (argEnv [.pointer (some ⟨p, 0, none⟩), .int .i64 owner, .int .i64 n]) h := by kernel_rfl
theorem quota_Purse_Fits.walk {p : Nat} {owner : Int} {n : Int} {h : Heap} {R : Value → Heap → Prop} (hv : quota_Purse_Fits.vc p owner n h R) : CallsH Try.prog F.quota_Purse_Fits #[.pointer (some ⟨p, 0, none⟩), .int .i64 owner, .int .i64 n] h R :=
  callsH_of_body _ Try.func15 rfl rfl (Eq.mp (quota_Purse_Fits.den_eq p owner n h R) hv)

def quota_Purse_Fits.nil.vc (owner : Int) (n : Int) (h : Heap) (R : Value → Heap → Prop) : Prop :=
  CallsH Try.prog F.quota_Purse_ask #[.pointer none, .int .i64 owner, .int .i64 n] h fun v h_1 =>
  ∃ (t10 : Int), v = .int .i64 t10 ∧
  if (t10 == 0) = true then
    False
  else
    R (.bool false) h_1
theorem quota_Purse_Fits.nil.den_eq (owner : Int) (n : Int) (h : Heap) (R : Value → Heap → Prop) : quota_Purse_Fits.nil.vc owner n h R = den Try.prog Try.f15.ntmps (.seq .leaf (.seq (.plan [0, 1, 2, 3, 4, 5, 6, 7, 8, 9, 10, 11, 12, 13, 14, 15, 16, 17, 18, 19, 20, 21, 22, 23, 24, 25, 26, 27, 28, 29, 30, 31, 32, 33]) .leaf)) (bodyOf Try.f15) (retK Try.prog Try.f15.results R) (argEnv [.pointer none, .int .i64 owner, .int .i64 n]) h := by kernel_rfl
theorem quota_Purse_Fits.nil.walk {owner : Int} {n : Int} {h : Heap} {R : Value → Heap → Prop} (hv : quota_Purse_Fits.nil.vc owner n h R) : CallsH Try.prog F.quota_Purse_Fits #[.pointer none, .int .i64 owner, .int .i64 n] h R :=
  callsH_of_body _ Try.func15 rfl rfl (Eq.mp (quota_Purse_Fits.nil.den_eq owner n h R) hv)

def quota_Purse_Give.vc (p : Nat) (owner : Int) (n : Int) (h : Heap) (R : Value → Heap → Prop) : Prop :=
  CallsH Try.prog F.quota_Purse_ask #[.pointer (some ⟨p, 0, none⟩), .int .i64 owner, .int .i64 n] h fun v h_1 =>
  ∃ (t11 : Int), v = .int .i64 t11 ∧
  if (t11 != 0) = true then
    R (.int .i64 t11) h_1
  else
    ∃ (t19 : Option Nat), hcell h_1 ⟨p, 2, none⟩ = some (.map t19) ∧
    ∃ (t21 : Int), LookV Try.prog T.m_int_int (.map t19) (.int .i64 owner) false h_1 (.int .i64 t21) ∧
    if (decide (n > t21)) = true then
      R (.int .i64 7) h_1
    else
      ∃ (t26 : Int), hcell h_1 ⟨p, 3, none⟩ = some (.int .i64 t26) ∧
      StoreP h_1 ⟨p, 3, none⟩ (.int .i64 (IntKind.wrap .i64 (t26 - n))) fun h_2 =>
      ∃ (t34 : Option Nat), hcell h_2 ⟨p, 2, none⟩ = some (.map t34) ∧
      ∃ (t36 : Int), LookV Try.prog T.m_int_int (.map t34) (.int .i64 owner) false h_2 (.int .i64 t36) ∧
      denSem Try.prog (Instr.mapUpdate T.m_int_int (.map t34) (.int .i64 owner) (.int .i64 (IntKind.wrap .i64 (t36 - n)))) h_2 fun _ h_3 =>
      ∃ (t42 : Option Nat), hcell h_3 ⟨p, 2, none⟩ = some (.map t42) ∧
      ∃ (t44 : Int), LookV Try.prog T.m_int_int (.map t42) (.int .i64 owner) false h_3 (.int .i64 t44) ∧
      JoinP (fun (h_4 : Heap) =>
        R (.int .i64 0) h_4)
      (fun J =>
        if (t44 == 0) = true then
          ∃ (t49 : Option Nat), hcell h_3 ⟨p, 2, none⟩ = some (.map t49) ∧
          denSem Try.prog (Builtin.delete_ #[T.m_int_int, T.int] T.tup_ #[.map t49, .int .i64 owner]) h_3 fun v_1 h_5 =>
          v_1 = .tuple #[] ∧
          J h_5
        else
          J h_3)
theorem quota_Purse_Give.den_eq (p : Nat) (owner : Int) (n : Int) (h : Heap) (R : Value → Heap → Prop) : quota_Purse_Give.vc p owner n h R = den Try.prog Try.f8.ntmps (.seq .leaf (.seq (.seq .leaf (.seq .leaf (.cond (.seq .leaf .leaf) .leaf))) (.seq (.seq .leaf (.cond (.seq .leaf .leaf) .leaf)) (.seq .leaf (.seq .leaf (.seq (.seq .leaf (.join [] (.cond .leaf .leaf))) (.seq .leaf .leaf))))))) (bodyOf Try.f8) (retK Try.prog Try.f8.results R) (argEnv [.pointer (some ⟨p, 0, none⟩), .int .i64 owner, .int .i64 n]) h := by kernel_rfl
theorem quota_Purse_Give.walk {p : Nat} {owner : Int} {n : Int} {h : Heap} {R : Value → Heap → Prop} (hv : quota_Purse_Give.vc p owner n h R) : CallsH Try.prog F.quota_Purse_Give #[.pointer (some ⟨p, 0, none⟩), .int .i64 owner, .int .i64 n] h R :=
  callsH_of_body _ Try.func8 rfl rfl (Eq.mp (quota_Purse_Give.den_eq p owner n h R) hv)

def quota_Purse_Give.nil.vc (owner : Int) (n : Int) (h : Heap) (R : Value → Heap → Prop) : Prop :=
  CallsH Try.prog F.quota_Purse_ask #[.pointer none, .int .i64 owner, .int .i64 n] h fun v h_1 =>
  ∃ (t11 : Int), v = .int .i64 t11 ∧
  if (t11 != 0) = true then
    R (.int .i64 t11) h_1
  else
    False
theorem quota_Purse_Give.nil.den_eq (owner : Int) (n : Int) (h : Heap) (R : Value → Heap → Prop) : quota_Purse_Give.nil.vc owner n h R = den Try.prog Try.f8.ntmps (.seq .leaf (.seq (.seq .leaf (.seq .leaf (.cond (.seq .leaf .leaf) .leaf))) (.seq (.seq .leaf (.cond (.seq .leaf .leaf) .leaf)) (.seq .leaf (.seq .leaf (.seq (.seq .leaf (.join [] (.cond .leaf .leaf))) (.seq .leaf .leaf))))))) (bodyOf Try.f8) (retK Try.prog Try.f8.results R) (argEnv [.pointer none, .int .i64 owner, .int .i64 n]) h := by kernel_rfl
theorem quota_Purse_Give.nil.walk {owner : Int} {n : Int} {h : Heap} {R : Value → Heap → Prop} (hv : quota_Purse_Give.nil.vc owner n h R) : CallsH Try.prog F.quota_Purse_Give #[.pointer none, .int .i64 owner, .int .i64 n] h R :=
  callsH_of_body _ Try.func8 rfl rfl (Eq.mp (quota_Purse_Give.nil.den_eq owner n h R) hv)

end Go.Proofs.Ytjjmbohnchngcaa
