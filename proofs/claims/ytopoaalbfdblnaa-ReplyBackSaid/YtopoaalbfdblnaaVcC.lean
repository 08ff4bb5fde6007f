/-
  Printed by a program of this work (vc.py): the verification conditions of functions, and that each is enough for the call. No condition.
-/
import Derived.Test.YtopoaalbfdblnaaNames
set_option maxRecDepth 100000
set_option maxHeartbeats 4000000
namespace Go.Proofs.Ytopoaalbfdblnaa
open Go.Den
def bytes_Equal.vc (a_p : Option Addr) (a_l a_c : Nat) (b_p : Option Addr) (b_l b_c : Nat) (h : Heap) (R : Value → Heap → Prop) : Prop :=
  ∃ (t6 : ByteArray), ConvV Try.prog T.s_uint8 T.string (.slice a_p a_l a_c) h t6 ∧
  ∃ (t8 : ByteArray), ConvV Try.prog T.s_uint8 T.string (.slice b_p b_l b_c) h t8 ∧
  R (.bool (t6.toList == t8.toList)) h
theorem bytes_Equal.den_eq (a_p : Option Addr) (a_l a_c : Nat) (b_p : Option Addr) (b_l b_c : Nat) (h : Heap) (R : Value → Heap → Prop) : bytes_Equal.vc a_p a_l a_c b_p b_l b_c h R = den Try.prog Try.f31.ntmps (.seq .leaf (.seq .leaf .leaf)) none (bodyOf Try.f31) (retK Try.prog Try.f31.results R) (argEnv [.slice a_p a_l a_c, .slice b_p b_l b_c]) h := by kernel_rfl
theorem bytes_Equal.walk {a_p : Option Addr} {a_l a_c : Nat} {b_p : Option Addr} {b_l b_c : Nat} {h : Heap} {R : Value → Heap → Prop} (hv : bytes_Equal.vc a_p a_l a_c b_p b_l b_c h R) : CallsH Try.prog F.bytes_Equal #[.slice a_p a_l a_c, .slice b_p b_l b_c] h R :=
  callsH_of_body _ Try.func31 rfl rfl (Eq.mp (bytes_Equal.den_eq a_p a_l a_c b_p b_l b_c h R) hv)

def reply_Same.vc (a_0 : Int) (a_1 : Int) (a_2 : Int) (a_3 : Int) (a_4 : Int) (a_5_p : Option Addr) (a_5_l a_5_c : Nat) (b_0 : Int) (b_1 : Int) (b_2 : Int) (b_3 : Int) (b_4 : Int) (b_5_p : Option Addr) (b_5_l b_5_c : Nat) (h : Heap) (R : Value → Heap → Prop) : Prop :=
  NewP h (.cells #[.int .u64 a_0, .int .i64 a_1, .int .i64 a_2, .int .i64 a_3, .int .u64 a_4, .slice a_5_p a_5_l a_5_c] T.reply_Reply) fun b h_1 =>
  NewP h_1 (.cells #[.int .u64 b_0, .int .i64 b_1, .int .i64 b_2, .int .i64 b_3, .int .u64 b_4, .slice b_5_p b_5_l b_5_c] T.reply_Reply) fun b_1 h_2 =>
  ∃ (t6 : Int), hcell h_2 ⟨b, 0, none⟩ = some (.int .u64 t6) ∧
  ∃ (t8 : Int), hcell h_2 ⟨b_1, 0, none⟩ = some (.int .u64 t8) ∧
  if (t6 == t8) = true then
    ∃ (t12 : Int), hcell h_2 ⟨b, 1, none⟩ = some (.int .i64 t12) ∧
    ∃ (t14 : Int), hcell h_2 ⟨b_1, 1, none⟩ = some (.int .i64 t14) ∧
    if (t12 == t14) = true then
      ∃ (t19 : Int), hcell h_2 ⟨b, 2, none⟩ = some (.int .i64 t19) ∧
      ∃ (t21 : Int), hcell h_2 ⟨b_1, 2, none⟩ = some (.int .i64 t21) ∧
      if (t19 == t21) = true then
        ∃ (t26 : Int), hcell h_2 ⟨b, 3, none⟩ = some (.int .i64 t26) ∧
        ∃ (t28 : Int), hcell h_2 ⟨b_1, 3, none⟩ = some (.int .i64 t28) ∧
        if (t26 == t28) = true then
          ∃ (t33 : Int), hcell h_2 ⟨b, 4, none⟩ = some (.int .u64 t33) ∧
          ∃ (t35 : Int), hcell h_2 ⟨b_1, 4, none⟩ = some (.int .u64 t35) ∧
          if (t33 == t35) = true then
            ∃ (t40_p : Option Addr) (t40_l t40_c : Nat), hcell h_2 ⟨b, 5, none⟩ = some (.slice t40_p t40_l t40_c) ∧
            ∃ (t42_p : Option Addr) (t42_l t42_c : Nat), hcell h_2 ⟨b_1, 5, none⟩ = some (.slice t42_p t42_l t42_c) ∧
            CallsH Try.prog F.bytes_Equal #[.slice t40_p t40_l t40_c, .slice t42_p t42_l t42_c] h_2 fun v h_3 =>
            ∃ (t43 : Bool), v = .bool t43 ∧
            R (.bool t43) h_3
          else
            R (.bool false) h_2
        else
          R (.bool false) h_2
      else
        R (.bool false) h_2
    else
      R (.bool false) h_2
  else
    R (.bool false) h_2
theorem reply_Same.den_eq (a_0 : Int) (a_1 : Int) (a_2 : Int) (a_3 : Int) (a_4 : Int) (a_5_p : Option Addr) (a_5_l a_5_c : Nat) (b_0 : Int) (b_1 : Int) (b_2 : Int) (b_3 : Int) (b_4 : Int) (b_5_p : Option Addr) (b_5_l b_5_c : Nat) (h : Heap) (R : Value → Heap → Prop) : reply_Same.vc a_0 a_1 a_2 a_3 a_4 a_5_p a_5_l a_5_c b_0 b_1 b_2 b_3 b_4 b_5_p b_5_l b_5_c h R = den Try.prog Try.f13.ntmps (.seq .leaf (.seq .leaf .leaf)) none (bodyOf Try.f13) (retK Try.prog Try.f13.results R) (argEnv [.agg #[.int .u64 a_0, .int .i64 a_1, .int .i64 a_2, .int .i64 a_3, .int .u64 a_4, .slice a_5_p a_5_l a_5_c], .agg #[.int .u64 b_0, .int .i64 b_1, .int .i64 b_2, .int .i64 b_3, .int .u64 b_4, .slice b_5_p b_5_l b_5_c]]) h := by kernel_rfl
theorem reply_Same.walk {a_0 : Int} {a_1 : Int} {a_2 : Int} {a_3 : Int} {a_4 : Int} {a_5_p : Option Addr} {a_5_l a_5_c : Nat} {b_0 : Int} {b_1 : Int} {b_2 : Int} {b_3 : Int} {b_4 : Int} {b_5_p : Option Addr} {b_5_l b_5_c : Nat} {h : Heap} {R : Value → Heap → Prop} (hv : reply_Same.vc a_0 a_1 a_2 a_3 a_4 a_5_p a_5_l a_5_c b_0 b_1 b_2 b_3 b_4 b_5_p b_5_l b_5_c h R) : CallsH Try.prog F.reply_Same #[.agg #[.int .u64 a_0, .int .i64 a_1, .int .i64 a_2, .int .i64 a_3, .int .u64 a_4, .slice a_5_p a_5_l a_5_c], .agg #[.int .u64 b_0, .int .i64 b_1, .int .i64 b_2, .int .i64 b_3, .int .u64 b_4, .slice b_5_p b_5_l b_5_c]] h R :=
  callsH_of_body _ Try.func13 rfl rfl (Eq.mp (reply_Same.den_eq a_0 a_1 a_2 a_3 a_4 a_5_p a_5_l a_5_c b_0 b_1 b_2 b_3 b_4 b_5_p b_5_l b_5_c h R) hv)

def reply_Fail.vc (id : Int) (e : Int) (h : Heap) (R : Value → Heap → Prop) : Prop :=
  NewP h (.cells #[.int .u64 0, .int .i64 0, .int .i64 0, .int .i64 0, .int .u64 0, .slice none 0 0] T.reply_Reply) fun b h_1 =>
  StoreP h_1 ⟨b, 0, none⟩ (.int .u64 id) fun h_2 =>
  StoreP h_2 ⟨b, 1, none⟩ (.int .i64 e) fun h_3 =>
  StoreP h_3 ⟨b, 2, none⟩ (.int .i64 0) fun h_4 =>
  StoreP h_4 ⟨b, 3, none⟩ (.int .i64 0) fun h_5 =>
  StoreP h_5 ⟨b, 4, none⟩ (.int .u64 0) fun h_6 =>
  StoreP h_6 ⟨b, 5, none⟩ (.slice none 0 0) fun h_7 =>
  ∃ (r_0 : Int), hcell h_7 ⟨b, 0, none⟩ = some (.int .u64 r_0) ∧ ∃ (r_1 : Int), hcell h_7 ⟨b, 1, none⟩ = some (.int .i64 r_1) ∧ ∃ (r_2 : Int), hcell h_7 ⟨b, 2, none⟩ = some (.int .i64 r_2) ∧ ∃ (r_3 : Int), hcell h_7 ⟨b, 3, none⟩ = some (.int .i64 r_3) ∧ ∃ (r_4 : Int), hcell h_7 ⟨b, 4, none⟩ = some (.int .u64 r_4) ∧ ∃ (r_5_p : Option Addr) (r_5_l r_5_c : Nat), hcell h_7 ⟨b, 5, none⟩ = some (.slice r_5_p r_5_l r_5_c) ∧ 
  R (.agg #[.int .u64 r_0, .int .i64 r_1, .int .i64 r_2, .int .i64 r_3, .int .u64 r_4, .slice r_5_p r_5_l r_5_c]) h_7
theorem reply_Fail.den_eq (id : Int) (e : Int) (h : Heap) (R : Value → Heap → Prop) : reply_Fail.vc id e h R = den Try.prog Try.f14.ntmps (.seq .leaf (.seq .leaf .leaf)) none (bodyOf Try.f14) (retK Try.prog Try.f14.results R) (argEnv [.int .u64 id, .int .i64 e]) h := by kernel_rfl
theorem reply_Fail.walk {id : Int} {e : Int} {h : Heap} {R : Value → Heap → Prop} (hv : reply_Fail.vc id e h R) : CallsH Try.prog F.reply_Fail #[.int .u64 id, .int .i64 e] h R :=
  callsH_of_body _ Try.func14 rfl rfl (Eq.mp (reply_Fail.den_eq id e h R) hv)

def reply_within.vc (l_p : Option Addr) (l_l l_c : Nat) (h : Heap) (R : Value → Heap → Prop) : Prop :=
  CallsH Try.prog F.slices_ContainsFunc_s_int_int #[.slice l_p l_l l_c, .func (.func F.reply_within_1) #[] #[]] h fun v h_1 =>
  ∃ (t4 : Bool), v = .bool t4 ∧
  R (.bool (!t4)) h_1
theorem reply_within.den_eq (l_p : Option Addr) (l_l l_c : Nat) (h : Heap) (R : Value → Heap → Prop) : reply_within.vc l_p l_l l_c h R = den Try.prog Try.f30.ntmps (.seq .leaf (.seq .leaf .leaf)) none (bodyOf Try.f30) (retK Try.prog Try.f30.results R) (argEnv [.slice l_p l_l l_c]) h := by kernel_rfl
theorem reply_within.walk {l_p : Option Addr} {l_l l_c : Nat} {h : Heap} {R : Value → Heap → Prop} (hv : reply_within.vc l_p l_l l_c h R) : CallsH Try.prog F.reply_within #[.slice l_p l_l l_c] h R :=
  callsH_of_body _ Try.func30 rfl rfl (Eq.mp (reply_within.den_eq l_p l_l l_c h R) hv)

def reply_within_1.vc (n : Int) (h : Heap) (R : Value → Heap → Prop) : Prop :=
  if (decide (n < 0)) = true then
    R (.bool true) h
  else
    R (.bool (decide (n > 1099511627776))) h
theorem reply_within_1.den_eq (n : Int) (h : Heap) (R : Value → Heap → Prop) : reply_within_1.vc n h R = den Try.prog Try.f40.ntmps (.seq .leaf (.seq .leaf .leaf)) none (bodyOf Try.f40) (retK Try.prog Try.f40.results R) (argEnv [.int .i64 n]) h := by kernel_rfl
theorem reply_within_1.walk {n : Int} {h : Heap} {R : Value → Heap → Prop} (hv : reply_within_1.vc n h R) : CallsH Try.prog F.reply_within_1 #[.int .i64 n] h R :=
  callsH_of_body _ Try.func40 rfl rfl (Eq.mp (reply_within_1.den_eq n h R) hv)

def reply_Right.vc (x_0 : Int) (x_1 : Int) (x_2 : Int) (x_3 : Int) (x_4 : Int) (x_5_p : Option Addr) (x_5_l x_5_c : Nat) (h : Heap) (R : Value → Heap → Prop) : Prop :=
  NewP h (.cells #[.int .u64 x_0, .int .i64 x_1, .int .i64 x_2, .int .i64 x_3, .int .u64 x_4, .slice x_5_p x_5_l x_5_c] T.reply_Reply) fun b h_1 =>
  JoinP (fun (t3 : Bool) (h_2 : Heap) =>
    if t3 = true then
      R (.bool false) h_2
    else
      ∃ (t39 : Int), hcell h_2 ⟨b, 1, none⟩ = some (.int .i64 t39) ∧
      if (t39 != 0) = true then
        ∃ (t41_0 : Int), hcell h_2 ⟨b, 0, none⟩ = some (.int .u64 t41_0) ∧ ∃ (t41_1 : Int), hcell h_2 ⟨b, 1, none⟩ = some (.int .i64 t41_1) ∧ ∃ (t41_2 : Int), hcell h_2 ⟨b, 2, none⟩ = some (.int .i64 t41_2) ∧ ∃ (t41_3 : Int), hcell h_2 ⟨b, 3, none⟩ = some (.int .i64 t41_3) ∧ ∃ (t41_4 : Int), hcell h_2 ⟨b, 4, none⟩ = some (.int .u64 t41_4) ∧ ∃ (t41_5_p : Option Addr) (t41_5_l t41_5_c : Nat), hcell h_2 ⟨b, 5, none⟩ = some (.slice t41_5_p t41_5_l t41_5_c) ∧ 
        ∃ (t43 : Int), hcell h_2 ⟨b, 0, none⟩ = some (.int .u64 t43) ∧
        ∃ (t45 : Int), hcell h_2 ⟨b, 1, none⟩ = some (.int .i64 t45) ∧
        CallsH Try.prog F.reply_Fail #[.int .u64 t43, .int .i64 t45] h_2 fun v h_3 =>
        ∃ (t46_0 : Int), ∃ (t46_1 : Int), ∃ (t46_2 : Int), ∃ (t46_3 : Int), ∃ (t46_4 : Int), ∃ (t46_5_p : Option Addr) (t46_5_l t46_5_c : Nat), v = .agg #[.int .u64 t46_0, .int .i64 t46_1, .int .i64 t46_2, .int .i64 t46_3, .int .u64 t46_4, .slice t46_5_p t46_5_l t46_5_c] ∧
        heldL ⟨b, 0, none⟩ [.int .u64 t41_0, .int .i64 t41_1, .int .i64 t41_2, .int .i64 t41_3, .int .u64 t41_4, .slice t41_5_p t41_5_l t41_5_c] 0 h_3 ∧
        CallsH Try.prog F.reply_Same #[.agg #[.int .u64 t41_0, .int .i64 t41_1, .int .i64 t41_2, .int .i64 t41_3, .int .u64 t41_4, .slice t41_5_p t41_5_l t41_5_c], .agg #[.int .u64 t46_0, .int .i64 t46_1, .int .i64 t46_2, .int .i64 t46_3, .int .u64 t46_4, .slice t46_5_p t46_5_l t46_5_c]] h_3 fun v_1 h_4 =>
        ∃ (t47 : Bool), v_1 = .bool t47 ∧
        R (.bool t47) h_4
      else
        R (.bool true) h_2)
  (fun J =>
    ∃ (t5 : Int), hcell h_1 ⟨b, 0, none⟩ = some (.int .u64 t5) ∧
    if (decide (t5 > 1099511627776)) = true then
      J true h_1
    else
      ∃ (t9 : Int), hcell h_1 ⟨b, 1, none⟩ = some (.int .i64 t9) ∧
      if (decide (t9 < 0)) = true then
        J true h_1
      else
        ∃ (t14 : Int), hcell h_1 ⟨b, 1, none⟩ = some (.int .i64 t14) ∧
        if (decide (t14 > 99)) = true then
          J true h_1
        else
          ∃ (t19 : Int), hcell h_1 ⟨b, 2, none⟩ = some (.int .i64 t19) ∧
          ∃ (t21 : Int), hcell h_1 ⟨b, 3, none⟩ = some (.int .i64 t21) ∧
          NewP h_1 (.cells #[.int .i64 t19, .int .i64 t21] T.int) fun b_1 h_5 =>
          CallsH Try.prog F.reply_within #[.slice (some ⟨b_1, 0, none⟩) 2 2] h_5 fun v_2 h_6 =>
          ∃ (t23 : Bool), v_2 = .bool t23 ∧
          if (!t23) = true then
            J true h_6
          else
            ∃ (t28 : Int), hcell h_6 ⟨b, 4, none⟩ = some (.int .u64 t28) ∧
            if (decide (t28 > 2147483648)) = true then
              J true h_6
            else
              ∃ (t33_p : Option Addr) (t33_l t33_c : Nat), hcell h_6 ⟨b, 5, none⟩ = some (.slice t33_p t33_l t33_c) ∧
              J (decide (((t33_l : Nat) : Int) > 600)) h_6)
theorem reply_Right.den_eq (x_0 : Int) (x_1 : Int) (x_2 : Int) (x_3 : Int) (x_4 : Int) (x_5_p : Option Addr) (x_5_l x_5_c : Nat) (h : Heap) (R : Value → Heap → Prop) : reply_Right.vc x_0 x_1 x_2 x_3 x_4 x_5_p x_5_l x_5_c h R = den Try.prog Try.f10.ntmps (.seq .leaf (.seq (.block (.seq (.join [(3, .one (.bool))] .leaf) (.cond (.seq .leaf .leaf) (.seq .leaf (.cond (.seq (.plan (.op 0 (.op 1 (.op 2 (.op 3 (.op 4 (.op 5 (.op 6 (.op 7 .done))))))))) .leaf) .leaf))))) (.seq .leaf .leaf))) none (bodyOf Try.f10) (retK Try.prog Try.f10.results R) (argEnv [.agg #[.int .u64 x_0, .int .i64 x_1, .int .i64 x_2, .int .i64 x_3, .int .u64 x_4, .slice x_5_p x_5_l x_5_c]]) h := by kernel_rfl
theorem reply_Right.walk {x_0 : Int} {x_1 : Int} {x_2 : Int} {x_3 : Int} {x_4 : Int} {x_5_p : Option Addr} {x_5_l x_5_c : Nat} {h : Heap} {R : Value → Heap → Prop} (hv : reply_Right.vc x_0 x_1 x_2 x_3 x_4 x_5_p x_5_l x_5_c h R) : CallsH Try.prog F.reply_Right #[.agg #[.int .u64 x_0, .int .i64 x_1, .int .i64 x_2, .int .i64 x_3, .int .u64 x_4, .slice x_5_p x_5_l x_5_c]] h R :=
  callsH_of_body _ Try.func10 rfl rfl (Eq.mp (reply_Right.den_eq x_0 x_1 x_2 x_3 x_4 x_5_p x_5_l x_5_c h R) hv)

def reply_Write.vc (x_0 : Int) (x_1 : Int) (x_2 : Int) (x_3 : Int) (x_4 : Int) (x_5_p : Option Addr) (x_5_l x_5_c : Nat) (h : Heap) (R : Value → Heap → Prop) : Prop :=
  NewP h (.cells #[.int .u64 x_0, .int .i64 x_1, .int .i64 x_2, .int .i64 x_3, .int .u64 x_4, .slice x_5_p x_5_l x_5_c] T.reply_Reply) fun b h_1 =>
  ∃ (t4_0 : Int), hcell h_1 ⟨b, 0, none⟩ = some (.int .u64 t4_0) ∧ ∃ (t4_1 : Int), hcell h_1 ⟨b, 1, none⟩ = some (.int .i64 t4_1) ∧ ∃ (t4_2 : Int), hcell h_1 ⟨b, 2, none⟩ = some (.int .i64 t4_2) ∧ ∃ (t4_3 : Int), hcell h_1 ⟨b, 3, none⟩ = some (.int .i64 t4_3) ∧ ∃ (t4_4 : Int), hcell h_1 ⟨b, 4, none⟩ = some (.int .u64 t4_4) ∧ ∃ (t4_5_p : Option Addr) (t4_5_l t4_5_c : Nat), hcell h_1 ⟨b, 5, none⟩ = some (.slice t4_5_p t4_5_l t4_5_c) ∧ 
  CallsH Try.prog F.reply_Right #[.agg #[.int .u64 t4_0, .int .i64 t4_1, .int .i64 t4_2, .int .i64 t4_3, .int .u64 t4_4, .slice t4_5_p t4_5_l t4_5_c]] h_1 fun v h_2 =>
  ∃ (t5 : Bool), v = .bool t5 ∧
  if (!t5) = true then
    R (.tuple #[.slice none 0 0, .int .i64 3]) h_2
  else
    ∃ (t9 : Int), hcell h_2 ⟨b, 0, none⟩ = some (.int .u64 t9) ∧
    ∃ (t12 : Int), hcell h_2 ⟨b, 1, none⟩ = some (.int .i64 t12) ∧
    ∃ (t15 : Int), hcell h_2 ⟨b, 2, none⟩ = some (.int .i64 t15) ∧
    ∃ (t18 : Int), hcell h_2 ⟨b, 3, none⟩ = some (.int .i64 t18) ∧
    ∃ (t21 : Int), hcell h_2 ⟨b, 4, none⟩ = some (.int .u64 t21) ∧
    ∃ (t24_p : Option Addr) (t24_l t24_c : Nat), hcell h_2 ⟨b, 5, none⟩ = some (.slice t24_p t24_l t24_c) ∧
    CallsH Try.prog F.fields_New #[] h_2 fun v_1 h_3 =>
    ∃ (t7 : Option Addr), v_1 = .pointer t7 ∧
    hcell h_3 ⟨b, 5, none⟩ = some (.slice t24_p t24_l t24_c) ∧
    hcell h_3 ⟨b, 4, none⟩ = some (.int .u64 t21) ∧
    hcell h_3 ⟨b, 3, none⟩ = some (.int .i64 t18) ∧
    hcell h_3 ⟨b, 2, none⟩ = some (.int .i64 t15) ∧
    hcell h_3 ⟨b, 1, none⟩ = some (.int .i64 t12) ∧
    hcell h_3 ⟨b, 0, none⟩ = some (.int .u64 t9) ∧
    CallsH Try.prog F.fields_Writer_Num #[.pointer t7, .int .u64 t9] h_3 fun v_2 h_4 =>
    ∃ (t10 : Option Addr), v_2 = .pointer t10 ∧
    hcell h_4 ⟨b, 5, none⟩ = some (.slice t24_p t24_l t24_c) ∧
    hcell h_4 ⟨b, 4, none⟩ = some (.int .u64 t21) ∧
    hcell h_4 ⟨b, 3, none⟩ = some (.int .i64 t18) ∧
    hcell h_4 ⟨b, 2, none⟩ = some (.int .i64 t15) ∧
    hcell h_4 ⟨b, 1, none⟩ = some (.int .i64 t12) ∧
    CallsH Try.prog F.fields_Writer_Int #[.pointer t10, .int .i64 t12] h_4 fun v_3 h_5 =>
    ∃ (t13 : Option Addr), v_3 = .pointer t13 ∧
    hcell h_5 ⟨b, 5, none⟩ = some (.slice t24_p t24_l t24_c) ∧
    hcell h_5 ⟨b, 4, none⟩ = some (.int .u64 t21) ∧
    hcell h_5 ⟨b, 3, none⟩ = some (.int .i64 t18) ∧
    hcell h_5 ⟨b, 2, none⟩ = some (.int .i64 t15) ∧
    CallsH Try.prog F.fields_Writer_Int #[.pointer t13, .int .i64 t15] h_5 fun v_4 h_6 =>
    ∃ (t16 : Option Addr), v_4 = .pointer t16 ∧
    hcell h_6 ⟨b, 5, none⟩ = some (.slice t24_p t24_l t24_c) ∧
    hcell h_6 ⟨b, 4, none⟩ = some (.int .u64 t21) ∧
    hcell h_6 ⟨b, 3, none⟩ = some (.int .i64 t18) ∧
    CallsH Try.prog F.fields_Writer_Int #[.pointer t16, .int .i64 t18] h_6 fun v_5 h_7 =>
    ∃ (t19 : Option Addr), v_5 = .pointer t19 ∧
    hcell h_7 ⟨b, 5, none⟩ = some (.slice t24_p t24_l t24_c) ∧
    hcell h_7 ⟨b, 4, none⟩ = some (.int .u64 t21) ∧
    CallsH Try.prog F.fields_Writer_Num #[.pointer t19, .int .u64 t21] h_7 fun v_6 h_8 =>
    ∃ (t22 : Option Addr), v_6 = .pointer t22 ∧
    hcell h_8 ⟨b, 5, none⟩ = some (.slice t24_p t24_l t24_c) ∧
    CallsH Try.prog F.fields_Writer_Text #[.pointer t22, .slice t24_p t24_l t24_c] h_8 fun v_7 h_9 =>
    ∃ (t25 : Option Addr), v_7 = .pointer t25 ∧
    CallsH Try.prog F.fields_Writer_Bytes #[.pointer t25] h_9 fun v_8 h_10 =>
    ∃ (t26_p : Option Addr) (t26_l t26_c : Nat), v_8 = .slice t26_p t26_l t26_c ∧
    R (.tuple #[.slice t26_p t26_l t26_c, .int .i64 0]) h_10
theorem reply_Write.den_eq (x_0 : Int) (x_1 : Int) (x_2 : Int) (x_3 : Int) (x_4 : Int) (x_5_p : Option Addr) (x_5_l x_5_c : Nat) (h : Heap) (R : Value → Heap → Prop) : reply_Write.vc x_0 x_1 x_2 x_3 x_4 x_5_p x_5_l x_5_c h R = den Try.prog Try.f7.ntmps (.seq .leaf (.seq (.seq .leaf (.cond (.seq .leaf .leaf) .leaf)) (.seq (.plan (.op 1 (.op 2 (.op 4 (.op 5 (.op 7 (.op 8 (.op 10 (.op 11 (.op 13 (.op 14 (.op 16 (.op 17 (.op 0 (.op 3 (.op 6 (.op 9 (.op 12 (.op 15 (.op 18 (.op 19 (.op 20 (.op 21 .done))))))))))))))))))))))) .leaf))) none (bodyOf Try.f7) (retK Try.prog Try.f7.results R) (argEnv [.agg #[.int .u64 x_0, .int .i64 x_1, .int .i64 x_2, .int .i64 x_3, .int .u64 x_4, .slice x_5_p x_5_l x_5_c]]) h := by kernel_rfl
theorem reply_Write.walk {x_0 : Int} {x_1 : Int} {x_2 : Int} {x_3 : Int} {x_4 : Int} {x_5_p : Option Addr} {x_5_l x_5_c : Nat} {h : Heap} {R : Value → Heap → Prop} (hv : reply_Write.vc x_0 x_1 x_2 x_3 x_4 x_5_p x_5_l x_5_c h R) : CallsH Try.prog F.reply_Write #[.agg #[.int .u64 x_0, .int .i64 x_1, .int .i64 x_2, .int .i64 x_3, .int .u64 x_4, .slice x_5_p x_5_l x_5_c]] h R :=
  callsH_of_body _ Try.func7 rfl rfl (Eq.mp (reply_Write.den_eq x_0 x_1 x_2 x_3 x_4 x_5_p x_5_l x_5_c h R) hv)

def reply_Read.vc (b_p : Option Addr) (b_l b_c : Nat) (h : Heap) (R : Value → Heap → Prop) : Prop :=
  NewP h (.cells #[.int .u64 0, .int .i64 0, .int .i64 0, .int .i64 0, .int .u64 0, .slice none 0 0] T.reply_Reply) fun b h_1 =>
  CallsH Try.prog F.fields_Read #[.slice b_p b_l b_c] h_1 fun v h_2 =>
  ∃ (t7 : Option Addr), v = .pointer t7 ∧
  CallsH Try.prog F.fields_Reader_Num #[.pointer t7] h_2 fun v_1 h_3 =>
  ∃ (t9 : Int), v_1 = .int .u64 t9 ∧
  CallsH Try.prog F.fields_Reader_Int #[.pointer t7] h_3 fun v_2 h_4 =>
  ∃ (t11 : Int), v_2 = .int .i64 t11 ∧
  CallsH Try.prog F.fields_Reader_Int #[.pointer t7] h_4 fun v_3 h_5 =>
  ∃ (t13 : Int), v_3 = .int .i64 t13 ∧
  CallsH Try.prog F.fields_Reader_Int #[.pointer t7] h_5 fun v_4 h_6 =>
  ∃ (t15 : Int), v_4 = .int .i64 t15 ∧
  CallsH Try.prog F.fields_Reader_Num #[.pointer t7] h_6 fun v_5 h_7 =>
  ∃ (t17 : Int), v_5 = .int .u64 t17 ∧
  CallsH Try.prog F.fields_Reader_Text #[.pointer t7] h_7 fun v_6 h_8 =>
  ∃ (t19_p : Option Addr) (t19_l t19_c : Nat), v_6 = .slice t19_p t19_l t19_c ∧
  NewP h_8 (.cells #[.int .u64 0, .int .i64 0, .int .i64 0, .int .i64 0, .int .u64 0, .slice none 0 0] T.reply_Reply) fun b_1 h_9 =>
  StoreP h_9 ⟨b_1, 0, none⟩ (.int .u64 t9) fun h_10 =>
  StoreP h_10 ⟨b_1, 1, none⟩ (.int .i64 t11) fun h_11 =>
  StoreP h_11 ⟨b_1, 2, none⟩ (.int .i64 t13) fun h_12 =>
  StoreP h_12 ⟨b_1, 3, none⟩ (.int .i64 t15) fun h_13 =>
  StoreP h_13 ⟨b_1, 4, none⟩ (.int .u64 t17) fun h_14 =>
  StoreP h_14 ⟨b_1, 5, none⟩ (.slice t19_p t19_l t19_c) fun h_15 =>
  JoinP (fun (t28 : Bool) (h_16 : Heap) =>
    if t28 = true then
      StoreP h_16 ⟨b, 0, none⟩ (.int .u64 0) fun h_17 =>
      StoreP h_17 ⟨b, 1, none⟩ (.int .i64 0) fun h_18 =>
      StoreP h_18 ⟨b, 2, none⟩ (.int .i64 0) fun h_19 =>
      StoreP h_19 ⟨b, 3, none⟩ (.int .i64 0) fun h_20 =>
      StoreP h_20 ⟨b, 4, none⟩ (.int .u64 0) fun h_21 =>
      StoreP h_21 ⟨b, 5, none⟩ (.slice none 0 0) fun h_22 =>
      ∃ (r_0 : Int), hcell h_22 ⟨b, 0, none⟩ = some (.int .u64 r_0) ∧ ∃ (r_1 : Int), hcell h_22 ⟨b, 1, none⟩ = some (.int .i64 r_1) ∧ ∃ (r_2 : Int), hcell h_22 ⟨b, 2, none⟩ = some (.int .i64 r_2) ∧ ∃ (r_3 : Int), hcell h_22 ⟨b, 3, none⟩ = some (.int .i64 r_3) ∧ ∃ (r_4 : Int), hcell h_22 ⟨b, 4, none⟩ = some (.int .u64 r_4) ∧ ∃ (r_5_p : Option Addr) (r_5_l r_5_c : Nat), hcell h_22 ⟨b, 5, none⟩ = some (.slice r_5_p r_5_l r_5_c) ∧ 
      R (.tuple #[.agg #[.int .u64 r_0, .int .i64 r_1, .int .i64 r_2, .int .i64 r_3, .int .u64 r_4, .slice r_5_p r_5_l r_5_c], .int .i64 3]) h_22
    else
      ∃ (t30_0 : Int), hcell h_16 ⟨b_1, 0, none⟩ = some (.int .u64 t30_0) ∧ ∃ (t30_1 : Int), hcell h_16 ⟨b_1, 1, none⟩ = some (.int .i64 t30_1) ∧ ∃ (t30_2 : Int), hcell h_16 ⟨b_1, 2, none⟩ = some (.int .i64 t30_2) ∧ ∃ (t30_3 : Int), hcell h_16 ⟨b_1, 3, none⟩ = some (.int .i64 t30_3) ∧ ∃ (t30_4 : Int), hcell h_16 ⟨b_1, 4, none⟩ = some (.int .u64 t30_4) ∧ ∃ (t30_5_p : Option Addr) (t30_5_l t30_5_c : Nat), hcell h_16 ⟨b_1, 5, none⟩ = some (.slice t30_5_p t30_5_l t30_5_c) ∧ 
      StoreP h_16 ⟨b, 0, none⟩ (.int .u64 t30_0) fun h_23 =>
      StoreP h_23 ⟨b, 1, none⟩ (.int .i64 t30_1) fun h_24 =>
      StoreP h_24 ⟨b, 2, none⟩ (.int .i64 t30_2) fun h_25 =>
      StoreP h_25 ⟨b, 3, none⟩ (.int .i64 t30_3) fun h_26 =>
      StoreP h_26 ⟨b, 4, none⟩ (.int .u64 t30_4) fun h_27 =>
      StoreP h_27 ⟨b, 5, none⟩ (.slice t30_5_p t30_5_l t30_5_c) fun h_28 =>
      ∃ (r_0_1 : Int), hcell h_28 ⟨b, 0, none⟩ = some (.int .u64 r_0_1) ∧ ∃ (r_1_1 : Int), hcell h_28 ⟨b, 1, none⟩ = some (.int .i64 r_1_1) ∧ ∃ (r_2_1 : Int), hcell h_28 ⟨b, 2, none⟩ = some (.int .i64 r_2_1) ∧ ∃ (r_3_1 : Int), hcell h_28 ⟨b, 3, none⟩ = some (.int .i64 r_3_1) ∧ ∃ (r_4_1 : Int), hcell h_28 ⟨b, 4, none⟩ = some (.int .u64 r_4_1) ∧ ∃ (r_5_p_1 : Option Addr) (r_5_l_1 r_5_c_1 : Nat), hcell h_28 ⟨b, 5, none⟩ = some (.slice r_5_p_1 r_5_l_1 r_5_c_1) ∧ 
      R (.tuple #[.agg #[.int .u64 r_0_1, .int .i64 r_1_1, .int .i64 r_2_1, .int .i64 r_3_1, .int .u64 r_4_1, .slice r_5_p_1 r_5_l_1 r_5_c_1], .int .i64 0]) h_28)
  (fun J =>
    CallsH Try.prog F.fields_Reader_End #[.pointer t7] h_15 fun v_7 h_29 =>
    ∃ (t22 : Int), v_7 = .int .i64 t22 ∧
    if (t22 != 0) = true then
      J true h_29
    else
      ∃ (t25_0 : Int), hcell h_29 ⟨b_1, 0, none⟩ = some (.int .u64 t25_0) ∧ ∃ (t25_1 : Int), hcell h_29 ⟨b_1, 1, none⟩ = some (.int .i64 t25_1) ∧ ∃ (t25_2 : Int), hcell h_29 ⟨b_1, 2, none⟩ = some (.int .i64 t25_2) ∧ ∃ (t25_3 : Int), hcell h_29 ⟨b_1, 3, none⟩ = some (.int .i64 t25_3) ∧ ∃ (t25_4 : Int), hcell h_29 ⟨b_1, 4, none⟩ = some (.int .u64 t25_4) ∧ ∃ (t25_5_p : Option Addr) (t25_5_l t25_5_c : Nat), hcell h_29 ⟨b_1, 5, none⟩ = some (.slice t25_5_p t25_5_l t25_5_c) ∧ 
      CallsH Try.prog F.reply_Right #[.agg #[.int .u64 t25_0, .int .i64 t25_1, .int .i64 t25_2, .int .i64 t25_3, .int .u64 t25_4, .slice t25_5_p t25_5_l t25_5_c]] h_29 fun v_8 h_30 =>
      ∃ (t26 : Bool), v_8 = .bool t26 ∧
      J (!t26) h_30)
theorem reply_Read.den_eq (b_p : Option Addr) (b_l b_c : Nat) (h : Heap) (R : Value → Heap → Prop) : reply_Read.vc b_p b_l b_c h R = den Try.prog Try.f8.ntmps (.seq .leaf (.seq .leaf (.seq .leaf (.seq (.seq (.join [(28, .one (.bool))] .leaf) (.cond (.seq .leaf .leaf) .leaf)) (.seq .leaf .leaf))))) none (bodyOf Try.f8) (retK Try.prog Try.f8.results R) (argEnv [.slice b_p b_l b_c]) h := by kernel_rfl
theorem reply_Read.walk {b_p : Option Addr} {b_l b_c : Nat} {h : Heap} {R : Value → Heap → Prop} (hv : reply_Read.vc b_p b_l b_c h R) : CallsH Try.prog F.reply_Read #[.slice b_p b_l b_c] h R :=
  callsH_of_body _ Try.func8 rfl rfl (Eq.mp (reply_Read.den_eq b_p b_l b_c h R) hv)

def ref17_Right.vc (x_0 : Int) (x_1 : Int) (x_2 : Int) (x_3 : Int) (x_4 : Int) (x_5_p : Option Addr) (x_5_l x_5_c : Nat) (h : Heap) (R : Value → Heap → Prop) : Prop :=
  NewP h (.cells #[.int .u64 x_0, .int .i64 x_1, .int .i64 x_2, .int .i64 x_3, .int .u64 x_4, .slice x_5_p x_5_l x_5_c] T.ref17_Reply) fun b h_1 =>
  JoinP (fun (t15 : Bool) (h_2 : Heap) =>
    if t15 = true then
      R (.bool false) h_2
    else
      ∃ (t17 : Int), hcell h_2 ⟨b, 1, none⟩ = some (.int .i64 t17) ∧
      if (decide (t17 > 0)) = true then
        ∃ (t20 : Int), hcell h_2 ⟨b, 2, none⟩ = some (.int .i64 t20) ∧
        if (t20 == 0) = true then
          ∃ (t24 : Int), hcell h_2 ⟨b, 3, none⟩ = some (.int .i64 t24) ∧
          if (t24 == 0) = true then
            ∃ (t29 : Int), hcell h_2 ⟨b, 4, none⟩ = some (.int .u64 t29) ∧
            if (t29 == 0) = true then
              ∃ (t34_p : Option Addr) (t34_l t34_c : Nat), hcell h_2 ⟨b, 5, none⟩ = some (.slice t34_p t34_l t34_c) ∧
              R (.bool (((t34_l : Nat) : Int) == 0)) h_2
            else
              R (.bool false) h_2
          else
            R (.bool false) h_2
        else
          R (.bool false) h_2
      else
        ∃ (t39 : Int), hcell h_2 ⟨b, 2, none⟩ = some (.int .i64 t39) ∧
        if (decide (t39 ≥ 0)) = true then
          ∃ (t43 : Int), hcell h_2 ⟨b, 2, none⟩ = some (.int .i64 t43) ∧
          if (decide (t43 ≤ 1099511627776)) = true then
            ∃ (t48 : Int), hcell h_2 ⟨b, 3, none⟩ = some (.int .i64 t48) ∧
            if (decide (t48 ≥ 0)) = true then
              ∃ (t53 : Int), hcell h_2 ⟨b, 3, none⟩ = some (.int .i64 t53) ∧
              if (decide (t53 ≤ 1099511627776)) = true then
                ∃ (t58 : Int), hcell h_2 ⟨b, 4, none⟩ = some (.int .u64 t58) ∧
                if (decide (t58 ≤ 2147483648)) = true then
                  ∃ (t63_p : Option Addr) (t63_l t63_c : Nat), hcell h_2 ⟨b, 5, none⟩ = some (.slice t63_p t63_l t63_c) ∧
                  R (.bool (decide (((t63_l : Nat) : Int) ≤ 600))) h_2
                else
                  R (.bool false) h_2
              else
                R (.bool false) h_2
            else
              R (.bool false) h_2
          else
            R (.bool false) h_2
        else
          R (.bool false) h_2)
  (fun J =>
    ∃ (t4 : Int), hcell h_1 ⟨b, 1, none⟩ = some (.int .i64 t4) ∧
    if (decide (t4 < 0)) = true then
      J true h_1
    else
      ∃ (t8 : Int), hcell h_1 ⟨b, 1, none⟩ = some (.int .i64 t8) ∧
      if (decide (t8 > 99)) = true then
        J true h_1
      else
        ∃ (t13 : Int), hcell h_1 ⟨b, 0, none⟩ = some (.int .u64 t13) ∧
        J (decide (t13 > 1099511627776)) h_1)
theorem ref17_Right.den_eq (x_0 : Int) (x_1 : Int) (x_2 : Int) (x_3 : Int) (x_4 : Int) (x_5_p : Option Addr) (x_5_l x_5_c : Nat) (h : Heap) (R : Value → Heap → Prop) : ref17_Right.vc x_0 x_1 x_2 x_3 x_4 x_5_p x_5_l x_5_c h R = den Try.prog Try.f11.ntmps (.seq .leaf (.seq (.seq (.join [(15, .one (.bool))] .leaf) (.cond (.seq .leaf .leaf) .leaf)) (.seq (.seq .leaf (.cond (.seq .leaf .leaf) .leaf)) (.seq .leaf .leaf)))) none (bodyOf Try.f11) (retK Try.prog Try.f11.results R) (argEnv [.agg #[.int .u64 x_0, .int .i64 x_1, .int .i64 x_2, .int .i64 x_3, .int .u64 x_4, .slice x_5_p x_5_l x_5_c]]) h := by kernel_rfl
theorem ref17_Right.walk {x_0 : Int} {x_1 : Int} {x_2 : Int} {x_3 : Int} {x_4 : Int} {x_5_p : Option Addr} {x_5_l x_5_c : Nat} {h : Heap} {R : Value → Heap → Prop} (hv : ref17_Right.vc x_0 x_1 x_2 x_3 x_4 x_5_p x_5_l x_5_c h R) : CallsH Try.prog F.ref17_Right #[.agg #[.int .u64 x_0, .int .i64 x_1, .int .i64 x_2, .int .i64 x_3, .int .u64 x_4, .slice x_5_p x_5_l x_5_c]] h R :=
  callsH_of_body _ Try.func11 rfl rfl (Eq.mp (ref17_Right.den_eq x_0 x_1 x_2 x_3 x_4 x_5_p x_5_l x_5_c h R) hv)

def ref17_Write.vc (x_0 : Int) (x_1 : Int) (x_2 : Int) (x_3 : Int) (x_4 : Int) (x_5_p : Option Addr) (x_5_l x_5_c : Nat) (h : Heap) (R : Value → Heap → Prop) : Prop :=
  NewP h (.cells #[.int .u64 x_0, .int .i64 x_1, .int .i64 x_2, .int .i64 x_3, .int .u64 x_4, .slice x_5_p x_5_l x_5_c] T.ref17_Reply) fun b h_1 =>
  ∃ (t7 : Int), hcell h_1 ⟨b, 0, none⟩ = some (.int .u64 t7) ∧
  CallsH Try.prog F.ref15_Num #[.int .u64 t7] h_1 fun v h_2 =>
  ∃ (t8_p : Option Addr) (t8_l t8_c : Nat), v = .slice t8_p t8_l t8_c ∧
  ∃ (t10 : Int), hcell h_2 ⟨b, 1, none⟩ = some (.int .i64 t10) ∧
  ∃ (t13 : Int), hcell h_2 ⟨b, 2, none⟩ = some (.int .i64 t13) ∧
  ∃ (t16 : Int), hcell h_2 ⟨b, 3, none⟩ = some (.int .i64 t16) ∧
  ∃ (t19 : Int), hcell h_2 ⟨b, 4, none⟩ = some (.int .u64 t19) ∧
  NewP h_2 (.cells #[.int .u64 (IntKind.wrap .u64 t10), .int .u64 (IntKind.wrap .u64 t13), .int .u64 (IntKind.wrap .u64 t16), .int .u64 t19] T.uint64) fun b_1 h_3 =>
  ∃ (I : Option Addr → Nat → Nat → Int → Heap → Prop) (mu : Option Addr → Nat → Nat → Int → Heap → Nat), I t8_p t8_l t8_c 0 h_3 ∧ ∀ (out_p : Option Addr) (out_l out_c : Nat) (i : Int) (h_4 : Heap), I out_p out_l out_c i h_4 →
    if (decide (i < 4)) = true then
      ((0 : Int) ≤ i ∧ i < ((4 : Nat) : Int)) ∧
      ∃ (t29 : Int), hcell h_4 ((⟨b_1, 0, none⟩ : Addr).add (Int.toNat i * 1)) = some (.int .u64 t29) ∧
      CallsH Try.prog F.ref15_Num #[.int .u64 t29] h_4 fun v_1 h_5 =>
      ∃ (t30_p : Option Addr) (t30_l t30_c : Nat), v_1 = .slice t30_p t30_l t30_c ∧
      denSem Try.prog (Builtin.append_ #[T.s_uint8, T.s_uint8] T.s_uint8 #[.slice out_p out_l out_c, .slice t30_p t30_l t30_c]) h_5 fun v_2 h_6 =>
      ∃ (t31_p : Option Addr) (t31_l t31_c : Nat), v_2 = .slice t31_p t31_l t31_c ∧
      (I t31_p t31_l t31_c (IntKind.wrap .i64 (i + 1)) h_6 ∧ mu t31_p t31_l t31_c (IntKind.wrap .i64 (i + 1)) h_6 < mu out_p out_l out_c i h_4)
    else
      ∃ (t34_p : Option Addr) (t34_l t34_c : Nat), hcell h_4 ⟨b, 5, none⟩ = some (.slice t34_p t34_l t34_c) ∧
      CallsH Try.prog F.ref15_Text #[.slice t34_p t34_l t34_c] h_4 fun v_3 h_7 =>
      ∃ (t35_p : Option Addr) (t35_l t35_c : Nat), v_3 = .slice t35_p t35_l t35_c ∧
      denSem Try.prog (Builtin.append_ #[T.s_uint8, T.s_uint8] T.s_uint8 #[.slice out_p out_l out_c, .slice t35_p t35_l t35_c]) h_7 fun v_4 h_8 =>
      ∃ (t36_p : Option Addr) (t36_l t36_c : Nat), v_4 = .slice t36_p t36_l t36_c ∧
      R (.slice t36_p t36_l t36_c) h_8
theorem ref17_Write.den_eq (x_0 : Int) (x_1 : Int) (x_2 : Int) (x_3 : Int) (x_4 : Int) (x_5_p : Option Addr) (x_5_l x_5_c : Nat) (h : Heap) (R : Value → Heap → Prop) : ref17_Write.vc x_0 x_1 x_2 x_3 x_4 x_5_p x_5_l x_5_c h R = den Try.prog Try.f15.ntmps (.seq .leaf (.seq .leaf (.seq .leaf (.seq (.seq .leaf (.block (.loop [(3, .one (.slice)), (5, .one (.int .i64))] (.seq (.seq .leaf (.cond .leaf .leaf)) (.seq (.block .leaf) .leaf))))) (.seq .leaf .leaf))))) none (bodyOf Try.f15) (retK Try.prog Try.f15.results R) (argEnv [.agg #[.int .u64 x_0, .int .i64 x_1, .int .i64 x_2, .int .i64 x_3, .int .u64 x_4, .slice x_5_p x_5_l x_5_c]]) h := by kernel_rfl
theorem ref17_Write.walk {x_0 : Int} {x_1 : Int} {x_2 : Int} {x_3 : Int} {x_4 : Int} {x_5_p : Option Addr} {x_5_l x_5_c : Nat} {h : Heap} {R : Value → Heap → Prop} (hv : ref17_Write.vc x_0 x_1 x_2 x_3 x_4 x_5_p x_5_l x_5_c h R) : CallsH Try.prog F.ref17_Write #[.agg #[.int .u64 x_0, .int .i64 x_1, .int .i64 x_2, .int .i64 x_3, .int .u64 x_4, .slice x_5_p x_5_l x_5_c]] h R :=
  callsH_of_body _ Try.func15 rfl rfl (Eq.mp (ref17_Write.den_eq x_0 x_1 x_2 x_3 x_4 x_5_p x_5_l x_5_c h R) hv)

def ref17_Read.vc (b_p : Option Addr) (b_l b_c : Nat) (h : Heap) (R : Value → Heap → Prop) : Prop :=
  NewP h (.cells #[.int .u64 0, .int .i64 0, .int .i64 0, .int .i64 0, .int .u64 0, .slice none 0 0] T.ref17_Reply) fun b h_1 =>
  NewP h_1 (.cells #[.slice b_p b_l b_c, .int .i64 0, .int .i64 0] T.ref15_Reader) fun b_1 h_2 =>
  CallsH Try.prog F.ref15_Reader_Num #[.pointer (some ⟨b_1, 0, none⟩)] h_2 fun v h_3 =>
  ∃ (t16 : Int), v = .int .u64 t16 ∧
  CallsH Try.prog F.ref15_Reader_Most #[.pointer (some ⟨b_1, 0, none⟩), .int .u64 99] h_3 fun v_1 h_4 =>
  ∃ (t18 : Int), v_1 = .int .u64 t18 ∧
  CallsH Try.prog F.ref15_Reader_Most #[.pointer (some ⟨b_1, 0, none⟩), .int .u64 1099511627776] h_4 fun v_2 h_5 =>
  ∃ (t20 : Int), v_2 = .int .u64 t20 ∧
  CallsH Try.prog F.ref15_Reader_Most #[.pointer (some ⟨b_1, 0, none⟩), .int .u64 1099511627776] h_5 fun v_3 h_6 =>
  ∃ (t22 : Int), v_3 = .int .u64 t22 ∧
  CallsH Try.prog F.ref15_Reader_Num #[.pointer (some ⟨b_1, 0, none⟩)] h_6 fun v_4 h_7 =>
  ∃ (t24 : Int), v_4 = .int .u64 t24 ∧
  CallsH Try.prog F.ref15_Reader_Text #[.pointer (some ⟨b_1, 0, none⟩)] h_7 fun v_5 h_8 =>
  ∃ (t26_p : Option Addr) (t26_l t26_c : Nat), v_5 = .slice t26_p t26_l t26_c ∧
  NewP h_8 (.cells #[.int .u64 0, .int .i64 0, .int .i64 0, .int .i64 0, .int .u64 0, .slice none 0 0] T.ref17_Reply) fun b_2 h_9 =>
  StoreP h_9 ⟨b_2, 0, none⟩ (.int .u64 t16) fun h_10 =>
  StoreP h_10 ⟨b_2, 1, none⟩ (.int .i64 (IntKind.wrap .i64 t18)) fun h_11 =>
  StoreP h_11 ⟨b_2, 2, none⟩ (.int .i64 (IntKind.wrap .i64 t20)) fun h_12 =>
  StoreP h_12 ⟨b_2, 3, none⟩ (.int .i64 (IntKind.wrap .i64 t22)) fun h_13 =>
  StoreP h_13 ⟨b_2, 4, none⟩ (.int .u64 t24) fun h_14 =>
  StoreP h_14 ⟨b_2, 5, none⟩ (.slice t26_p t26_l t26_c) fun h_15 =>
  JoinP (fun (t44 : Bool) (h_16 : Heap) =>
    if t44 = true then
      StoreP h_16 ⟨b, 0, none⟩ (.int .u64 0) fun h_17 =>
      StoreP h_17 ⟨b, 1, none⟩ (.int .i64 0) fun h_18 =>
      StoreP h_18 ⟨b, 2, none⟩ (.int .i64 0) fun h_19 =>
      StoreP h_19 ⟨b, 3, none⟩ (.int .i64 0) fun h_20 =>
      StoreP h_20 ⟨b, 4, none⟩ (.int .u64 0) fun h_21 =>
      StoreP h_21 ⟨b, 5, none⟩ (.slice none 0 0) fun h_22 =>
      ∃ (r_0 : Int), hcell h_22 ⟨b, 0, none⟩ = some (.int .u64 r_0) ∧ ∃ (r_1 : Int), hcell h_22 ⟨b, 1, none⟩ = some (.int .i64 r_1) ∧ ∃ (r_2 : Int), hcell h_22 ⟨b, 2, none⟩ = some (.int .i64 r_2) ∧ ∃ (r_3 : Int), hcell h_22 ⟨b, 3, none⟩ = some (.int .i64 r_3) ∧ ∃ (r_4 : Int), hcell h_22 ⟨b, 4, none⟩ = some (.int .u64 r_4) ∧ ∃ (r_5_p : Option Addr) (r_5_l r_5_c : Nat), hcell h_22 ⟨b, 5, none⟩ = some (.slice r_5_p r_5_l r_5_c) ∧ 
      R (.tuple #[.agg #[.int .u64 r_0, .int .i64 r_1, .int .i64 r_2, .int .i64 r_3, .int .u64 r_4, .slice r_5_p r_5_l r_5_c], .bool false]) h_22
    else
      ∃ (t46_0 : Int), hcell h_16 ⟨b_2, 0, none⟩ = some (.int .u64 t46_0) ∧ ∃ (t46_1 : Int), hcell h_16 ⟨b_2, 1, none⟩ = some (.int .i64 t46_1) ∧ ∃ (t46_2 : Int), hcell h_16 ⟨b_2, 2, none⟩ = some (.int .i64 t46_2) ∧ ∃ (t46_3 : Int), hcell h_16 ⟨b_2, 3, none⟩ = some (.int .i64 t46_3) ∧ ∃ (t46_4 : Int), hcell h_16 ⟨b_2, 4, none⟩ = some (.int .u64 t46_4) ∧ ∃ (t46_5_p : Option Addr) (t46_5_l t46_5_c : Nat), hcell h_16 ⟨b_2, 5, none⟩ = some (.slice t46_5_p t46_5_l t46_5_c) ∧ 
      StoreP h_16 ⟨b, 0, none⟩ (.int .u64 t46_0) fun h_23 =>
      StoreP h_23 ⟨b, 1, none⟩ (.int .i64 t46_1) fun h_24 =>
      StoreP h_24 ⟨b, 2, none⟩ (.int .i64 t46_2) fun h_25 =>
      StoreP h_25 ⟨b, 3, none⟩ (.int .i64 t46_3) fun h_26 =>
      StoreP h_26 ⟨b, 4, none⟩ (.int .u64 t46_4) fun h_27 =>
      StoreP h_27 ⟨b, 5, none⟩ (.slice t46_5_p t46_5_l t46_5_c) fun h_28 =>
      ∃ (r_0_1 : Int), hcell h_28 ⟨b, 0, none⟩ = some (.int .u64 r_0_1) ∧ ∃ (r_1_1 : Int), hcell h_28 ⟨b, 1, none⟩ = some (.int .i64 r_1_1) ∧ ∃ (r_2_1 : Int), hcell h_28 ⟨b, 2, none⟩ = some (.int .i64 r_2_1) ∧ ∃ (r_3_1 : Int), hcell h_28 ⟨b, 3, none⟩ = some (.int .i64 r_3_1) ∧ ∃ (r_4_1 : Int), hcell h_28 ⟨b, 4, none⟩ = some (.int .u64 r_4_1) ∧ ∃ (r_5_p_1 : Option Addr) (r_5_l_1 r_5_c_1 : Nat), hcell h_28 ⟨b, 5, none⟩ = some (.slice r_5_p_1 r_5_l_1 r_5_c_1) ∧ 
      R (.tuple #[.agg #[.int .u64 r_0_1, .int .i64 r_1_1, .int .i64 r_2_1, .int .i64 r_3_1, .int .u64 r_4_1, .slice r_5_p_1 r_5_l_1 r_5_c_1], .bool true]) h_28)
  (fun J =>
    CallsH Try.prog F.ref15_Reader_End #[.pointer (some ⟨b_1, 0, none⟩)] h_15 fun v_6 h_29 =>
    ∃ (t38 : Int), v_6 = .int .i64 t38 ∧
    if (t38 != 0) = true then
      J true h_29
    else
      ∃ (t41_0 : Int), hcell h_29 ⟨b_2, 0, none⟩ = some (.int .u64 t41_0) ∧ ∃ (t41_1 : Int), hcell h_29 ⟨b_2, 1, none⟩ = some (.int .i64 t41_1) ∧ ∃ (t41_2 : Int), hcell h_29 ⟨b_2, 2, none⟩ = some (.int .i64 t41_2) ∧ ∃ (t41_3 : Int), hcell h_29 ⟨b_2, 3, none⟩ = some (.int .i64 t41_3) ∧ ∃ (t41_4 : Int), hcell h_29 ⟨b_2, 4, none⟩ = some (.int .u64 t41_4) ∧ ∃ (t41_5_p : Option Addr) (t41_5_l t41_5_c : Nat), hcell h_29 ⟨b_2, 5, none⟩ = some (.slice t41_5_p t41_5_l t41_5_c) ∧ 
      CallsH Try.prog F.ref17_Right #[.agg #[.int .u64 t41_0, .int .i64 t41_1, .int .i64 t41_2, .int .i64 t41_3, .int .u64 t41_4, .slice t41_5_p t41_5_l t41_5_c]] h_29 fun v_7 h_30 =>
      ∃ (t42 : Bool), v_7 = .bool t42 ∧
      J (!t42) h_30)
theorem ref17_Read.den_eq (b_p : Option Addr) (b_l b_c : Nat) (h : Heap) (R : Value → Heap → Prop) : ref17_Read.vc b_p b_l b_c h R = den Try.prog Try.f9.ntmps (.seq .leaf (.seq .leaf (.seq .leaf (.seq .leaf (.seq .leaf (.seq .leaf (.seq (.seq (.join [(44, .one (.bool))] .leaf) (.cond (.seq .leaf .leaf) .leaf)) (.seq .leaf .leaf)))))))) none (bodyOf Try.f9) (retK Try.prog Try.f9.results R) (argEnv [.slice b_p b_l b_c]) h := by kernel_rfl
theorem ref17_Read.walk {b_p : Option Addr} {b_l b_c : Nat} {h : Heap} {R : Value → Heap → Prop} (hv : ref17_Read.vc b_p b_l b_c h R) : CallsH Try.prog F.ref17_Read #[.slice b_p b_l b_c] h R :=
  callsH_of_body _ Try.func9 rfl rfl (Eq.mp (ref17_Read.den_eq b_p b_l b_c h R) hv)

def ref17_Same.vc (a_0 : Int) (a_1 : Int) (a_2 : Int) (a_3 : Int) (a_4 : Int) (a_5_p : Option Addr) (a_5_l a_5_c : Nat) (b_0 : Int) (b_1 : Int) (b_2 : Int) (b_3 : Int) (b_4 : Int) (b_5_p : Option Addr) (b_5_l b_5_c : Nat) (h : Heap) (R : Value → Heap → Prop) : Prop :=
  NewP h (.cells #[.int .u64 a_0, .int .i64 a_1, .int .i64 a_2, .int .i64 a_3, .int .u64 a_4, .slice a_5_p a_5_l a_5_c] T.ref17_Reply) fun b h_1 =>
  NewP h_1 (.cells #[.int .u64 b_0, .int .i64 b_1, .int .i64 b_2, .int .i64 b_3, .int .u64 b_4, .slice b_5_p b_5_l b_5_c] T.ref17_Reply) fun b_1 h_2 =>
  ∃ (t6 : Int), hcell h_2 ⟨b, 0, none⟩ = some (.int .u64 t6) ∧
  ∃ (t8 : Int), hcell h_2 ⟨b_1, 0, none⟩ = some (.int .u64 t8) ∧
  if (t6 == t8) = true then
    ∃ (t12 : Int), hcell h_2 ⟨b, 1, none⟩ = some (.int .i64 t12) ∧
    ∃ (t14 : Int), hcell h_2 ⟨b_1, 1, none⟩ = some (.int .i64 t14) ∧
    if (t12 == t14) = true then
      ∃ (t19 : Int), hcell h_2 ⟨b, 2, none⟩ = some (.int .i64 t19) ∧
      ∃ (t21 : Int), hcell h_2 ⟨b_1, 2, none⟩ = some (.int .i64 t21) ∧
      if (t19 == t21) = true then
        ∃ (t26 : Int), hcell h_2 ⟨b, 3, none⟩ = some (.int .i64 t26) ∧
        ∃ (t28 : Int), hcell h_2 ⟨b_1, 3, none⟩ = some (.int .i64 t28) ∧
        if (t26 == t28) = true then
          ∃ (t33 : Int), hcell h_2 ⟨b, 4, none⟩ = some (.int .u64 t33) ∧
          ∃ (t35 : Int), hcell h_2 ⟨b_1, 4, none⟩ = some (.int .u64 t35) ∧
          if (t33 == t35) = true then
            ∃ (t40_p : Option Addr) (t40_l t40_c : Nat), hcell h_2 ⟨b, 5, none⟩ = some (.slice t40_p t40_l t40_c) ∧
            ∃ (t41 : ByteArray), ConvV Try.prog T.s_uint8 T.string (.slice t40_p t40_l t40_c) h_2 t41 ∧
            ∃ (t43_p : Option Addr) (t43_l t43_c : Nat), hcell h_2 ⟨b_1, 5, none⟩ = some (.slice t43_p t43_l t43_c) ∧
            ∃ (t44 : ByteArray), ConvV Try.prog T.s_uint8 T.string (.slice t43_p t43_l t43_c) h_2 t44 ∧
            R (.bool (t41.toList == t44.toList)) h_2
          else
            R (.bool false) h_2
        else
          R (.bool false) h_2
      else
        R (.bool false) h_2
    else
      R (.bool false) h_2
  else
    R (.bool false) h_2
theorem ref17_Same.den_eq (a_0 : Int) (a_1 : Int) (a_2 : Int) (a_3 : Int) (a_4 : Int) (a_5_p : Option Addr) (a_5_l a_5_c : Nat) (b_0 : Int) (b_1 : Int) (b_2 : Int) (b_3 : Int) (b_4 : Int) (b_5_p : Option Addr) (b_5_l b_5_c : Nat) (h : Heap) (R : Value → Heap → Prop) : ref17_Same.vc a_0 a_1 a_2 a_3 a_4 a_5_p a_5_l a_5_c b_0 b_1 b_2 b_3 b_4 b_5_p b_5_l b_5_c h R = den Try.prog Try.f12.ntmps (.seq .leaf (.seq .leaf .leaf)) none (bodyOf Try.f12) (retK Try.prog Try.f12.results R) (argEnv [.agg #[.int .u64 a_0, .int .i64 a_1, .int .i64 a_2, .int .i64 a_3, .int .u64 a_4, .slice a_5_p a_5_l a_5_c], .agg #[.int .u64 b_0, .int .i64 b_1, .int .i64 b_2, .int .i64 b_3, .int .u64 b_4, .slice b_5_p b_5_l b_5_c]]) h := by kernel_rfl
theorem ref17_Same.walk {a_0 : Int} {a_1 : Int} {a_2 : Int} {a_3 : Int} {a_4 : Int} {a_5_p : Option Addr} {a_5_l a_5_c : Nat} {b_0 : Int} {b_1 : Int} {b_2 : Int} {b_3 : Int} {b_4 : Int} {b_5_p : Option Addr} {b_5_l b_5_c : Nat} {h : Heap} {R : Value → Heap → Prop} (hv : ref17_Same.vc a_0 a_1 a_2 a_3 a_4 a_5_p a_5_l a_5_c b_0 b_1 b_2 b_3 b_4 b_5_p b_5_l b_5_c h R) : CallsH Try.prog F.ref17_Same #[.agg #[.int .u64 a_0, .int .i64 a_1, .int .i64 a_2, .int .i64 a_3, .int .u64 a_4, .slice a_5_p a_5_l a_5_c], .agg #[.int .u64 b_0, .int .i64 b_1, .int .i64 b_2, .int .i64 b_3, .int .u64 b_4, .slice b_5_p b_5_l b_5_c]] h R :=
  callsH_of_body _ Try.func12 rfl rfl (Eq.mp (ref17_Same.den_eq a_0 a_1 a_2 a_3 a_4 a_5_p a_5_l a_5_c b_0 b_1 b_2 b_3 b_4 b_5_p b_5_l b_5_c h R) hv)

end Go.Proofs.Ytopoaalbfdblnaa
