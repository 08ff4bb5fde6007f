/-
  Printed by a program of this work (vc.py): the verification conditions of functions, and that each is enough for the call. No condition.
-/
import Derived.Test.YtopoaalbfdblnaaNames
set_option maxRecDepth 100000
set_option maxHeartbeats 4000000
namespace Go.Proofs.Ytopoaalbfdblnaa
open Go.Den
def law17_alive.vc  (h : Heap) (R : Value → Heap → Prop) : Prop :=
  CallsH Try.prog F.reply_Write #[.agg #[.int .u64 5, .int .i64 0, .int .i64 300, .int .i64 0, .int .u64 0, .slice none 0 0]] h fun v h_1 =>
  ∃ (t12_0_p : Option Addr) (t12_0_l t12_0_c : Nat), ∃ (t12_1 : Int), v = .tuple #[.slice t12_0_p t12_0_l t12_0_c, .int .i64 t12_1] ∧
  CallsH Try.prog F.reply_Read #[.slice t12_0_p t12_0_l t12_0_c] h_1 fun v_1 h_2 =>
  ∃ (t17_0_0 : Int), ∃ (t17_0_1 : Int), ∃ (t17_0_2 : Int), ∃ (t17_0_3 : Int), ∃ (t17_0_4 : Int), ∃ (t17_0_5_p : Option Addr) (t17_0_5_l t17_0_5_c : Nat), ∃ (t17_1 : Int), v_1 = .tuple #[.agg #[.int .u64 t17_0_0, .int .i64 t17_0_1, .int .i64 t17_0_2, .int .i64 t17_0_3, .int .u64 t17_0_4, .slice t17_0_5_p t17_0_5_l t17_0_5_c], .int .i64 t17_1] ∧
  NewP h_2 (.cells #[.int .u64 0, .int .i64 0, .int .i64 0, .int .i64 0, .int .u64 0, .slice none 0 0] T.reply_Reply) fun b h_3 =>
  StoreP h_3 ⟨b, 0, none⟩ (.int .u64 t17_0_0) fun h_4 =>
  StoreP h_4 ⟨b, 1, none⟩ (.int .i64 t17_0_1) fun h_5 =>
  StoreP h_5 ⟨b, 2, none⟩ (.int .i64 t17_0_2) fun h_6 =>
  StoreP h_6 ⟨b, 3, none⟩ (.int .i64 t17_0_3) fun h_7 =>
  StoreP h_7 ⟨b, 4, none⟩ (.int .u64 t17_0_4) fun h_8 =>
  StoreP h_8 ⟨b, 5, none⟩ (.slice t17_0_5_p t17_0_5_l t17_0_5_c) fun h_9 =>
  NewP h_9 (.cells #[.int .u8 5, .int .u8 4, .int .u8 1, .int .u8 0, .int .u8 0, .int .u8 0] T.uint8) fun b_1 h_10 =>
  CallsH Try.prog F.reply_Read #[.slice (some ⟨b_1, 0, none⟩) 6 6] h_10 fun v_2 h_11 =>
  ∃ (t22_0_0 : Int), ∃ (t22_0_1 : Int), ∃ (t22_0_2 : Int), ∃ (t22_0_3 : Int), ∃ (t22_0_4 : Int), ∃ (t22_0_5_p : Option Addr) (t22_0_5_l t22_0_5_c : Nat), ∃ (t22_1 : Int), v_2 = .tuple #[.agg #[.int .u64 t22_0_0, .int .i64 t22_0_1, .int .i64 t22_0_2, .int .i64 t22_0_3, .int .u64 t22_0_4, .slice t22_0_5_p t22_0_5_l t22_0_5_c], .int .i64 t22_1] ∧
  NewP h_11 (.cells #[.int .u64 0, .int .i64 0, .int .i64 0, .int .i64 0, .int .u64 0, .slice none 0 0] T.reply_Reply) fun b_2 h_12 =>
  StoreP h_12 ⟨b_2, 0, none⟩ (.int .u64 t22_0_0) fun h_13 =>
  StoreP h_13 ⟨b_2, 1, none⟩ (.int .i64 t22_0_1) fun h_14 =>
  StoreP h_14 ⟨b_2, 2, none⟩ (.int .i64 t22_0_2) fun h_15 =>
  StoreP h_15 ⟨b_2, 3, none⟩ (.int .i64 t22_0_3) fun h_16 =>
  StoreP h_16 ⟨b_2, 4, none⟩ (.int .u64 t22_0_4) fun h_17 =>
  StoreP h_17 ⟨b_2, 5, none⟩ (.slice t22_0_5_p t22_0_5_l t22_0_5_c) fun h_18 =>
  CallsH Try.prog F.reply_Fail #[.int .u64 3, .int .i64 4] h_18 fun v_3 h_19 =>
  ∃ (t25_0 : Int), ∃ (t25_1 : Int), ∃ (t25_2 : Int), ∃ (t25_3 : Int), ∃ (t25_4 : Int), ∃ (t25_5_p : Option Addr) (t25_5_l t25_5_c : Nat), v_3 = .agg #[.int .u64 t25_0, .int .i64 t25_1, .int .i64 t25_2, .int .i64 t25_3, .int .u64 t25_4, .slice t25_5_p t25_5_l t25_5_c] ∧
  NewP h_19 (.cells #[.int .u64 0, .int .i64 0, .int .i64 0, .int .i64 0, .int .u64 0, .slice none 0 0] T.reply_Reply) fun b_3 h_20 =>
  StoreP h_20 ⟨b_3, 0, none⟩ (.int .u64 t25_0) fun h_21 =>
  StoreP h_21 ⟨b_3, 1, none⟩ (.int .i64 t25_1) fun h_22 =>
  StoreP h_22 ⟨b_3, 2, none⟩ (.int .i64 t25_2) fun h_23 =>
  StoreP h_23 ⟨b_3, 3, none⟩ (.int .i64 t25_3) fun h_24 =>
  StoreP h_24 ⟨b_3, 4, none⟩ (.int .u64 t25_4) fun h_25 =>
  StoreP h_25 ⟨b_3, 5, none⟩ (.slice t25_5_p t25_5_l t25_5_c) fun h_26 =>
  CallsH Try.prog F.reply_Write #[.agg #[.int .u64 0, .int .i64 0, .int .i64 (-1), .int .i64 0, .int .u64 0, .slice none 0 0]] h_26 fun v_4 h_27 =>
  ∃ (t28_0_p : Option Addr) (t28_0_l t28_0_c : Nat), ∃ (t28_1 : Int), v_4 = .tuple #[.slice t28_0_p t28_0_l t28_0_c, .int .i64 t28_1] ∧
  ∃ (t32 : ByteArray), ConvV Try.prog T.s_uint8 T.string (.slice t12_0_p t12_0_l t12_0_c) h_27 t32 ∧
  if (t32.toList == (⟨#[5, 0, 172, 2, 0, 0, 0]⟩ : ByteArray).toList) = true then
    if (t12_1 == 0) = true then
      ∃ (t40 : Int), hcell h_27 ⟨b, 2, none⟩ = some (.int .i64 t40) ∧
      if (t40 == 300) = true then
        if (t17_1 == 0) = true then
          if (t22_1 == 3) = true then
            ∃ (t53 : Int), hcell h_27 ⟨b_3, 0, none⟩ = some (.int .u64 t53) ∧
            if (t53 == 3) = true then
              ∃ (t58 : Int), hcell h_27 ⟨b_3, 1, none⟩ = some (.int .i64 t58) ∧
              if (t58 == 4) = true then
                R (.bool (t28_1 == 3)) h_27
              else
                R (.bool false) h_27
            else
              R (.bool false) h_27
          else
            R (.bool false) h_27
        else
          R (.bool false) h_27
      else
        R (.bool false) h_27
    else
      R (.bool false) h_27
  else
    R (.bool false) h_27
theorem law17_alive.den_eq  (h : Heap) (R : Value → Heap → Prop) : law17_alive.vc h R = den Try.prog Try.f5.ntmps (.seq .leaf (.seq .leaf (.seq .leaf (.seq .leaf (.seq .leaf (.seq .leaf (.seq .leaf .leaf))))))) none (bodyOf Try.f5) (retK Try.prog Try.f5.results R) (argEnv []) h := by kernel_rfl
theorem law17_alive.walk  {h : Heap} {R : Value → Heap → Prop} (hv : law17_alive.vc h R) : CallsH Try.prog F.law17_alive #[] h R :=
  callsH_of_body _ Try.func5 rfl rfl (Eq.mp (law17_alive.den_eq h R) hv)

def law17_As.vc (x_0 : Int) (x_1 : Int) (x_2 : Int) (x_3 : Int) (x_4 : Int) (x_5_p : Option Addr) (x_5_l x_5_c : Nat) (h : Heap) (R : Value → Heap → Prop) : Prop :=
  NewP h (.cells #[.int .u64 x_0, .int .i64 x_1, .int .i64 x_2, .int .i64 x_3, .int .u64 x_4, .slice x_5_p x_5_l x_5_c] T.reply_Reply) fun b h_1 =>
  NewP h_1 (.cells #[.int .u64 0, .int .i64 0, .int .i64 0, .int .i64 0, .int .u64 0, .slice none 0 0] T.ref17_Reply) fun b_1 h_2 =>
  ∃ (t4 : Int), hcell h_2 ⟨b, 0, none⟩ = some (.int .u64 t4) ∧
  ∃ (t6 : Int), hcell h_2 ⟨b, 1, none⟩ = some (.int .i64 t6) ∧
  ∃ (t8 : Int), hcell h_2 ⟨b, 2, none⟩ = some (.int .i64 t8) ∧
  ∃ (t10 : Int), hcell h_2 ⟨b, 3, none⟩ = some (.int .i64 t10) ∧
  ∃ (t12 : Int), hcell h_2 ⟨b, 4, none⟩ = some (.int .u64 t12) ∧
  ∃ (t14_p : Option Addr) (t14_l t14_c : Nat), hcell h_2 ⟨b, 5, none⟩ = some (.slice t14_p t14_l t14_c) ∧
  StoreP h_2 ⟨b_1, 0, none⟩ (.int .u64 t4) fun h_3 =>
  StoreP h_3 ⟨b_1, 1, none⟩ (.int .i64 t6) fun h_4 =>
  StoreP h_4 ⟨b_1, 2, none⟩ (.int .i64 t8) fun h_5 =>
  StoreP h_5 ⟨b_1, 3, none⟩ (.int .i64 t10) fun h_6 =>
  StoreP h_6 ⟨b_1, 4, none⟩ (.int .u64 t12) fun h_7 =>
  StoreP h_7 ⟨b_1, 5, none⟩ (.slice t14_p t14_l t14_c) fun h_8 =>
  ∃ (r_0 : Int), hcell h_8 ⟨b_1, 0, none⟩ = some (.int .u64 r_0) ∧ ∃ (r_1 : Int), hcell h_8 ⟨b_1, 1, none⟩ = some (.int .i64 r_1) ∧ ∃ (r_2 : Int), hcell h_8 ⟨b_1, 2, none⟩ = some (.int .i64 r_2) ∧ ∃ (r_3 : Int), hcell h_8 ⟨b_1, 3, none⟩ = some (.int .i64 r_3) ∧ ∃ (r_4 : Int), hcell h_8 ⟨b_1, 4, none⟩ = some (.int .u64 r_4) ∧ ∃ (r_5_p : Option Addr) (r_5_l r_5_c : Nat), hcell h_8 ⟨b_1, 5, none⟩ = some (.slice r_5_p r_5_l r_5_c) ∧ 
  R (.agg #[.int .u64 r_0, .int .i64 r_1, .int .i64 r_2, .int .i64 r_3, .int .u64 r_4, .slice r_5_p r_5_l r_5_c]) h_8
theorem law17_As.den_eq (x_0 : Int) (x_1 : Int) (x_2 : Int) (x_3 : Int) (x_4 : Int) (x_5_p : Option Addr) (x_5_l x_5_c : Nat) (h : Heap) (R : Value → Heap → Prop) : law17_As.vc x_0 x_1 x_2 x_3 x_4 x_5_p x_5_l x_5_c h R = den Try.prog Try.f6.ntmps (.seq .leaf (.seq .leaf .leaf)) none (bodyOf Try.f6) (retK Try.prog Try.f6.results R) (argEnv [.agg #[.int .u64 x_0, .int .i64 x_1, .int .i64 x_2, .int .i64 x_3, .int .u64 x_4, .slice x_5_p x_5_l x_5_c]]) h := by kernel_rfl
theorem law17_As.walk {x_0 : Int} {x_1 : Int} {x_2 : Int} {x_3 : Int} {x_4 : Int} {x_5_p : Option Addr} {x_5_l x_5_c : Nat} {h : Heap} {R : Value → Heap → Prop} (hv : law17_As.vc x_0 x_1 x_2 x_3 x_4 x_5_p x_5_l x_5_c h R) : CallsH Try.prog F.law17_As #[.agg #[.int .u64 x_0, .int .i64 x_1, .int .i64 x_2, .int .i64 x_3, .int .u64 x_4, .slice x_5_p x_5_l x_5_c]] h R :=
  callsH_of_body _ Try.func6 rfl rfl (Eq.mp (law17_As.den_eq x_0 x_1 x_2 x_3 x_4 x_5_p x_5_l x_5_c h R) hv)

def law17_ReplyTells.vc (x_0 : Int) (x_1 : Int) (x_2 : Int) (x_3 : Int) (x_4 : Int) (x_5_p : Option Addr) (x_5_l x_5_c : Nat) (y_0 : Int) (y_1 : Int) (y_2 : Int) (y_3 : Int) (y_4 : Int) (y_5_p : Option Addr) (y_5_l y_5_c : Nat) (b_p : Option Addr) (b_l b_c : Nat) (e : Int) (h : Heap) (R : Value → Heap → Prop) : Prop :=
  NewP h (.cells #[.int .u64 x_0, .int .i64 x_1, .int .i64 x_2, .int .i64 x_3, .int .u64 x_4, .slice x_5_p x_5_l x_5_c] T.reply_Reply) fun b h_1 =>
  NewP h_1 (.cells #[.int .u64 y_0, .int .i64 y_1, .int .i64 y_2, .int .i64 y_3, .int .u64 y_4, .slice y_5_p y_5_l y_5_c] T.reply_Reply) fun b_1 h_2 =>
  JoinP (fun (t30 : Bool) (h_3 : Heap) =>
    if t30 = true then
      CallsH Try.prog F.law17_alive #[] h_3 fun v h_4 =>
      ∃ (t31 : Bool), v = .bool t31 ∧
      R (.bool t31) h_4
    else
      ∃ (t32_0 : Int), hcell h_3 ⟨b, 0, none⟩ = some (.int .u64 t32_0) ∧ ∃ (t32_1 : Int), hcell h_3 ⟨b, 1, none⟩ = some (.int .i64 t32_1) ∧ ∃ (t32_2 : Int), hcell h_3 ⟨b, 2, none⟩ = some (.int .i64 t32_2) ∧ ∃ (t32_3 : Int), hcell h_3 ⟨b, 3, none⟩ = some (.int .i64 t32_3) ∧ ∃ (t32_4 : Int), hcell h_3 ⟨b, 4, none⟩ = some (.int .u64 t32_4) ∧ ∃ (t32_5_p : Option Addr) (t32_5_l t32_5_c : Nat), hcell h_3 ⟨b, 5, none⟩ = some (.slice t32_5_p t32_5_l t32_5_c) ∧ 
      CallsH Try.prog F.law17_As #[.agg #[.int .u64 t32_0, .int .i64 t32_1, .int .i64 t32_2, .int .i64 t32_3, .int .u64 t32_4, .slice t32_5_p t32_5_l t32_5_c]] h_3 fun v_1 h_5 =>
      ∃ (t33_0 : Int), ∃ (t33_1 : Int), ∃ (t33_2 : Int), ∃ (t33_3 : Int), ∃ (t33_4 : Int), ∃ (t33_5_p : Option Addr) (t33_5_l t33_5_c : Nat), v_1 = .agg #[.int .u64 t33_0, .int .i64 t33_1, .int .i64 t33_2, .int .i64 t33_3, .int .u64 t33_4, .slice t33_5_p t33_5_l t33_5_c] ∧
      NewP h_5 (.cells #[.int .u64 0, .int .i64 0, .int .i64 0, .int .i64 0, .int .u64 0, .slice none 0 0] T.ref17_Reply) fun b_2 h_6 =>
      StoreP h_6 ⟨b_2, 0, none⟩ (.int .u64 t33_0) fun h_7 =>
      StoreP h_7 ⟨b_2, 1, none⟩ (.int .i64 t33_1) fun h_8 =>
      StoreP h_8 ⟨b_2, 2, none⟩ (.int .i64 t33_2) fun h_9 =>
      StoreP h_9 ⟨b_2, 3, none⟩ (.int .i64 t33_3) fun h_10 =>
      StoreP h_10 ⟨b_2, 4, none⟩ (.int .u64 t33_4) fun h_11 =>
      StoreP h_11 ⟨b_2, 5, none⟩ (.slice t33_5_p t33_5_l t33_5_c) fun h_12 =>
      ∃ (t35_0 : Int), hcell h_12 ⟨b, 0, none⟩ = some (.int .u64 t35_0) ∧ ∃ (t35_1 : Int), hcell h_12 ⟨b, 1, none⟩ = some (.int .i64 t35_1) ∧ ∃ (t35_2 : Int), hcell h_12 ⟨b, 2, none⟩ = some (.int .i64 t35_2) ∧ ∃ (t35_3 : Int), hcell h_12 ⟨b, 3, none⟩ = some (.int .i64 t35_3) ∧ ∃ (t35_4 : Int), hcell h_12 ⟨b, 4, none⟩ = some (.int .u64 t35_4) ∧ ∃ (t35_5_p : Option Addr) (t35_5_l t35_5_c : Nat), hcell h_12 ⟨b, 5, none⟩ = some (.slice t35_5_p t35_5_l t35_5_c) ∧ 
      CallsH Try.prog F.reply_Write #[.agg #[.int .u64 t35_0, .int .i64 t35_1, .int .i64 t35_2, .int .i64 t35_3, .int .u64 t35_4, .slice t35_5_p t35_5_l t35_5_c]] h_12 fun v_2 h_13 =>
      ∃ (t36_0_p : Option Addr) (t36_0_l t36_0_c : Nat), ∃ (t36_1 : Int), v_2 = .tuple #[.slice t36_0_p t36_0_l t36_0_c, .int .i64 t36_1] ∧
      CallsH Try.prog F.reply_Read #[.slice b_p b_l b_c] h_13 fun v_3 h_14 =>
      ∃ (t41_0_0 : Int), ∃ (t41_0_1 : Int), ∃ (t41_0_2 : Int), ∃ (t41_0_3 : Int), ∃ (t41_0_4 : Int), ∃ (t41_0_5_p : Option Addr) (t41_0_5_l t41_0_5_c : Nat), ∃ (t41_1 : Int), v_3 = .tuple #[.agg #[.int .u64 t41_0_0, .int .i64 t41_0_1, .int .i64 t41_0_2, .int .i64 t41_0_3, .int .u64 t41_0_4, .slice t41_0_5_p t41_0_5_l t41_0_5_c], .int .i64 t41_1] ∧
      NewP h_14 (.cells #[.int .u64 0, .int .i64 0, .int .i64 0, .int .i64 0, .int .u64 0, .slice none 0 0] T.reply_Reply) fun b_3 h_15 =>
      StoreP h_15 ⟨b_3, 0, none⟩ (.int .u64 t41_0_0) fun h_16 =>
      StoreP h_16 ⟨b_3, 1, none⟩ (.int .i64 t41_0_1) fun h_17 =>
      StoreP h_17 ⟨b_3, 2, none⟩ (.int .i64 t41_0_2) fun h_18 =>
      StoreP h_18 ⟨b_3, 3, none⟩ (.int .i64 t41_0_3) fun h_19 =>
      StoreP h_19 ⟨b_3, 4, none⟩ (.int .u64 t41_0_4) fun h_20 =>
      StoreP h_20 ⟨b_3, 5, none⟩ (.slice t41_0_5_p t41_0_5_l t41_0_5_c) fun h_21 =>
      CallsH Try.prog F.ref17_Read #[.slice b_p b_l b_c] h_21 fun v_4 h_22 =>
      ∃ (t46_0_0 : Int), ∃ (t46_0_1 : Int), ∃ (t46_0_2 : Int), ∃ (t46_0_3 : Int), ∃ (t46_0_4 : Int), ∃ (t46_0_5_p : Option Addr) (t46_0_5_l t46_0_5_c : Nat), ∃ (t46_1 : Bool), v_4 = .tuple #[.agg #[.int .u64 t46_0_0, .int .i64 t46_0_1, .int .i64 t46_0_2, .int .i64 t46_0_3, .int .u64 t46_0_4, .slice t46_0_5_p t46_0_5_l t46_0_5_c], .bool t46_1] ∧
      NewP h_22 (.cells #[.int .u64 0, .int .i64 0, .int .i64 0, .int .i64 0, .int .u64 0, .slice none 0 0] T.ref17_Reply) fun b_4 h_23 =>
      StoreP h_23 ⟨b_4, 0, none⟩ (.int .u64 t46_0_0) fun h_24 =>
      StoreP h_24 ⟨b_4, 1, none⟩ (.int .i64 t46_0_1) fun h_25 =>
      StoreP h_25 ⟨b_4, 2, none⟩ (.int .i64 t46_0_2) fun h_26 =>
      StoreP h_26 ⟨b_4, 3, none⟩ (.int .i64 t46_0_3) fun h_27 =>
      StoreP h_27 ⟨b_4, 4, none⟩ (.int .u64 t46_0_4) fun h_28 =>
      StoreP h_28 ⟨b_4, 5, none⟩ (.slice t46_0_5_p t46_0_5_l t46_0_5_c) fun h_29 =>
      JoinP (fun (t97 : Bool) (h_30 : Heap) =>
        if t97 = true then
          R (.bool false) h_30
        else
          ∃ (t98_0 : Int), hcell h_30 ⟨b_2, 0, none⟩ = some (.int .u64 t98_0) ∧ ∃ (t98_1 : Int), hcell h_30 ⟨b_2, 1, none⟩ = some (.int .i64 t98_1) ∧ ∃ (t98_2 : Int), hcell h_30 ⟨b_2, 2, none⟩ = some (.int .i64 t98_2) ∧ ∃ (t98_3 : Int), hcell h_30 ⟨b_2, 3, none⟩ = some (.int .i64 t98_3) ∧ ∃ (t98_4 : Int), hcell h_30 ⟨b_2, 4, none⟩ = some (.int .u64 t98_4) ∧ ∃ (t98_5_p : Option Addr) (t98_5_l t98_5_c : Nat), hcell h_30 ⟨b_2, 5, none⟩ = some (.slice t98_5_p t98_5_l t98_5_c) ∧ 
          CallsH Try.prog F.ref17_Right #[.agg #[.int .u64 t98_0, .int .i64 t98_1, .int .i64 t98_2, .int .i64 t98_3, .int .u64 t98_4, .slice t98_5_p t98_5_l t98_5_c]] h_30 fun v_5 h_31 =>
          ∃ (t99 : Bool), v_5 = .bool t99 ∧
          if (!t99) = true then
            CallsH Try.prog F.law17_alive #[] h_31 fun v_6 h_32 =>
            ∃ (t101 : Bool), v_6 = .bool t101 ∧
            if t101 = true then
              if (t36_1 == 3) = true then
                R (.bool (((t36_0_l : Nat) : Int) == 0)) h_32
              else
                R (.bool false) h_32
            else
              R (.bool false) h_32
          else
            CallsH Try.prog F.law17_alive #[] h_31 fun v_7 h_33 =>
            ∃ (t111 : Bool), v_7 = .bool t111 ∧
            if t111 = true then
              if (t36_1 == 0) = true then
                ∃ (t118 : ByteArray), ConvV Try.prog T.s_uint8 T.string (.slice t36_0_p t36_0_l t36_0_c) h_33 t118 ∧
                ∃ (t119_0 : Int), hcell h_33 ⟨b_2, 0, none⟩ = some (.int .u64 t119_0) ∧ ∃ (t119_1 : Int), hcell h_33 ⟨b_2, 1, none⟩ = some (.int .i64 t119_1) ∧ ∃ (t119_2 : Int), hcell h_33 ⟨b_2, 2, none⟩ = some (.int .i64 t119_2) ∧ ∃ (t119_3 : Int), hcell h_33 ⟨b_2, 3, none⟩ = some (.int .i64 t119_3) ∧ ∃ (t119_4 : Int), hcell h_33 ⟨b_2, 4, none⟩ = some (.int .u64 t119_4) ∧ ∃ (t119_5_p : Option Addr) (t119_5_l t119_5_c : Nat), hcell h_33 ⟨b_2, 5, none⟩ = some (.slice t119_5_p t119_5_l t119_5_c) ∧ 
                CallsH Try.prog F.ref17_Write #[.agg #[.int .u64 t119_0, .int .i64 t119_1, .int .i64 t119_2, .int .i64 t119_3, .int .u64 t119_4, .slice t119_5_p t119_5_l t119_5_c]] h_33 fun v_8 h_34 =>
                ∃ (t120_p : Option Addr) (t120_l t120_c : Nat), v_8 = .slice t120_p t120_l t120_c ∧
                ConvV Try.prog T.s_uint8 T.string (.slice t36_0_p t36_0_l t36_0_c) h_34 t118 ∧
                ∃ (t121 : ByteArray), ConvV Try.prog T.s_uint8 T.string (.slice t120_p t120_l t120_c) h_34 t121 ∧
                R (.bool (t118.toList == t121.toList)) h_34
              else
                R (.bool false) h_33
            else
              R (.bool false) h_33)
      (fun J_1 =>
        ∃ (t49_0 : Int), hcell h_29 ⟨b, 0, none⟩ = some (.int .u64 t49_0) ∧ ∃ (t49_1 : Int), hcell h_29 ⟨b, 1, none⟩ = some (.int .i64 t49_1) ∧ ∃ (t49_2 : Int), hcell h_29 ⟨b, 2, none⟩ = some (.int .i64 t49_2) ∧ ∃ (t49_3 : Int), hcell h_29 ⟨b, 3, none⟩ = some (.int .i64 t49_3) ∧ ∃ (t49_4 : Int), hcell h_29 ⟨b, 4, none⟩ = some (.int .u64 t49_4) ∧ ∃ (t49_5_p : Option Addr) (t49_5_l t49_5_c : Nat), hcell h_29 ⟨b, 5, none⟩ = some (.slice t49_5_p t49_5_l t49_5_c) ∧ 
        ∃ (t51_0 : Int), hcell h_29 ⟨b_2, 0, none⟩ = some (.int .u64 t51_0) ∧ ∃ (t51_1 : Int), hcell h_29 ⟨b_2, 1, none⟩ = some (.int .i64 t51_1) ∧ ∃ (t51_2 : Int), hcell h_29 ⟨b_2, 2, none⟩ = some (.int .i64 t51_2) ∧ ∃ (t51_3 : Int), hcell h_29 ⟨b_2, 3, none⟩ = some (.int .i64 t51_3) ∧ ∃ (t51_4 : Int), hcell h_29 ⟨b_2, 4, none⟩ = some (.int .u64 t51_4) ∧ ∃ (t51_5_p : Option Addr) (t51_5_l t51_5_c : Nat), hcell h_29 ⟨b_2, 5, none⟩ = some (.slice t51_5_p t51_5_l t51_5_c) ∧ 
        CallsH Try.prog F.reply_Right #[.agg #[.int .u64 t49_0, .int .i64 t49_1, .int .i64 t49_2, .int .i64 t49_3, .int .u64 t49_4, .slice t49_5_p t49_5_l t49_5_c]] h_29 fun v_9 h_35 =>
        ∃ (t50 : Bool), v_9 = .bool t50 ∧
        heldL ⟨b_2, 0, none⟩ [.int .u64 t51_0, .int .i64 t51_1, .int .i64 t51_2, .int .i64 t51_3, .int .u64 t51_4, .slice t51_5_p t51_5_l t51_5_c] 0 h_35 ∧
        CallsH Try.prog F.ref17_Right #[.agg #[.int .u64 t51_0, .int .i64 t51_1, .int .i64 t51_2, .int .i64 t51_3, .int .u64 t51_4, .slice t51_5_p t51_5_l t51_5_c]] h_35 fun v_10 h_36 =>
        ∃ (t52 : Bool), v_10 = .bool t52 ∧
        if (!(t50 == t52)) = true then
          J_1 true h_36
        else
          ∃ (t55_0 : Int), hcell h_36 ⟨b_3, 0, none⟩ = some (.int .u64 t55_0) ∧ ∃ (t55_1 : Int), hcell h_36 ⟨b_3, 1, none⟩ = some (.int .i64 t55_1) ∧ ∃ (t55_2 : Int), hcell h_36 ⟨b_3, 2, none⟩ = some (.int .i64 t55_2) ∧ ∃ (t55_3 : Int), hcell h_36 ⟨b_3, 3, none⟩ = some (.int .i64 t55_3) ∧ ∃ (t55_4 : Int), hcell h_36 ⟨b_3, 4, none⟩ = some (.int .u64 t55_4) ∧ ∃ (t55_5_p : Option Addr) (t55_5_l t55_5_c : Nat), hcell h_36 ⟨b_3, 5, none⟩ = some (.slice t55_5_p t55_5_l t55_5_c) ∧ 
          ∃ (t57_0 : Int), hcell h_36 ⟨b_4, 0, none⟩ = some (.int .u64 t57_0) ∧ ∃ (t57_1 : Int), hcell h_36 ⟨b_4, 1, none⟩ = some (.int .i64 t57_1) ∧ ∃ (t57_2 : Int), hcell h_36 ⟨b_4, 2, none⟩ = some (.int .i64 t57_2) ∧ ∃ (t57_3 : Int), hcell h_36 ⟨b_4, 3, none⟩ = some (.int .i64 t57_3) ∧ ∃ (t57_4 : Int), hcell h_36 ⟨b_4, 4, none⟩ = some (.int .u64 t57_4) ∧ ∃ (t57_5_p : Option Addr) (t57_5_l t57_5_c : Nat), hcell h_36 ⟨b_4, 5, none⟩ = some (.slice t57_5_p t57_5_l t57_5_c) ∧ 
          CallsH Try.prog F.law17_As #[.agg #[.int .u64 t55_0, .int .i64 t55_1, .int .i64 t55_2, .int .i64 t55_3, .int .u64 t55_4, .slice t55_5_p t55_5_l t55_5_c]] h_36 fun v_11 h_37 =>
          ∃ (t56_0 : Int), ∃ (t56_1 : Int), ∃ (t56_2 : Int), ∃ (t56_3 : Int), ∃ (t56_4 : Int), ∃ (t56_5_p : Option Addr) (t56_5_l t56_5_c : Nat), v_11 = .agg #[.int .u64 t56_0, .int .i64 t56_1, .int .i64 t56_2, .int .i64 t56_3, .int .u64 t56_4, .slice t56_5_p t56_5_l t56_5_c] ∧
          heldL ⟨b_4, 0, none⟩ [.int .u64 t57_0, .int .i64 t57_1, .int .i64 t57_2, .int .i64 t57_3, .int .u64 t57_4, .slice t57_5_p t57_5_l t57_5_c] 0 h_37 ∧
          CallsH Try.prog F.ref17_Same #[.agg #[.int .u64 t56_0, .int .i64 t56_1, .int .i64 t56_2, .int .i64 t56_3, .int .u64 t56_4, .slice t56_5_p t56_5_l t56_5_c], .agg #[.int .u64 t57_0, .int .i64 t57_1, .int .i64 t57_2, .int .i64 t57_3, .int .u64 t57_4, .slice t57_5_p t57_5_l t57_5_c]] h_37 fun v_12 h_38 =>
          ∃ (t58 : Bool), v_12 = .bool t58 ∧
          if (!t58) = true then
            J_1 true h_38
          else
            if (!((t41_1 == 0) == t46_1)) = true then
              J_1 true h_38
            else
              if (!t46_1) = true then
                if (t41_1 != 3) = true then
                  J_1 true h_38
                else
                  ∃ (t76_0 : Int), hcell h_38 ⟨b, 0, none⟩ = some (.int .u64 t76_0) ∧ ∃ (t76_1 : Int), hcell h_38 ⟨b, 1, none⟩ = some (.int .i64 t76_1) ∧ ∃ (t76_2 : Int), hcell h_38 ⟨b, 2, none⟩ = some (.int .i64 t76_2) ∧ ∃ (t76_3 : Int), hcell h_38 ⟨b, 3, none⟩ = some (.int .i64 t76_3) ∧ ∃ (t76_4 : Int), hcell h_38 ⟨b, 4, none⟩ = some (.int .u64 t76_4) ∧ ∃ (t76_5_p : Option Addr) (t76_5_l t76_5_c : Nat), hcell h_38 ⟨b, 5, none⟩ = some (.slice t76_5_p t76_5_l t76_5_c) ∧ 
                  ∃ (t77_0 : Int), hcell h_38 ⟨b_1, 0, none⟩ = some (.int .u64 t77_0) ∧ ∃ (t77_1 : Int), hcell h_38 ⟨b_1, 1, none⟩ = some (.int .i64 t77_1) ∧ ∃ (t77_2 : Int), hcell h_38 ⟨b_1, 2, none⟩ = some (.int .i64 t77_2) ∧ ∃ (t77_3 : Int), hcell h_38 ⟨b_1, 3, none⟩ = some (.int .i64 t77_3) ∧ ∃ (t77_4 : Int), hcell h_38 ⟨b_1, 4, none⟩ = some (.int .u64 t77_4) ∧ ∃ (t77_5_p : Option Addr) (t77_5_l t77_5_c : Nat), hcell h_38 ⟨b_1, 5, none⟩ = some (.slice t77_5_p t77_5_l t77_5_c) ∧ 
                  ∃ (t79_0 : Int), hcell h_38 ⟨b_2, 0, none⟩ = some (.int .u64 t79_0) ∧ ∃ (t79_1 : Int), hcell h_38 ⟨b_2, 1, none⟩ = some (.int .i64 t79_1) ∧ ∃ (t79_2 : Int), hcell h_38 ⟨b_2, 2, none⟩ = some (.int .i64 t79_2) ∧ ∃ (t79_3 : Int), hcell h_38 ⟨b_2, 3, none⟩ = some (.int .i64 t79_3) ∧ ∃ (t79_4 : Int), hcell h_38 ⟨b_2, 4, none⟩ = some (.int .u64 t79_4) ∧ ∃ (t79_5_p : Option Addr) (t79_5_l t79_5_c : Nat), hcell h_38 ⟨b_2, 5, none⟩ = some (.slice t79_5_p t79_5_l t79_5_c) ∧ 
                  ∃ (t80_0 : Int), hcell h_38 ⟨b_1, 0, none⟩ = some (.int .u64 t80_0) ∧ ∃ (t80_1 : Int), hcell h_38 ⟨b_1, 1, none⟩ = some (.int .i64 t80_1) ∧ ∃ (t80_2 : Int), hcell h_38 ⟨b_1, 2, none⟩ = some (.int .i64 t80_2) ∧ ∃ (t80_3 : Int), hcell h_38 ⟨b_1, 3, none⟩ = some (.int .i64 t80_3) ∧ ∃ (t80_4 : Int), hcell h_38 ⟨b_1, 4, none⟩ = some (.int .u64 t80_4) ∧ ∃ (t80_5_p : Option Addr) (t80_5_l t80_5_c : Nat), hcell h_38 ⟨b_1, 5, none⟩ = some (.slice t80_5_p t80_5_l t80_5_c) ∧ 
                  CallsH Try.prog F.reply_Same #[.agg #[.int .u64 t76_0, .int .i64 t76_1, .int .i64 t76_2, .int .i64 t76_3, .int .u64 t76_4, .slice t76_5_p t76_5_l t76_5_c], .agg #[.int .u64 t77_0, .int .i64 t77_1, .int .i64 t77_2, .int .i64 t77_3, .int .u64 t77_4, .slice t77_5_p t77_5_l t77_5_c]] h_38 fun v_13 h_39 =>
                  ∃ (t78 : Bool), v_13 = .bool t78 ∧
                  heldL ⟨b_1, 0, none⟩ [.int .u64 t80_0, .int .i64 t80_1, .int .i64 t80_2, .int .i64 t80_3, .int .u64 t80_4, .slice t80_5_p t80_5_l t80_5_c] 0 h_39 ∧
                  heldL ⟨b_2, 0, none⟩ [.int .u64 t79_0, .int .i64 t79_1, .int .i64 t79_2, .int .i64 t79_3, .int .u64 t79_4, .slice t79_5_p t79_5_l t79_5_c] 0 h_39 ∧
                  CallsH Try.prog F.law17_As #[.agg #[.int .u64 t80_0, .int .i64 t80_1, .int .i64 t80_2, .int .i64 t80_3, .int .u64 t80_4, .slice t80_5_p t80_5_l t80_5_c]] h_39 fun v_14 h_40 =>
                  ∃ (t81_0 : Int), ∃ (t81_1 : Int), ∃ (t81_2 : Int), ∃ (t81_3 : Int), ∃ (t81_4 : Int), ∃ (t81_5_p : Option Addr) (t81_5_l t81_5_c : Nat), v_14 = .agg #[.int .u64 t81_0, .int .i64 t81_1, .int .i64 t81_2, .int .i64 t81_3, .int .u64 t81_4, .slice t81_5_p t81_5_l t81_5_c] ∧
                  heldL ⟨b_2, 0, none⟩ [.int .u64 t79_0, .int .i64 t79_1, .int .i64 t79_2, .int .i64 t79_3, .int .u64 t79_4, .slice t79_5_p t79_5_l t79_5_c] 0 h_40 ∧
                  CallsH Try.prog F.ref17_Same #[.agg #[.int .u64 t79_0, .int .i64 t79_1, .int .i64 t79_2, .int .i64 t79_3, .int .u64 t79_4, .slice t79_5_p t79_5_l t79_5_c], .agg #[.int .u64 t81_0, .int .i64 t81_1, .int .i64 t81_2, .int .i64 t81_3, .int .u64 t81_4, .slice t81_5_p t81_5_l t81_5_c]] h_40 fun v_15 h_41 =>
                  ∃ (t82 : Bool), v_15 = .bool t82 ∧
                  if (!(t78 == t82)) = true then
                    J_1 true h_41
                  else
                    ∃ (t87 : Int), hcell h_41 ⟨b, 0, none⟩ = some (.int .u64 t87) ∧
                    ∃ (t92 : Int), hcell h_41 ⟨b, 0, none⟩ = some (.int .u64 t92) ∧
                    CallsH Try.prog F.reply_Fail #[.int .u64 t87, .int .i64 e] h_41 fun v_16 h_42 =>
                    ∃ (t89_0 : Int), ∃ (t89_1 : Int), ∃ (t89_2 : Int), ∃ (t89_3 : Int), ∃ (t89_4 : Int), ∃ (t89_5_p : Option Addr) (t89_5_l t89_5_c : Nat), v_16 = .agg #[.int .u64 t89_0, .int .i64 t89_1, .int .i64 t89_2, .int .i64 t89_3, .int .u64 t89_4, .slice t89_5_p t89_5_l t89_5_c] ∧
                    hcell h_42 ⟨b, 0, none⟩ = some (.int .u64 t92) ∧
                    CallsH Try.prog F.law17_As #[.agg #[.int .u64 t89_0, .int .i64 t89_1, .int .i64 t89_2, .int .i64 t89_3, .int .u64 t89_4, .slice t89_5_p t89_5_l t89_5_c]] h_42 fun v_17 h_43 =>
                    ∃ (t90_0 : Int), ∃ (t90_1 : Int), ∃ (t90_2 : Int), ∃ (t90_3 : Int), ∃ (t90_4 : Int), ∃ (t90_5_p : Option Addr) (t90_5_l t90_5_c : Nat), v_17 = .agg #[.int .u64 t90_0, .int .i64 t90_1, .int .i64 t90_2, .int .i64 t90_3, .int .u64 t90_4, .slice t90_5_p t90_5_l t90_5_c] ∧
                    hcell h_43 ⟨b, 0, none⟩ = some (.int .u64 t92) ∧
                    CallsH Try.prog F.ref17_Same #[.agg #[.int .u64 t90_0, .int .i64 t90_1, .int .i64 t90_2, .int .i64 t90_3, .int .u64 t90_4, .slice t90_5_p t90_5_l t90_5_c], .agg #[.int .u64 t92, .int .i64 e, .int .i64 0, .int .i64 0, .int .u64 0, .slice none 0 0]] h_43 fun v_18 h_44 =>
                    ∃ (t95 : Bool), v_18 = .bool t95 ∧
                    hcell h_44 ⟨b, 0, none⟩ = some (.int .u64 t92) ∧
                    J_1 (!t95) h_44
              else
                ∃ (t76_0_1 : Int), hcell h_38 ⟨b, 0, none⟩ = some (.int .u64 t76_0_1) ∧ ∃ (t76_1_1 : Int), hcell h_38 ⟨b, 1, none⟩ = some (.int .i64 t76_1_1) ∧ ∃ (t76_2_1 : Int), hcell h_38 ⟨b, 2, none⟩ = some (.int .i64 t76_2_1) ∧ ∃ (t76_3_1 : Int), hcell h_38 ⟨b, 3, none⟩ = some (.int .i64 t76_3_1) ∧ ∃ (t76_4_1 : Int), hcell h_38 ⟨b, 4, none⟩ = some (.int .u64 t76_4_1) ∧ ∃ (t76_5_p_1 : Option Addr) (t76_5_l_1 t76_5_c_1 : Nat), hcell h_38 ⟨b, 5, none⟩ = some (.slice t76_5_p_1 t76_5_l_1 t76_5_c_1) ∧ 
                ∃ (t77_0_1 : Int), hcell h_38 ⟨b_1, 0, none⟩ = some (.int .u64 t77_0_1) ∧ ∃ (t77_1_1 : Int), hcell h_38 ⟨b_1, 1, none⟩ = some (.int .i64 t77_1_1) ∧ ∃ (t77_2_1 : Int), hcell h_38 ⟨b_1, 2, none⟩ = some (.int .i64 t77_2_1) ∧ ∃ (t77_3_1 : Int), hcell h_38 ⟨b_1, 3, none⟩ = some (.int .i64 t77_3_1) ∧ ∃ (t77_4_1 : Int), hcell h_38 ⟨b_1, 4, none⟩ = some (.int .u64 t77_4_1) ∧ ∃ (t77_5_p_1 : Option Addr) (t77_5_l_1 t77_5_c_1 : Nat), hcell h_38 ⟨b_1, 5, none⟩ = some (.slice t77_5_p_1 t77_5_l_1 t77_5_c_1) ∧ 
                ∃ (t79_0_1 : Int), hcell h_38 ⟨b_2, 0, none⟩ = some (.int .u64 t79_0_1) ∧ ∃ (t79_1_1 : Int), hcell h_38 ⟨b_2, 1, none⟩ = some (.int .i64 t79_1_1) ∧ ∃ (t79_2_1 : Int), hcell h_38 ⟨b_2, 2, none⟩ = some (.int .i64 t79_2_1) ∧ ∃ (t79_3_1 : Int), hcell h_38 ⟨b_2, 3, none⟩ = some (.int .i64 t79_3_1) ∧ ∃ (t79_4_1 : Int), hcell h_38 ⟨b_2, 4, none⟩ = some (.int .u64 t79_4_1) ∧ ∃ (t79_5_p_1 : Option Addr) (t79_5_l_1 t79_5_c_1 : Nat), hcell h_38 ⟨b_2, 5, none⟩ = some (.slice t79_5_p_1 t79_5_l_1 t79_5_c_1) ∧ 
                ∃ (t80_0_1 : Int), hcell h_38 ⟨b_1, 0, none⟩ = some (.int .u64 t80_0_1) ∧ ∃ (t80_1_1 : Int), hcell h_38 ⟨b_1, 1, none⟩ = some (.int .i64 t80_1_1) ∧ ∃ (t80_2_1 : Int), hcell h_38 ⟨b_1, 2, none⟩ = some (.int .i64 t80_2_1) ∧ ∃ (t80_3_1 : Int), hcell h_38 ⟨b_1, 3, none⟩ = some (.int .i64 t80_3_1) ∧ ∃ (t80_4_1 : Int), hcell h_38 ⟨b_1, 4, none⟩ = some (.int .u64 t80_4_1) ∧ ∃ (t80_5_p_1 : Option Addr) (t80_5_l_1 t80_5_c_1 : Nat), hcell h_38 ⟨b_1, 5, none⟩ = some (.slice t80_5_p_1 t80_5_l_1 t80_5_c_1) ∧ 
                CallsH Try.prog F.reply_Same #[.agg #[.int .u64 t76_0_1, .int .i64 t76_1_1, .int .i64 t76_2_1, .int .i64 t76_3_1, .int .u64 t76_4_1, .slice t76_5_p_1 t76_5_l_1 t76_5_c_1], .agg #[.int .u64 t77_0_1, .int .i64 t77_1_1, .int .i64 t77_2_1, .int .i64 t77_3_1, .int .u64 t77_4_1, .slice t77_5_p_1 t77_5_l_1 t77_5_c_1]] h_38 fun v_19 h_45 =>
                ∃ (t78_1 : Bool), v_19 = .bool t78_1 ∧
                heldL ⟨b_1, 0, none⟩ [.int .u64 t80_0_1, .int .i64 t80_1_1, .int .i64 t80_2_1, .int .i64 t80_3_1, .int .u64 t80_4_1, .slice t80_5_p_1 t80_5_l_1 t80_5_c_1] 0 h_45 ∧
                heldL ⟨b_2, 0, none⟩ [.int .u64 t79_0_1, .int .i64 t79_1_1, .int .i64 t79_2_1, .int .i64 t79_3_1, .int .u64 t79_4_1, .slice t79_5_p_1 t79_5_l_1 t79_5_c_1] 0 h_45 ∧
                CallsH Try.prog F.law17_As #[.agg #[.int .u64 t80_0_1, .int .i64 t80_1_1, .int .i64 t80_2_1, .int .i64 t80_3_1, .int .u64 t80_4_1, .slice t80_5_p_1 t80_5_l_1 t80_5_c_1]] h_45 fun v_20 h_46 =>
                ∃ (t81_0_1 : Int), ∃ (t81_1_1 : Int), ∃ (t81_2_1 : Int), ∃ (t81_3_1 : Int), ∃ (t81_4_1 : Int), ∃ (t81_5_p_1 : Option Addr) (t81_5_l_1 t81_5_c_1 : Nat), v_20 = .agg #[.int .u64 t81_0_1, .int .i64 t81_1_1, .int .i64 t81_2_1, .int .i64 t81_3_1, .int .u64 t81_4_1, .slice t81_5_p_1 t81_5_l_1 t81_5_c_1] ∧
                heldL ⟨b_2, 0, none⟩ [.int .u64 t79_0_1, .int .i64 t79_1_1, .int .i64 t79_2_1, .int .i64 t79_3_1, .int .u64 t79_4_1, .slice t79_5_p_1 t79_5_l_1 t79_5_c_1] 0 h_46 ∧
                CallsH Try.prog F.ref17_Same #[.agg #[.int .u64 t79_0_1, .int .i64 t79_1_1, .int .i64 t79_2_1, .int .i64 t79_3_1, .int .u64 t79_4_1, .slice t79_5_p_1 t79_5_l_1 t79_5_c_1], .agg #[.int .u64 t81_0_1, .int .i64 t81_1_1, .int .i64 t81_2_1, .int .i64 t81_3_1, .int .u64 t81_4_1, .slice t81_5_p_1 t81_5_l_1 t81_5_c_1]] h_46 fun v_21 h_47 =>
                ∃ (t82_1 : Bool), v_21 = .bool t82_1 ∧
                if (!(t78_1 == t82_1)) = true then
                  J_1 true h_47
                else
                  ∃ (t87_1 : Int), hcell h_47 ⟨b, 0, none⟩ = some (.int .u64 t87_1) ∧
                  ∃ (t92_1 : Int), hcell h_47 ⟨b, 0, none⟩ = some (.int .u64 t92_1) ∧
                  CallsH Try.prog F.reply_Fail #[.int .u64 t87_1, .int .i64 e] h_47 fun v_22 h_48 =>
                  ∃ (t89_0_1 : Int), ∃ (t89_1_1 : Int), ∃ (t89_2_1 : Int), ∃ (t89_3_1 : Int), ∃ (t89_4_1 : Int), ∃ (t89_5_p_1 : Option Addr) (t89_5_l_1 t89_5_c_1 : Nat), v_22 = .agg #[.int .u64 t89_0_1, .int .i64 t89_1_1, .int .i64 t89_2_1, .int .i64 t89_3_1, .int .u64 t89_4_1, .slice t89_5_p_1 t89_5_l_1 t89_5_c_1] ∧
                  hcell h_48 ⟨b, 0, none⟩ = some (.int .u64 t92_1) ∧
                  CallsH Try.prog F.law17_As #[.agg #[.int .u64 t89_0_1, .int .i64 t89_1_1, .int .i64 t89_2_1, .int .i64 t89_3_1, .int .u64 t89_4_1, .slice t89_5_p_1 t89_5_l_1 t89_5_c_1]] h_48 fun v_23 h_49 =>
                  ∃ (t90_0_1 : Int), ∃ (t90_1_1 : Int), ∃ (t90_2_1 : Int), ∃ (t90_3_1 : Int), ∃ (t90_4_1 : Int), ∃ (t90_5_p_1 : Option Addr) (t90_5_l_1 t90_5_c_1 : Nat), v_23 = .agg #[.int .u64 t90_0_1, .int .i64 t90_1_1, .int .i64 t90_2_1, .int .i64 t90_3_1, .int .u64 t90_4_1, .slice t90_5_p_1 t90_5_l_1 t90_5_c_1] ∧
                  hcell h_49 ⟨b, 0, none⟩ = some (.int .u64 t92_1) ∧
                  CallsH Try.prog F.ref17_Same #[.agg #[.int .u64 t90_0_1, .int .i64 t90_1_1, .int .i64 t90_2_1, .int .i64 t90_3_1, .int .u64 t90_4_1, .slice t90_5_p_1 t90_5_l_1 t90_5_c_1], .agg #[.int .u64 t92_1, .int .i64 e, .int .i64 0, .int .i64 0, .int .u64 0, .slice none 0 0]] h_49 fun v_24 h_50 =>
                  ∃ (t95_1 : Bool), v_24 = .bool t95_1 ∧
                  hcell h_50 ⟨b, 0, none⟩ = some (.int .u64 t92_1) ∧
                  J_1 (!t95_1) h_50))
  (fun J =>
    ∃ (t17_p : Option Addr) (t17_l t17_c : Nat), hcell h_2 ⟨b, 5, none⟩ = some (.slice t17_p t17_l t17_c) ∧
    if (decide (((t17_l : Nat) : Int) > 1000)) = true then
      J true h_2
    else
      ∃ (t22_p : Option Addr) (t22_l t22_c : Nat), hcell h_2 ⟨b_1, 5, none⟩ = some (.slice t22_p t22_l t22_c) ∧
      if (decide (((t22_l : Nat) : Int) > 1000)) = true then
        J true h_2
      else
        J (decide (((b_l : Nat) : Int) > 1000)) h_2)
theorem law17_ReplyTells.den_eq (x_0 : Int) (x_1 : Int) (x_2 : Int) (x_3 : Int) (x_4 : Int) (x_5_p : Option Addr) (x_5_l x_5_c : Nat) (y_0 : Int) (y_1 : Int) (y_2 : Int) (y_3 : Int) (y_4 : Int) (y_5_p : Option Addr) (y_5_l y_5_c : Nat) (b_p : Option Addr) (b_l b_c : Nat) (e : Int) (h : Heap) (R : Value → Heap → Prop) : law17_ReplyTells.vc x_0 x_1 x_2 x_3 x_4 x_5_p x_5_l x_5_c y_0 y_1 y_2 y_3 y_4 y_5_p y_5_l y_5_c b_p b_l b_c e h R = den Try.prog Try.f3.ntmps (.seq .leaf (.seq (.seq (.join [(30, .one (.bool))] .leaf) (.cond (.seq .leaf .leaf) .leaf)) (.seq .leaf (.seq .leaf (.seq .leaf (.seq .leaf (.seq (.seq (.join [(97, .one (.bool))] (.plan (.op 0 (.op 2 (.op 1 (.op 3 (.op 4 (.op 5 (.op 6 (.op 8 (.op 7 (.op 9 (.op 10 (.op 11 (.op 12 (.op 13 (.op 14 (.op 15 (.op 16 (.op 17 (.op 18 (.op 19 (.op 20 (.op 21 (.op 22 (.op 23 (.op 24 (.op 25 (.op 26 (.op 27 (.op 28 (.op 30 (.op 31 (.op 29 (.op 32 (.op 33 (.op 34 (.op 35 (.op 36 (.op 37 (.op 38 (.op 39 (.op 42 (.op 43 (.op 44 (.op 45 (.op 40 (.op 41 (.op 46 (.op 47 (.op 48 .done))))))))))))))))))))))))))))))))))))))))))))))))))) (.cond (.seq .leaf .leaf) .leaf)) (.seq (.seq .leaf (.cond (.seq .leaf .leaf) .leaf)) (.seq (.plan (.op 0 (.op 1 (.op 2 (.op 3 (.op 4 (.op 5 (.op 6 (.op 7 (.op 8 (.op 9 (.op 10 (.op 11 (.op 12 (.op 13 .done))))))))))))))) .leaf))))))))) none (bodyOf Try.f3) (retK Try.prog Try.f3.results R) (argEnv [.agg #[.int .u64 x_0, .int .i64 x_1, .int .i64 x_2, .int .i64 x_3, .int .u64 x_4, .slice x_5_p x_5_l x_5_c], .agg #[.int .u64 y_0, .int .i64 y_1, .int .i64 y_2, .int .i64 y_3, .int .u64 y_4, .slice y_5_p y_5_l y_5_c], .slice b_p b_l b_c, .int .i64 e]) h := by kernel_rfl
theorem law17_ReplyTells.walk {x_0 : Int} {x_1 : Int} {x_2 : Int} {x_3 : Int} {x_4 : Int} {x_5_p : Option Addr} {x_5_l x_5_c : Nat} {y_0 : Int} {y_1 : Int} {y_2 : Int} {y_3 : Int} {y_4 : Int} {y_5_p : Option Addr} {y_5_l y_5_c : Nat} {b_p : Option Addr} {b_l b_c : Nat} {e : Int} {h : Heap} {R : Value → Heap → Prop} (hv : law17_ReplyTells.vc x_0 x_1 x_2 x_3 x_4 x_5_p x_5_l x_5_c y_0 y_1 y_2 y_3 y_4 y_5_p y_5_l y_5_c b_p b_l b_c e h R) : CallsH Try.prog F.law17_ReplyTells #[.agg #[.int .u64 x_0, .int .i64 x_1, .int .i64 x_2, .int .i64 x_3, .int .u64 x_4, .slice x_5_p x_5_l x_5_c], .agg #[.int .u64 y_0, .int .i64 y_1, .int .i64 y_2, .int .i64 y_3, .int .u64 y_4, .slice y_5_p y_5_l y_5_c], .slice b_p b_l b_c, .int .i64 e] h R :=
  callsH_of_body _ Try.func3 rfl rfl (Eq.mp (law17_ReplyTells.den_eq x_0 x_1 x_2 x_3 x_4 x_5_p x_5_l x_5_c y_0 y_1 y_2 y_3 y_4 y_5_p y_5_l y_5_c b_p b_l b_c e h R) hv)

def law17_ReplyBack.vc (x_0 : Int) (x_1 : Int) (x_2 : Int) (x_3 : Int) (x_4 : Int) (x_5_p : Option Addr) (x_5_l x_5_c : Nat) (b_p : Option Addr) (b_l b_c : Nat) (cut : Int) (h : Heap) (R : Value → Heap → Prop) : Prop :=
  NewP h (.cells #[.int .u64 x_0, .int .i64 x_1, .int .i64 x_2, .int .i64 x_3, .int .u64 x_4, .slice x_5_p x_5_l x_5_c] T.reply_Reply) fun b h_1 =>
  JoinP (fun (t25 : Bool) (h_2 : Heap) =>
    if t25 = true then
      CallsH Try.prog F.law17_alive #[] h_2 fun v h_3 =>
      ∃ (t26 : Bool), v = .bool t26 ∧
      R (.bool t26) h_3
    else
      ∃ (t28_0 : Int), hcell h_2 ⟨b, 0, none⟩ = some (.int .u64 t28_0) ∧ ∃ (t28_1 : Int), hcell h_2 ⟨b, 1, none⟩ = some (.int .i64 t28_1) ∧ ∃ (t28_2 : Int), hcell h_2 ⟨b, 2, none⟩ = some (.int .i64 t28_2) ∧ ∃ (t28_3 : Int), hcell h_2 ⟨b, 3, none⟩ = some (.int .i64 t28_3) ∧ ∃ (t28_4 : Int), hcell h_2 ⟨b, 4, none⟩ = some (.int .u64 t28_4) ∧ ∃ (t28_5_p : Option Addr) (t28_5_l t28_5_c : Nat), hcell h_2 ⟨b, 5, none⟩ = some (.slice t28_5_p t28_5_l t28_5_c) ∧ 
      CallsH Try.prog F.reply_Write #[.agg #[.int .u64 t28_0, .int .i64 t28_1, .int .i64 t28_2, .int .i64 t28_3, .int .u64 t28_4, .slice t28_5_p t28_5_l t28_5_c]] h_2 fun v_1 h_4 =>
      ∃ (t29_0_p : Option Addr) (t29_0_l t29_0_c : Nat), ∃ (t29_1 : Int), v_1 = .tuple #[.slice t29_0_p t29_0_l t29_0_c, .int .i64 t29_1] ∧
      JoinP (fun (h_5 : Heap) =>
        CallsH Try.prog F.reply_Read #[.slice b_p b_l b_c] h_5 fun v_2 h_6 =>
        ∃ (t66_0_0 : Int), ∃ (t66_0_1 : Int), ∃ (t66_0_2 : Int), ∃ (t66_0_3 : Int), ∃ (t66_0_4 : Int), ∃ (t66_0_5_p : Option Addr) (t66_0_5_l t66_0_5_c : Nat), ∃ (t66_1 : Int), v_2 = .tuple #[.agg #[.int .u64 t66_0_0, .int .i64 t66_0_1, .int .i64 t66_0_2, .int .i64 t66_0_3, .int .u64 t66_0_4, .slice t66_0_5_p t66_0_5_l t66_0_5_c], .int .i64 t66_1] ∧
        NewP h_6 (.cells #[.int .u64 0, .int .i64 0, .int .i64 0, .int .i64 0, .int .u64 0, .slice none 0 0] T.reply_Reply) fun b_1 h_7 =>
        StoreP h_7 ⟨b_1, 0, none⟩ (.int .u64 t66_0_0) fun h_8 =>
        StoreP h_8 ⟨b_1, 1, none⟩ (.int .i64 t66_0_1) fun h_9 =>
        StoreP h_9 ⟨b_1, 2, none⟩ (.int .i64 t66_0_2) fun h_10 =>
        StoreP h_10 ⟨b_1, 3, none⟩ (.int .i64 t66_0_3) fun h_11 =>
        StoreP h_11 ⟨b_1, 4, none⟩ (.int .u64 t66_0_4) fun h_12 =>
        StoreP h_12 ⟨b_1, 5, none⟩ (.slice t66_0_5_p t66_0_5_l t66_0_5_c) fun h_13 =>
        ∃ (t70_0 : Int), hcell h_13 ⟨b_1, 0, none⟩ = some (.int .u64 t70_0) ∧ ∃ (t70_1 : Int), hcell h_13 ⟨b_1, 1, none⟩ = some (.int .i64 t70_1) ∧ ∃ (t70_2 : Int), hcell h_13 ⟨b_1, 2, none⟩ = some (.int .i64 t70_2) ∧ ∃ (t70_3 : Int), hcell h_13 ⟨b_1, 3, none⟩ = some (.int .i64 t70_3) ∧ ∃ (t70_4 : Int), hcell h_13 ⟨b_1, 4, none⟩ = some (.int .u64 t70_4) ∧ ∃ (t70_5_p : Option Addr) (t70_5_l t70_5_c : Nat), hcell h_13 ⟨b_1, 5, none⟩ = some (.slice t70_5_p t70_5_l t70_5_c) ∧ 
        CallsH Try.prog F.reply_Write #[.agg #[.int .u64 t70_0, .int .i64 t70_1, .int .i64 t70_2, .int .i64 t70_3, .int .u64 t70_4, .slice t70_5_p t70_5_l t70_5_c]] h_13 fun v_3 h_14 =>
        ∃ (t71_0_p : Option Addr) (t71_0_l t71_0_c : Nat), ∃ (t71_1 : Int), v_3 = .tuple #[.slice t71_0_p t71_0_l t71_0_c, .int .i64 t71_1] ∧
        CallsH Try.prog F.law17_alive #[] h_14 fun v_4 h_15 =>
        ∃ (t74 : Bool), v_4 = .bool t74 ∧
        if t74 = true then
          if (t66_1 != 0) = true then
            R (.bool true) h_15
          else
            if (t71_1 == 0) = true then
              ∃ (t83 : ByteArray), ConvV Try.prog T.s_uint8 T.string (.slice t71_0_p t71_0_l t71_0_c) h_15 t83 ∧
              ∃ (t85 : ByteArray), ConvV Try.prog T.s_uint8 T.string (.slice b_p b_l b_c) h_15 t85 ∧
              R (.bool (t83.toList == t85.toList)) h_15
            else
              R (.bool false) h_15
        else
          R (.bool false) h_15)
      (fun J_1 =>
        if (t29_1 == 0) = true then
          CallsH Try.prog F.reply_Read #[.slice t29_0_p t29_0_l t29_0_c] h_4 fun v_5 h_16 =>
          ∃ (t36_0_0 : Int), ∃ (t36_0_1 : Int), ∃ (t36_0_2 : Int), ∃ (t36_0_3 : Int), ∃ (t36_0_4 : Int), ∃ (t36_0_5_p : Option Addr) (t36_0_5_l t36_0_5_c : Nat), ∃ (t36_1 : Int), v_5 = .tuple #[.agg #[.int .u64 t36_0_0, .int .i64 t36_0_1, .int .i64 t36_0_2, .int .i64 t36_0_3, .int .u64 t36_0_4, .slice t36_0_5_p t36_0_5_l t36_0_5_c], .int .i64 t36_1] ∧
          NewP h_16 (.cells #[.int .u64 0, .int .i64 0, .int .i64 0, .int .i64 0, .int .u64 0, .slice none 0 0] T.reply_Reply) fun b_2 h_17 =>
          StoreP h_17 ⟨b_2, 0, none⟩ (.int .u64 t36_0_0) fun h_18 =>
          StoreP h_18 ⟨b_2, 1, none⟩ (.int .i64 t36_0_1) fun h_19 =>
          StoreP h_19 ⟨b_2, 2, none⟩ (.int .i64 t36_0_2) fun h_20 =>
          StoreP h_20 ⟨b_2, 3, none⟩ (.int .i64 t36_0_3) fun h_21 =>
          StoreP h_21 ⟨b_2, 4, none⟩ (.int .u64 t36_0_4) fun h_22 =>
          StoreP h_22 ⟨b_2, 5, none⟩ (.slice t36_0_5_p t36_0_5_l t36_0_5_c) fun h_23 =>
          JoinP (fun (t46 : Bool) (h_24 : Heap) =>
            if t46 = true then
              R (.bool false) h_24
            else
              JoinP (fun (t54 : Bool) (h_25 : Heap) =>
                JoinP (fun (h_26 : Heap) =>
                  J_1 h_26)
                (fun J_4 =>
                  if t54 = true then
                    ((0 : Int) ≤ cut ∧ cut ≤ ((t29_0_c : Nat) : Int)) ∧ 
                    CallsH Try.prog F.reply_Read #[.slice (slBase t29_0_p t29_0_c 0 1) ((Int.toNat cut) - 0) (t29_0_c - 0)] h_25 fun v_6 h_27 =>
                    ∃ (t59_0_0 : Int), ∃ (t59_0_1 : Int), ∃ (t59_0_2 : Int), ∃ (t59_0_3 : Int), ∃ (t59_0_4 : Int), ∃ (t59_0_5_p : Option Addr) (t59_0_5_l t59_0_5_c : Nat), ∃ (t59_1 : Int), v_6 = .tuple #[.agg #[.int .u64 t59_0_0, .int .i64 t59_0_1, .int .i64 t59_0_2, .int .i64 t59_0_3, .int .u64 t59_0_4, .slice t59_0_5_p t59_0_5_l t59_0_5_c], .int .i64 t59_1] ∧
                    NewP h_27 (.cells #[.int .u64 0, .int .i64 0, .int .i64 0, .int .i64 0, .int .u64 0, .slice none 0 0] T.reply_Reply) fun b_3 h_28 =>
                    StoreP h_28 ⟨b_3, 0, none⟩ (.int .u64 t59_0_0) fun h_29 =>
                    StoreP h_29 ⟨b_3, 1, none⟩ (.int .i64 t59_0_1) fun h_30 =>
                    StoreP h_30 ⟨b_3, 2, none⟩ (.int .i64 t59_0_2) fun h_31 =>
                    StoreP h_31 ⟨b_3, 3, none⟩ (.int .i64 t59_0_3) fun h_32 =>
                    StoreP h_32 ⟨b_3, 4, none⟩ (.int .u64 t59_0_4) fun h_33 =>
                    StoreP h_33 ⟨b_3, 5, none⟩ (.slice t59_0_5_p t59_0_5_l t59_0_5_c) fun h_34 =>
                    if (t59_1 != 3) = true then
                      R (.bool false) h_34
                    else
                      J_4 h_34
                  else
                    J_4 h_25))
              (fun J_3 =>
                if (decide (cut ≥ 0)) = true then
                  J_3 (decide (cut < ((t29_0_l : Nat) : Int))) h_24
                else
                  J_3 false h_24))
          (fun J_2 =>
            if (t36_1 != 0) = true then
              J_2 true h_23
            else
              ∃ (t42_0 : Int), hcell h_23 ⟨b, 0, none⟩ = some (.int .u64 t42_0) ∧ ∃ (t42_1 : Int), hcell h_23 ⟨b, 1, none⟩ = some (.int .i64 t42_1) ∧ ∃ (t42_2 : Int), hcell h_23 ⟨b, 2, none⟩ = some (.int .i64 t42_2) ∧ ∃ (t42_3 : Int), hcell h_23 ⟨b, 3, none⟩ = some (.int .i64 t42_3) ∧ ∃ (t42_4 : Int), hcell h_23 ⟨b, 4, none⟩ = some (.int .u64 t42_4) ∧ ∃ (t42_5_p : Option Addr) (t42_5_l t42_5_c : Nat), hcell h_23 ⟨b, 5, none⟩ = some (.slice t42_5_p t42_5_l t42_5_c) ∧ 
              ∃ (t43_0 : Int), hcell h_23 ⟨b_2, 0, none⟩ = some (.int .u64 t43_0) ∧ ∃ (t43_1 : Int), hcell h_23 ⟨b_2, 1, none⟩ = some (.int .i64 t43_1) ∧ ∃ (t43_2 : Int), hcell h_23 ⟨b_2, 2, none⟩ = some (.int .i64 t43_2) ∧ ∃ (t43_3 : Int), hcell h_23 ⟨b_2, 3, none⟩ = some (.int .i64 t43_3) ∧ ∃ (t43_4 : Int), hcell h_23 ⟨b_2, 4, none⟩ = some (.int .u64 t43_4) ∧ ∃ (t43_5_p : Option Addr) (t43_5_l t43_5_c : Nat), hcell h_23 ⟨b_2, 5, none⟩ = some (.slice t43_5_p t43_5_l t43_5_c) ∧ 
              CallsH Try.prog F.reply_Same #[.agg #[.int .u64 t42_0, .int .i64 t42_1, .int .i64 t42_2, .int .i64 t42_3, .int .u64 t42_4, .slice t42_5_p t42_5_l t42_5_c], .agg #[.int .u64 t43_0, .int .i64 t43_1, .int .i64 t43_2, .int .i64 t43_3, .int .u64 t43_4, .slice t43_5_p t43_5_l t43_5_c]] h_23 fun v_7 h_35 =>
              ∃ (t44 : Bool), v_7 = .bool t44 ∧
              J_2 (!t44) h_35)
        else
          J_1 h_4))
  (fun J =>
    ∃ (t18_p : Option Addr) (t18_l t18_c : Nat), hcell h_1 ⟨b, 5, none⟩ = some (.slice t18_p t18_l t18_c) ∧
    if (decide (((t18_l : Nat) : Int) > 1000)) = true then
      J true h_1
    else
      J (decide (((b_l : Nat) : Int) > 1000)) h_1)
theorem law17_ReplyBack.den_eq (x_0 : Int) (x_1 : Int) (x_2 : Int) (x_3 : Int) (x_4 : Int) (x_5_p : Option Addr) (x_5_l x_5_c : Nat) (b_p : Option Addr) (b_l b_c : Nat) (cut : Int) (h : Heap) (R : Value → Heap → Prop) : law17_ReplyBack.vc x_0 x_1 x_2 x_3 x_4 x_5_p x_5_l x_5_c b_p b_l b_c cut h R = den Try.prog Try.f4.ntmps (.seq .leaf (.seq (.seq (.join [(25, .one (.bool))] .leaf) (.cond (.seq .leaf .leaf) .leaf)) (.seq .leaf (.seq (.seq .leaf (.join [] (.cond (.seq .leaf (.seq (.seq (.join [(46, .one (.bool))] .leaf) (.cond (.seq .leaf .leaf) .leaf)) (.seq (.join [(54, .one (.bool))] .leaf) (.join [] (.cond (.seq .leaf (.seq .leaf (.cond (.seq .leaf .leaf) .leaf))) .leaf))))) .leaf))) (.seq .leaf (.seq .leaf (.seq .leaf .leaf))))))) none (bodyOf Try.f4) (retK Try.prog Try.f4.results R) (argEnv [.agg #[.int .u64 x_0, .int .i64 x_1, .int .i64 x_2, .int .i64 x_3, .int .u64 x_4, .slice x_5_p x_5_l x_5_c], .slice b_p b_l b_c, .int .i64 cut]) h := by kernel_rfl
theorem law17_ReplyBack.walk {x_0 : Int} {x_1 : Int} {x_2 : Int} {x_3 : Int} {x_4 : Int} {x_5_p : Option Addr} {x_5_l x_5_c : Nat} {b_p : Option Addr} {b_l b_c : Nat} {cut : Int} {h : Heap} {R : Value → Heap → Prop} (hv : law17_ReplyBack.vc x_0 x_1 x_2 x_3 x_4 x_5_p x_5_l x_5_c b_p b_l b_c cut h R) : CallsH Try.prog F.law17_ReplyBack #[.agg #[.int .u64 x_0, .int .i64 x_1, .int .i64 x_2, .int .i64 x_3, .int .u64 x_4, .slice x_5_p x_5_l x_5_c], .slice b_p b_l b_c, .int .i64 cut] h R :=
  callsH_of_body _ Try.func4 rfl rfl (Eq.mp (law17_ReplyBack.den_eq x_0 x_1 x_2 x_3 x_4 x_5_p x_5_l x_5_c b_p b_l b_c cut h R) hv)

end Go.Proofs.Ytopoaalbfdblnaa
