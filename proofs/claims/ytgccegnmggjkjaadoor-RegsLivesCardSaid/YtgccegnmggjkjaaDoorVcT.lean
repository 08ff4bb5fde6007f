/-
  Printed by a program of this work (vc.py): the verification conditions of functions, and that each is enough for the call. No condition.
-/
import Derived.Test.YtgccegnmggjkjaaDoorNames
set_option maxRecDepth 100000
set_option maxHeartbeats 4000000
namespace Go.Proofs.YtgccegnmggjkjaaDoor
open Go.Den
def eid_Text.vc (x_0 : Bool) (x_1 : Int) (x_2 : Int) (x_3 : ByteArray) (x_4 : ByteArray) (h : Heap) (R : Value → Heap → Prop) : Prop :=
  NewP h (.cells #[.bool x_0, .int .u64 x_1, .int .u64 x_2, .string x_3, .string x_4] T.eid_Eid) fun b h_1 =>
  eid_Eid.LD h_1 ⟨b, 0, none⟩ fun t5_0 t5_1 t5_2 t5_3 t5_4 =>
  CallsH Tryd.prog F.eid_Right #[.agg #[.bool t5_0, .int .u64 t5_1, .int .u64 t5_2, .string t5_3, .string t5_4]] h_1 fun v h_2 =>
  ∃ (t6 : Bool), v = .bool t6 ∧
  if (!t6) = true then
    R (.tuple #[.string (⟨#[]⟩ : ByteArray), .int .i64 3]) h_2
  else
    eid_Eid.LD h_2 ⟨b, 0, none⟩ fun t9_0 t9_1 t9_2 t9_3 t9_4 =>
    ∃ (eq : Bool), EqV Tryd.prog T.eid_Eid (.agg #[.bool t9_0, .int .u64 t9_1, .int .u64 t9_2, .string t9_3, .string t9_4]) (.agg #[.bool false, .int .u64 0, .int .u64 0, .string (⟨#[]⟩ : ByteArray), .string (⟨#[]⟩ : ByteArray)]) eq ∧
    if eq = true then
      R (.tuple #[.string (⟨#[100, 116, 110, 58, 110, 111, 110, 101]⟩ : ByteArray), .int .i64 0]) h_2
    else
      ∃ (t14 : Bool), hcell h_2 ⟨b, 0, none⟩ = some (.bool t14) ∧
      if t14 = true then
        ∃ (t16 : Int), hcell h_2 ⟨b, 1, none⟩ = some (.int .u64 t16) ∧
        ∃ (t21 : Int), hcell h_2 ⟨b, 2, none⟩ = some (.int .u64 t21) ∧
        CallsH Tryd.prog F.strconv_FormatUint #[.int .u64 t16, .int .i64 10] h_2 fun v_1 h_3 =>
        ∃ (t17 : ByteArray), v_1 = .string t17 ∧
        hcell h_3 ⟨b, 2, none⟩ = some (.int .u64 t21) ∧
        (((⟨#[105, 112, 110, 58]⟩ : ByteArray).size + t17.size : Nat) : Int) ≤ IntKind.max .i64 ∧
        ((((⟨#[105, 112, 110, 58]⟩ : ByteArray) ++ t17).size + (⟨#[46]⟩ : ByteArray).size : Nat) : Int) ≤ IntKind.max .i64 ∧
        CallsH Tryd.prog F.strconv_FormatUint #[.int .u64 t21, .int .i64 10] h_3 fun v_2 h_4 =>
        ∃ (t22 : ByteArray), v_2 = .string t22 ∧
        (((((⟨#[105, 112, 110, 58]⟩ : ByteArray) ++ t17) ++ (⟨#[46]⟩ : ByteArray)).size + t22.size : Nat) : Int) ≤ IntKind.max .i64 ∧
        R (.tuple #[.string ((((⟨#[105, 112, 110, 58]⟩ : ByteArray) ++ t17) ++ (⟨#[46]⟩ : ByteArray)) ++ t22), .int .i64 0]) h_4
      else
        eid_Eid.LD h_2 ⟨b, 0, none⟩ fun t24_0 t24_1 t24_2 t24_3 t24_4 =>
        CallsH Tryd.prog F.eid_path #[.agg #[.bool t24_0, .int .u64 t24_1, .int .u64 t24_2, .string t24_3, .string t24_4]] h_2 fun v_3 h_5 =>
        ∃ (t25 : ByteArray), v_3 = .string t25 ∧
        (((⟨#[100, 116, 110, 58]⟩ : ByteArray).size + t25.size : Nat) : Int) ≤ IntKind.max .i64 ∧
        R (.tuple #[.string ((⟨#[100, 116, 110, 58]⟩ : ByteArray) ++ t25), .int .i64 0]) h_5
theorem eid_Text.den_eq (x_0 : Bool) (x_1 : Int) (x_2 : Int) (x_3 : ByteArray) (x_4 : ByteArray) (h : Heap) (R : Value → Heap → Prop) : eid_Text.vc x_0 x_1 x_2 x_3 x_4 h R = den Tryd.prog Tryd.f39.ntmps (.seq .leaf (.seq (.block (.seq .leaf (.cond (.seq .leaf .leaf) (.seq .leaf (.cond (.seq .leaf .leaf) (.seq .leaf (.cond (.seq (.plan (.op 0 (.op 1 (.op 5 (.op 6 (.op 2 (.op 3 (.op 4 (.op 7 (.op 8 (.op 9 (.op 10 .done)))))))))))) .leaf) .leaf))))))) (.seq .leaf .leaf))) none (bodyOf Tryd.f39) (retK Tryd.prog Tryd.f39.results R) (argEnv [.agg #[.bool x_0, .int .u64 x_1, .int .u64 x_2, .string x_3, .string x_4]]) h := by kernel_rfl
theorem eid_Text.walk {x_0 : Bool} {x_1 : Int} {x_2 : Int} {x_3 : ByteArray} {x_4 : ByteArray} {h : Heap} {R : Value → Heap → Prop} (hv : eid_Text.vc x_0 x_1 x_2 x_3 x_4 h R) : CallsH Tryd.prog F.eid_Text #[.agg #[.bool x_0, .int .u64 x_1, .int .u64 x_2, .string x_3, .string x_4]] h R :=
  callsH_of_body _ Tryd.func39 rfl rfl (Eq.mp (eid_Text.den_eq x_0 x_1 x_2 x_3 x_4 h R) hv)

def eid_path.vc (x_0 : Bool) (x_1 : Int) (x_2 : Int) (x_3 : ByteArray) (x_4 : ByteArray) (h : Heap) (R : Value → Heap → Prop) : Prop :=
  NewP h (.cells #[.bool x_0, .int .u64 x_1, .int .u64 x_2, .string x_3, .string x_4] T.eid_Eid) fun b h_1 =>
  ∃ (t4 : ByteArray), hcell h_1 ⟨b, 3, none⟩ = some (.string t4) ∧
  (((⟨#[47, 47]⟩ : ByteArray).size + t4.size : Nat) : Int) ≤ IntKind.max .i64 ∧
  ((((⟨#[47, 47]⟩ : ByteArray) ++ t4).size + (⟨#[47]⟩ : ByteArray).size : Nat) : Int) ≤ IntKind.max .i64 ∧
  ∃ (t8 : ByteArray), hcell h_1 ⟨b, 4, none⟩ = some (.string t8) ∧
  (((((⟨#[47, 47]⟩ : ByteArray) ++ t4) ++ (⟨#[47]⟩ : ByteArray)).size + t8.size : Nat) : Int) ≤ IntKind.max .i64 ∧
  R (.string ((((⟨#[47, 47]⟩ : ByteArray) ++ t4) ++ (⟨#[47]⟩ : ByteArray)) ++ t8)) h_1
theorem eid_path.den_eq (x_0 : Bool) (x_1 : Int) (x_2 : Int) (x_3 : ByteArray) (x_4 : ByteArray) (h : Heap) (R : Value → Heap → Prop) : eid_path.vc x_0 x_1 x_2 x_3 x_4 h R = den Tryd.prog Tryd.f50.ntmps (.seq .leaf (.seq .leaf .leaf)) none (bodyOf Tryd.f50) (retK Tryd.prog Tryd.f50.results R) (argEnv [.agg #[.bool x_0, .int .u64 x_1, .int .u64 x_2, .string x_3, .string x_4]]) h := by kernel_rfl
theorem eid_path.walk {x_0 : Bool} {x_1 : Int} {x_2 : Int} {x_3 : ByteArray} {x_4 : ByteArray} {h : Heap} {R : Value → Heap → Prop} (hv : eid_path.vc x_0 x_1 x_2 x_3 x_4 h R) : CallsH Tryd.prog F.eid_path #[.agg #[.bool x_0, .int .u64 x_1, .int .u64 x_2, .string x_3, .string x_4]] h R :=
  callsH_of_body _ Tryd.func50 rfl rfl (Eq.mp (eid_path.den_eq x_0 x_1 x_2 x_3 x_4 h R) hv)

def ref04_Digits.vc (n : Int) (h : Heap) (R : Value → Heap → Prop) : Prop :=
  ∃ (I : Int → ByteArray → Heap → Prop) (mu : Int → ByteArray → Heap → Nat), I n (⟨#[]⟩ : ByteArray) h ∧ ∀ (n_1 : Int) (out : ByteArray) (h_1 : Heap), I n_1 out h_1 →
    JoinP (fun (t9 : Bool) (h_2 : Heap) =>
      if t9 = true then
        NewP h_2 (.cells #[.int .u8 (IntKind.wrap .u8 (IntKind.wrap .u64 (48 + (Int.tmod n_1 10))))] T.uint8) fun b h_3 =>
        ∃ (t15 : ByteArray), ConvV Tryd.prog T.s_uint8 T.string (.slice (some ⟨b, 0, none⟩) 1 1) h_3 t15 ∧
        ((t15.size + out.size : Nat) : Int) ≤ IntKind.max .i64 ∧
        (I (IntKind.wrap .u64 (Int.tdiv n_1 10)) (t15 ++ out) h_3 ∧ mu (IntKind.wrap .u64 (Int.tdiv n_1 10)) (t15 ++ out) h_3 < mu n_1 out h_1)
      else
        R (.string out) h_2)
    (fun J =>
      if (decide (n_1 > 0)) = true then
        J true h_1
      else
        J (out.toList == (⟨#[]⟩ : ByteArray).toList) h_1)
theorem ref04_Digits.den_eq (n : Int) (h : Heap) (R : Value → Heap → Prop) : ref04_Digits.vc n h R = den Tryd.prog Tryd.f44.ntmps (.seq .leaf (.seq .leaf (.seq (.block (.loop [(0, .one (.int .u64)), (3, .one (.str))] (.seq (.seq (.join [(9, .one (.bool))] .leaf) (.cond .leaf .leaf)) (.block (.seq .leaf .leaf))))) (.seq .leaf .leaf)))) none (bodyOf Tryd.f44) (retK Tryd.prog Tryd.f44.results R) (argEnv [.int .u64 n]) h := by kernel_rfl
theorem ref04_Digits.walk {n : Int} {h : Heap} {R : Value → Heap → Prop} (hv : ref04_Digits.vc n h R) : CallsH Tryd.prog F.ref04_Digits #[.int .u64 n] h R :=
  callsH_of_body _ Tryd.func44 rfl rfl (Eq.mp (ref04_Digits.den_eq n h R) hv)

def ref04_Text.vc (x_0 : Bool) (x_1 : Int) (x_2 : Int) (x_3 : ByteArray) (x_4 : ByteArray) (h : Heap) (R : Value → Heap → Prop) : Prop :=
  NewP h (.cells #[.bool x_0, .int .u64 x_1, .int .u64 x_2, .string x_3, .string x_4] T.ref04_Eid) fun b h_1 =>
  ref04_Eid.LD h_1 ⟨b, 0, none⟩ fun t3_0 t3_1 t3_2 t3_3 t3_4 =>
  CallsH Tryd.prog F.ref04_Kind #[.agg #[.bool t3_0, .int .u64 t3_1, .int .u64 t3_2, .string t3_3, .string t3_4]] h_1 fun v h_2 =>
  ∃ (t4 : Int), v = .int .i64 t4 ∧
  if (t4 == 0) = true then
    R (.string (⟨#[100, 116, 110, 58, 110, 111, 110, 101]⟩ : ByteArray)) h_2
  else
    if (t4 == 1) = true then
      ∃ (t10 : Int), hcell h_2 ⟨b, 1, none⟩ = some (.int .u64 t10) ∧
      ∃ (t15 : Int), hcell h_2 ⟨b, 2, none⟩ = some (.int .u64 t15) ∧
      CallsH Tryd.prog F.ref04_Digits #[.int .u64 t10] h_2 fun v_1 h_3 =>
      ∃ (t11 : ByteArray), v_1 = .string t11 ∧
      hcell h_3 ⟨b, 2, none⟩ = some (.int .u64 t15) ∧
      (((⟨#[105, 112, 110, 58]⟩ : ByteArray).size + t11.size : Nat) : Int) ≤ IntKind.max .i64 ∧
      ((((⟨#[105, 112, 110, 58]⟩ : ByteArray) ++ t11).size + (⟨#[46]⟩ : ByteArray).size : Nat) : Int) ≤ IntKind.max .i64 ∧
      CallsH Tryd.prog F.ref04_Digits #[.int .u64 t15] h_3 fun v_2 h_4 =>
      ∃ (t16 : ByteArray), v_2 = .string t16 ∧
      (((((⟨#[105, 112, 110, 58]⟩ : ByteArray) ++ t11) ++ (⟨#[46]⟩ : ByteArray)).size + t16.size : Nat) : Int) ≤ IntKind.max .i64 ∧
      R (.string ((((⟨#[105, 112, 110, 58]⟩ : ByteArray) ++ t11) ++ (⟨#[46]⟩ : ByteArray)) ++ t16)) h_4
    else
      ∃ (t19 : ByteArray), hcell h_2 ⟨b, 3, none⟩ = some (.string t19) ∧
      (((⟨#[100, 116, 110, 58, 47, 47]⟩ : ByteArray).size + t19.size : Nat) : Int) ≤ IntKind.max .i64 ∧
      ((((⟨#[100, 116, 110, 58, 47, 47]⟩ : ByteArray) ++ t19).size + (⟨#[47]⟩ : ByteArray).size : Nat) : Int) ≤ IntKind.max .i64 ∧
      ∃ (t23 : ByteArray), hcell h_2 ⟨b, 4, none⟩ = some (.string t23) ∧
      (((((⟨#[100, 116, 110, 58, 47, 47]⟩ : ByteArray) ++ t19) ++ (⟨#[47]⟩ : ByteArray)).size + t23.size : Nat) : Int) ≤ IntKind.max .i64 ∧
      R (.string ((((⟨#[100, 116, 110, 58, 47, 47]⟩ : ByteArray) ++ t19) ++ (⟨#[47]⟩ : ByteArray)) ++ t23)) h_2
theorem ref04_Text.den_eq (x_0 : Bool) (x_1 : Int) (x_2 : Int) (x_3 : ByteArray) (x_4 : ByteArray) (h : Heap) (R : Value → Heap → Prop) : ref04_Text.vc x_0 x_1 x_2 x_3 x_4 h R = den Tryd.prog Tryd.f31.ntmps (.seq .leaf (.seq (.seq .leaf (.block (.seq .leaf (.cond (.seq .leaf .leaf) (.seq .leaf (.cond (.seq (.plan (.op 0 (.op 1 (.op 5 (.op 6 (.op 2 (.op 3 (.op 4 (.op 7 (.op 8 (.op 9 .done))))))))))) .leaf) .leaf)))))) (.seq .leaf .leaf))) none (bodyOf Tryd.f31) (retK Tryd.prog Tryd.f31.results R) (argEnv [.agg #[.bool x_0, .int .u64 x_1, .int .u64 x_2, .string x_3, .string x_4]]) h := by kernel_rfl
theorem ref04_Text.walk {x_0 : Bool} {x_1 : Int} {x_2 : Int} {x_3 : ByteArray} {x_4 : ByteArray} {h : Heap} {R : Value → Heap → Prop} (hv : ref04_Text.vc x_0 x_1 x_2 x_3 x_4 h R) : CallsH Tryd.prog F.ref04_Text #[.agg #[.bool x_0, .int .u64 x_1, .int .u64 x_2, .string x_3, .string x_4]] h R :=
  callsH_of_body _ Tryd.func31 rfl rfl (Eq.mp (ref04_Text.den_eq x_0 x_1 x_2 x_3 x_4 h R) hv)

def ref04_Kind.vc (x_0 : Bool) (x_1 : Int) (x_2 : Int) (x_3 : ByteArray) (x_4 : ByteArray) (h : Heap) (R : Value → Heap → Prop) : Prop :=
  NewP h (.cells #[.bool x_0, .int .u64 x_1, .int .u64 x_2, .string x_3, .string x_4] T.ref04_Eid) fun b h_1 =>
  ∃ (t4 : Bool), hcell h_1 ⟨b, 0, none⟩ = some (.bool t4) ∧
  if t4 = true then
    JoinP (fun (t27 : Bool) (h_2 : Heap) =>
      if t27 = true then
        R (.int .i64 (-1)) h_2
      else
        R (.int .i64 1) h_2)
    (fun J =>
      ∃ (t6 : ByteArray), hcell h_1 ⟨b, 3, none⟩ = some (.string t6) ∧
      if (!(t6.toList == (⟨#[]⟩ : ByteArray).toList)) = true then
        J true h_1
      else
        ∃ (t10 : ByteArray), hcell h_1 ⟨b, 4, none⟩ = some (.string t10) ∧
        if (!(t10.toList == (⟨#[]⟩ : ByteArray).toList)) = true then
          J true h_1
        else
          ∃ (t15 : Int), hcell h_1 ⟨b, 1, none⟩ = some (.int .u64 t15) ∧
          if (decide (t15 < 1)) = true then
            J true h_1
          else
            ∃ (t20 : Int), hcell h_1 ⟨b, 1, none⟩ = some (.int .u64 t20) ∧
            if (decide (t20 > 4294967295)) = true then
              J true h_1
            else
              ∃ (t25 : Int), hcell h_1 ⟨b, 2, none⟩ = some (.int .u64 t25) ∧
              J (decide (t25 > 4294967295)) h_1)
  else
    JoinP (fun (t35 : Bool) (h_3 : Heap) =>
      if t35 = true then
        R (.int .i64 (-1)) h_3
      else
        JoinP (fun (t43 : Bool) (h_4 : Heap) =>
          if t43 = true then
            R (.int .i64 0) h_4
          else
            JoinP (fun (t71 : Bool) (h_5 : Heap) =>
              if t71 = true then
                R (.int .i64 (-1)) h_5
              else
                R (.int .i64 2) h_5)
            (fun J_3 =>
              ∃ (t45 : ByteArray), hcell h_4 ⟨b, 3, none⟩ = some (.string t45) ∧
              if (decide (((t45.size : Nat) : Int) < 1)) = true then
                J_3 true h_4
              else
                ∃ (t50 : ByteArray), hcell h_4 ⟨b, 3, none⟩ = some (.string t50) ∧
                if (decide (((t50.size : Nat) : Int) > 16)) = true then
                  J_3 true h_4
                else
                  ∃ (t56 : ByteArray), hcell h_4 ⟨b, 4, none⟩ = some (.string t56) ∧
                  if (decide (((t56.size : Nat) : Int) > 24)) = true then
                    J_3 true h_4
                  else
                    ∃ (t62 : ByteArray), hcell h_4 ⟨b, 3, none⟩ = some (.string t62) ∧
                    CallsH Tryd.prog F.ref04_Plain #[.string t62, .bool false] h_4 fun v h_6 =>
                    ∃ (t63 : Bool), v = .bool t63 ∧
                    if (!t63) = true then
                      J_3 true h_6
                    else
                      ∃ (t68 : ByteArray), hcell h_6 ⟨b, 4, none⟩ = some (.string t68) ∧
                      CallsH Tryd.prog F.ref04_Plain #[.string t68, .bool true] h_6 fun v_1 h_7 =>
                      ∃ (t69 : Bool), v_1 = .bool t69 ∧
                      J_3 (!t69) h_7))
        (fun J_2 =>
          ∃ (t37 : ByteArray), hcell h_3 ⟨b, 3, none⟩ = some (.string t37) ∧
          if (t37.toList == (⟨#[]⟩ : ByteArray).toList) = true then
            ∃ (t41 : ByteArray), hcell h_3 ⟨b, 4, none⟩ = some (.string t41) ∧
            J_2 (t41.toList == (⟨#[]⟩ : ByteArray).toList) h_3
          else
            J_2 false h_3))
    (fun J_1 =>
      ∃ (t29 : Int), hcell h_1 ⟨b, 1, none⟩ = some (.int .u64 t29) ∧
      if (t29 != 0) = true then
        J_1 true h_1
      else
        ∃ (t33 : Int), hcell h_1 ⟨b, 2, none⟩ = some (.int .u64 t33) ∧
        J_1 (t33 != 0) h_1)
theorem ref04_Kind.den_eq (x_0 : Bool) (x_1 : Int) (x_2 : Int) (x_3 : ByteArray) (x_4 : ByteArray) (h : Heap) (R : Value → Heap → Prop) : ref04_Kind.vc x_0 x_1 x_2 x_3 x_4 h R = den Tryd.prog Tryd.f24.ntmps (.seq .leaf (.seq (.seq .leaf (.cond (.seq (.seq (.join [(27, .one (.bool))] .leaf) (.cond (.seq .leaf .leaf) .leaf)) (.seq .leaf .leaf)) .leaf)) (.seq (.seq (.join [(35, .one (.bool))] .leaf) (.cond (.seq .leaf .leaf) .leaf)) (.seq (.seq (.join [(43, .one (.bool))] .leaf) (.cond (.seq .leaf .leaf) .leaf)) (.seq (.seq (.join [(71, .one (.bool))] .leaf) (.cond (.seq .leaf .leaf) .leaf)) (.seq .leaf .leaf)))))) none (bodyOf Tryd.f24) (retK Tryd.prog Tryd.f24.results R) (argEnv [.agg #[.bool x_0, .int .u64 x_1, .int .u64 x_2, .string x_3, .string x_4]]) h := by kernel_rfl
theorem ref04_Kind.walk {x_0 : Bool} {x_1 : Int} {x_2 : Int} {x_3 : ByteArray} {x_4 : ByteArray} {h : Heap} {R : Value → Heap → Prop} (hv : ref04_Kind.vc x_0 x_1 x_2 x_3 x_4 h R) : CallsH Tryd.prog F.ref04_Kind #[.agg #[.bool x_0, .int .u64 x_1, .int .u64 x_2, .string x_3, .string x_4]] h R :=
  callsH_of_body _ Tryd.func24 rfl rfl (Eq.mp (ref04_Kind.den_eq x_0 x_1 x_2 x_3 x_4 h R) hv)

def ref04_Less.vc (a_0 : Bool) (a_1 : Int) (a_2 : Int) (a_3 : ByteArray) (a_4 : ByteArray) (b_0 : Bool) (b_1 : Int) (b_2 : Int) (b_3 : ByteArray) (b_4 : ByteArray) (h : Heap) (R : Value → Heap → Prop) : Prop :=
  NewP h (.cells #[.bool a_0, .int .u64 a_1, .int .u64 a_2, .string a_3, .string a_4] T.ref04_Eid) fun b h_1 =>
  NewP h_1 (.cells #[.bool b_0, .int .u64 b_1, .int .u64 b_2, .string b_3, .string b_4] T.ref04_Eid) fun b_1 h_2 =>
  ref04_Eid.LD h_2 ⟨b, 0, none⟩ fun t7_0 t7_1 t7_2 t7_3 t7_4 =>
  ref04_Eid.LD h_2 ⟨b_1, 0, none⟩ fun t9_0 t9_1 t9_2 t9_3 t9_4 =>
  CallsH Tryd.prog F.ref04_Class #[.agg #[.bool t7_0, .int .u64 t7_1, .int .u64 t7_2, .string t7_3, .string t7_4]] h_2 fun v h_3 =>
  ∃ (t8 : Int), v = .int .i64 t8 ∧
  heldL ⟨b_1, 0, none⟩ [.bool t9_0, .int .u64 t9_1, .int .u64 t9_2, .string t9_3, .string t9_4] 0 h_3 ∧
  CallsH Tryd.prog F.ref04_Class #[.agg #[.bool t9_0, .int .u64 t9_1, .int .u64 t9_2, .string t9_3, .string t9_4]] h_3 fun v_1 h_4 =>
  ∃ (t10 : Int), v_1 = .int .i64 t10 ∧
  if (t8 != t10) = true then
    R (.bool (decide (t8 < t10))) h_4
  else
    ∃ (t18 : Int), hcell h_4 ⟨b, 1, none⟩ = some (.int .u64 t18) ∧
    ∃ (t20 : Int), hcell h_4 ⟨b_1, 1, none⟩ = some (.int .u64 t20) ∧
    if (t18 != t20) = true then
      ∃ (t23 : Int), hcell h_4 ⟨b, 1, none⟩ = some (.int .u64 t23) ∧
      ∃ (t25 : Int), hcell h_4 ⟨b_1, 1, none⟩ = some (.int .u64 t25) ∧
      R (.bool (decide (t23 < t25))) h_4
    else
      ∃ (t28 : Int), hcell h_4 ⟨b, 2, none⟩ = some (.int .u64 t28) ∧
      ∃ (t30 : Int), hcell h_4 ⟨b_1, 2, none⟩ = some (.int .u64 t30) ∧
      if (t28 != t30) = true then
        ∃ (t33 : Int), hcell h_4 ⟨b, 2, none⟩ = some (.int .u64 t33) ∧
        ∃ (t35 : Int), hcell h_4 ⟨b_1, 2, none⟩ = some (.int .u64 t35) ∧
        R (.bool (decide (t33 < t35))) h_4
      else
        ∃ (t38 : ByteArray), hcell h_4 ⟨b, 3, none⟩ = some (.string t38) ∧
        ∃ (t40 : ByteArray), hcell h_4 ⟨b_1, 3, none⟩ = some (.string t40) ∧
        if (!(t38.toList == t40.toList)) = true then
          ∃ (t43 : ByteArray), hcell h_4 ⟨b, 3, none⟩ = some (.string t43) ∧
          ∃ (t45 : ByteArray), hcell h_4 ⟨b_1, 3, none⟩ = some (.string t45) ∧
          R (.bool (Op.bytesLess t43.toList t45.toList)) h_4
        else
          ∃ (t48 : ByteArray), hcell h_4 ⟨b, 4, none⟩ = some (.string t48) ∧
          ∃ (t50 : ByteArray), hcell h_4 ⟨b_1, 4, none⟩ = some (.string t50) ∧
          R (.bool (Op.bytesLess t48.toList t50.toList)) h_4
theorem ref04_Less.den_eq (a_0 : Bool) (a_1 : Int) (a_2 : Int) (a_3 : ByteArray) (a_4 : ByteArray) (b_0 : Bool) (b_1 : Int) (b_2 : Int) (b_3 : ByteArray) (b_4 : ByteArray) (h : Heap) (R : Value → Heap → Prop) : ref04_Less.vc a_0 a_1 a_2 a_3 a_4 b_0 b_1 b_2 b_3 b_4 h R = den Tryd.prog Tryd.f25.ntmps (.seq .leaf (.seq (.plan (.op 0 (.op 2 (.op 1 (.op 3 (.op 4 (.op 5 .done))))))) (.seq (.seq .leaf (.cond (.seq .leaf .leaf) .leaf)) (.seq (.seq .leaf (.cond (.seq .leaf .leaf) .leaf)) (.seq (.seq .leaf (.cond (.seq .leaf .leaf) .leaf)) (.seq (.seq .leaf (.cond (.seq .leaf .leaf) .leaf)) (.seq .leaf .leaf))))))) none (bodyOf Tryd.f25) (retK Tryd.prog Tryd.f25.results R) (argEnv [.agg #[.bool a_0, .int .u64 a_1, .int .u64 a_2, .string a_3, .string a_4], .agg #[.bool b_0, .int .u64 b_1, .int .u64 b_2, .string b_3, .string b_4]]) h := by kernel_rfl
theorem ref04_Less.walk {a_0 : Bool} {a_1 : Int} {a_2 : Int} {a_3 : ByteArray} {a_4 : ByteArray} {b_0 : Bool} {b_1 : Int} {b_2 : Int} {b_3 : ByteArray} {b_4 : ByteArray} {h : Heap} {R : Value → Heap → Prop} (hv : ref04_Less.vc a_0 a_1 a_2 a_3 a_4 b_0 b_1 b_2 b_3 b_4 h R) : CallsH Tryd.prog F.ref04_Less #[.agg #[.bool a_0, .int .u64 a_1, .int .u64 a_2, .string a_3, .string a_4], .agg #[.bool b_0, .int .u64 b_1, .int .u64 b_2, .string b_3, .string b_4]] h R :=
  callsH_of_body _ Tryd.func25 rfl rfl (Eq.mp (ref04_Less.den_eq a_0 a_1 a_2 a_3 a_4 b_0 b_1 b_2 b_3 b_4 h R) hv)

def ref04_Plain.vc (s : ByteArray) (slash : Bool) (h : Heap) (R : Value → Heap → Prop) : Prop :=
  ∃ (I : Int → Heap → Prop) (mu : Int → Heap → Nat), I 0 h ∧ ∀ (i : Int) (h_1 : Heap), I i h_1 →
    if (decide (i < ((s.size : Nat) : Int))) = true then
      ((0 : Int) ≤ i ∧ i < ((s.size : Nat) : Int)) ∧
      JoinP (fun (t41 : Bool) (h_2 : Heap) =>
        if t41 = true then
          R (.bool false) h_2
        else
          (I (IntKind.wrap .i64 (i + 1)) h_2 ∧ mu (IntKind.wrap .i64 (i + 1)) h_2 < mu i h_1))
      (fun J =>
        if (decide ((((s.data.toList.getD (Int.toNat i) 0).toNat : Nat) : Int) ≥ 97)) = true then
          if (decide ((((s.data.toList.getD (Int.toNat i) 0).toNat : Nat) : Int) ≤ 122)) = true then
            J false h_1
          else
            if (decide ((((s.data.toList.getD (Int.toNat i) 0).toNat : Nat) : Int) ≥ 48)) = true then
              if (decide ((((s.data.toList.getD (Int.toNat i) 0).toNat : Nat) : Int) ≤ 57)) = true then
                J false h_1
              else
                if ((((s.data.toList.getD (Int.toNat i) 0).toNat : Nat) : Int) == 45) = true then
                  J false h_1
                else
                  if slash = true then
                    J (!((((s.data.toList.getD (Int.toNat i) 0).toNat : Nat) : Int) == 47)) h_1
                  else
                    J true h_1
            else
              if ((((s.data.toList.getD (Int.toNat i) 0).toNat : Nat) : Int) == 45) = true then
                J false h_1
              else
                if slash = true then
                  J (!((((s.data.toList.getD (Int.toNat i) 0).toNat : Nat) : Int) == 47)) h_1
                else
                  J true h_1
        else
          if (decide ((((s.data.toList.getD (Int.toNat i) 0).toNat : Nat) : Int) ≥ 48)) = true then
            if (decide ((((s.data.toList.getD (Int.toNat i) 0).toNat : Nat) : Int) ≤ 57)) = true then
              J false h_1
            else
              if ((((s.data.toList.getD (Int.toNat i) 0).toNat : Nat) : Int) == 45) = true then
                J false h_1
              else
                if slash = true then
                  J (!((((s.data.toList.getD (Int.toNat i) 0).toNat : Nat) : Int) == 47)) h_1
                else
                  J true h_1
          else
            if ((((s.data.toList.getD (Int.toNat i) 0).toNat : Nat) : Int) == 45) = true then
              J false h_1
            else
              if slash = true then
                J (!((((s.data.toList.getD (Int.toNat i) 0).toNat : Nat) : Int) == 47)) h_1
              else
                J true h_1)
    else
      R (.bool true) h_1
theorem ref04_Plain.den_eq (s : ByteArray) (slash : Bool) (h : Heap) (R : Value → Heap → Prop) : ref04_Plain.vc s slash h R = den Tryd.prog Tryd.f37.ntmps (.seq .leaf (.seq (.seq .leaf (.block (.loop [(5, .one (.int .i64))] (.seq (.seq .leaf (.cond .leaf .leaf)) (.seq (.block (.seq .leaf (.seq (.join [(41, .one (.bool))] .leaf) (.cond (.seq .leaf .leaf) .leaf)))) .leaf))))) (.seq .leaf .leaf))) none (bodyOf Tryd.f37) (retK Tryd.prog Tryd.f37.results R) (argEnv [.string s, .bool slash]) h := by kernel_rfl
theorem ref04_Plain.walk {s : ByteArray} {slash : Bool} {h : Heap} {R : Value → Heap → Prop} (hv : ref04_Plain.vc s slash h R) : CallsH Tryd.prog F.ref04_Plain #[.string s, .bool slash] h R :=
  callsH_of_body _ Tryd.func37 rfl rfl (Eq.mp (ref04_Plain.den_eq s slash h R) hv)

def ref04_Class.vc (x_0 : Bool) (x_1 : Int) (x_2 : Int) (x_3 : ByteArray) (x_4 : ByteArray) (h : Heap) (R : Value → Heap → Prop) : Prop :=
  NewP h (.cells #[.bool x_0, .int .u64 x_1, .int .u64 x_2, .string x_3, .string x_4] T.ref04_Eid) fun b h_1 =>
  ∃ (t4 : Bool), hcell h_1 ⟨b, 0, none⟩ = some (.bool t4) ∧
  if t4 = true then
    R (.int .i64 1) h_1
  else
    JoinP (fun (t22 : Bool) (h_2 : Heap) =>
      if t22 = true then
        R (.int .i64 0) h_2
      else
        R (.int .i64 2) h_2)
    (fun J =>
      ∃ (t6 : Int), hcell h_1 ⟨b, 1, none⟩ = some (.int .u64 t6) ∧
      if (t6 == 0) = true then
        ∃ (t10 : Int), hcell h_1 ⟨b, 2, none⟩ = some (.int .u64 t10) ∧
        if (t10 == 0) = true then
          ∃ (t15 : ByteArray), hcell h_1 ⟨b, 3, none⟩ = some (.string t15) ∧
          if (t15.toList == (⟨#[]⟩ : ByteArray).toList) = true then
            ∃ (t20 : ByteArray), hcell h_1 ⟨b, 4, none⟩ = some (.string t20) ∧
            J (t20.toList == (⟨#[]⟩ : ByteArray).toList) h_1
          else
            J false h_1
        else
          J false h_1
      else
        J false h_1)
theorem ref04_Class.den_eq (x_0 : Bool) (x_1 : Int) (x_2 : Int) (x_3 : ByteArray) (x_4 : ByteArray) (h : Heap) (R : Value → Heap → Prop) : ref04_Class.vc x_0 x_1 x_2 x_3 x_4 h R = den Tryd.prog Tryd.f38.ntmps (.seq .leaf (.seq (.seq .leaf (.cond (.seq .leaf .leaf) .leaf)) (.seq (.seq (.join [(22, .one (.bool))] .leaf) (.cond (.seq .leaf .leaf) .leaf)) (.seq .leaf .leaf)))) none (bodyOf Tryd.f38) (retK Tryd.prog Tryd.f38.results R) (argEnv [.agg #[.bool x_0, .int .u64 x_1, .int .u64 x_2, .string x_3, .string x_4]]) h := by kernel_rfl
theorem ref04_Class.walk {x_0 : Bool} {x_1 : Int} {x_2 : Int} {x_3 : ByteArray} {x_4 : ByteArray} {h : Heap} {R : Value → Heap → Prop} (hv : ref04_Class.vc x_0 x_1 x_2 x_3 x_4 h R) : CallsH Tryd.prog F.ref04_Class #[.agg #[.bool x_0, .int .u64 x_1, .int .u64 x_2, .string x_3, .string x_4]] h R :=
  callsH_of_body _ Tryd.func38 rfl rfl (Eq.mp (ref04_Class.den_eq x_0 x_1 x_2 x_3 x_4 h R) hv)

def law04_As.vc (x_0 : Bool) (x_1 : Int) (x_2 : Int) (x_3 : ByteArray) (x_4 : ByteArray) (h : Heap) (R : Value → Heap → Prop) : Prop :=
  NewP h (.cells #[.bool x_0, .int .u64 x_1, .int .u64 x_2, .string x_3, .string x_4] T.eid_Eid) fun b h_1 =>
  NewP h_1 (.cells #[.bool false, .int .u64 0, .int .u64 0, .string (⟨#[]⟩ : ByteArray), .string (⟨#[]⟩ : ByteArray)] T.ref04_Eid) fun b_1 h_2 =>
  ∃ (t4 : Bool), hcell h_2 ⟨b, 0, none⟩ = some (.bool t4) ∧
  ∃ (t6 : Int), hcell h_2 ⟨b, 1, none⟩ = some (.int .u64 t6) ∧
  ∃ (t8 : Int), hcell h_2 ⟨b, 2, none⟩ = some (.int .u64 t8) ∧
  ∃ (t10 : ByteArray), hcell h_2 ⟨b, 3, none⟩ = some (.string t10) ∧
  ∃ (t12 : ByteArray), hcell h_2 ⟨b, 4, none⟩ = some (.string t12) ∧
  ref04_Eid.ST h_2 ⟨b_1, 0, none⟩ t4 t6 t8 t10 t12 fun h_3 =>
  ref04_Eid.LD h_3 ⟨b_1, 0, none⟩ fun r_0 r_1 r_2 r_3 r_4 =>
  R (.agg #[.bool r_0, .int .u64 r_1, .int .u64 r_2, .string r_3, .string r_4]) h_3
theorem law04_As.den_eq (x_0 : Bool) (x_1 : Int) (x_2 : Int) (x_3 : ByteArray) (x_4 : ByteArray) (h : Heap) (R : Value → Heap → Prop) : law04_As.vc x_0 x_1 x_2 x_3 x_4 h R = den Tryd.prog Tryd.f6.ntmps (.seq .leaf (.seq .leaf .leaf)) none (bodyOf Tryd.f6) (retK Tryd.prog Tryd.f6.results R) (argEnv [.agg #[.bool x_0, .int .u64 x_1, .int .u64 x_2, .string x_3, .string x_4]]) h := by kernel_rfl
theorem law04_As.walk {x_0 : Bool} {x_1 : Int} {x_2 : Int} {x_3 : ByteArray} {x_4 : ByteArray} {h : Heap} {R : Value → Heap → Prop} (hv : law04_As.vc x_0 x_1 x_2 x_3 x_4 h R) : CallsH Tryd.prog F.law04_As #[.agg #[.bool x_0, .int .u64 x_1, .int .u64 x_2, .string x_3, .string x_4]] h R :=
  callsH_of_body _ Tryd.func6 rfl rfl (Eq.mp (law04_As.den_eq x_0 x_1 x_2 x_3 x_4 h R) hv)

end Go.Proofs.YtgccegnmggjkjaaDoor
