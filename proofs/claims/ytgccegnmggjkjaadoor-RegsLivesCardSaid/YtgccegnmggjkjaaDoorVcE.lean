/-
  Printed by a program of this work (vc.py): the verification conditions of functions, and that each is enough for the call. No condition.
-/
import Derived.Test.YtgccegnmggjkjaaDoorNames
set_option maxRecDepth 100000
set_option maxHeartbeats 4000000
namespace Go.Proofs.YtgccegnmggjkjaaDoor
open Go.Den
def eid_plain.host.vc (s : ByteArray) (h : Heap) (R : Value → Heap → Prop) : Prop :=
  denSem Tryd.prog (Instr.range T.string (.string s)) h fun v h_1 =>
  ∃ (it : Nat), v = .pointer (some ⟨it, 0, none⟩) ∧
  ∃ (I : Heap → Prop) (mu : Heap → Nat), I h_1 ∧ ∀ (h_2 : Heap), I h_2 →
    denSem Tryd.prog (Instr.next (.pointer (some ⟨it, 0, none⟩)) true T.tup_) h_2 fun v_1 h_3 =>
    (v_1 = .tuple #[.bool false] ∧
      R (.bool true) h_3) ∨
    (  ∃ (t9_k t9_v : Value), v_1 = .tuple #[.bool true, t9_k, t9_v] ∧
      ∃ (t11 : Int), t9_v = .int .i32 t11 ∧
      JoinP (fun (t34 : Bool) (h_4 : Heap) =>
        if t34 = true then
          R (.bool false) h_4
        else
          (I h_4 ∧ mu h_4 < mu h_2))
      (fun J =>
        if (decide (t11 < 97)) = true then
          if (decide (t11 < 48)) = true then
            if (t11 != 45) = true then
              J (t11 != 45) h_3
            else
              J false h_3
          else
            if (decide (t11 > 57)) = true then
              if (t11 != 45) = true then
                J (t11 != 45) h_3
              else
                J false h_3
            else
              J false h_3
        else
          if (decide (t11 > 122)) = true then
            if (decide (t11 < 48)) = true then
              if (t11 != 45) = true then
                J (t11 != 45) h_3
              else
                J false h_3
            else
              if (decide (t11 > 57)) = true then
                if (t11 != 45) = true then
                  J (t11 != 45) h_3
                else
                  J false h_3
              else
                J false h_3
          else
            J false h_3))
theorem eid_plain.host.den_eq (s : ByteArray) (h : Heap) (R : Value → Heap → Prop) : eid_plain.host.vc s h R = den Tryd.prog Tryd.f48.ntmps (.seq .leaf (.seq (.seq .leaf (.block (.loop [] (.seq .leaf (.seq (.cond .leaf .leaf) (.block (.seq (.typed [(11, .one (.int .i32))]) (.seq (.join [(34, .one (.bool))] .leaf) (.cond (.seq .leaf .leaf) .leaf))))))))) (.seq .leaf .leaf))) none (bodyOf Tryd.f48) (retK Tryd.prog Tryd.f48.results R) (argEnv [.string s, .int .i32 45]) h := by kernel_rfl
theorem eid_plain.host.walk {s : ByteArray} {h : Heap} {R : Value → Heap → Prop} (hv : eid_plain.host.vc s h R) : CallsH Tryd.prog F.eid_plain #[.string s, .int .i32 45] h R :=
  callsH_of_body _ Tryd.func48 rfl rfl (Eq.mp (eid_plain.host.den_eq s h R) hv)

def eid_plain.demux.vc (s : ByteArray) (h : Heap) (R : Value → Heap → Prop) : Prop :=
  denSem Tryd.prog (Instr.range T.string (.string s)) h fun v h_1 =>
  ∃ (it : Nat), v = .pointer (some ⟨it, 0, none⟩) ∧
  ∃ (I : Heap → Prop) (mu : Heap → Nat), I h_1 ∧ ∀ (h_2 : Heap), I h_2 →
    denSem Tryd.prog (Instr.next (.pointer (some ⟨it, 0, none⟩)) true T.tup_) h_2 fun v_1 h_3 =>
    (v_1 = .tuple #[.bool false] ∧
      R (.bool true) h_3) ∨
    (  ∃ (t9_k t9_v : Value), v_1 = .tuple #[.bool true, t9_k, t9_v] ∧
      ∃ (t11 : Int), t9_v = .int .i32 t11 ∧
      JoinP (fun (t34 : Bool) (h_4 : Heap) =>
        if t34 = true then
          R (.bool false) h_4
        else
          (I h_4 ∧ mu h_4 < mu h_2))
      (fun J =>
        if (decide (t11 < 97)) = true then
          if (decide (t11 < 48)) = true then
            if (t11 != 45) = true then
              J (t11 != 47) h_3
            else
              J false h_3
          else
            if (decide (t11 > 57)) = true then
              if (t11 != 45) = true then
                J (t11 != 47) h_3
              else
                J false h_3
            else
              J false h_3
        else
          if (decide (t11 > 122)) = true then
            if (decide (t11 < 48)) = true then
              if (t11 != 45) = true then
                J (t11 != 47) h_3
              else
                J false h_3
            else
              if (decide (t11 > 57)) = true then
                if (t11 != 45) = true then
                  J (t11 != 47) h_3
                else
                  J false h_3
              else
                J false h_3
          else
            J false h_3))
theorem eid_plain.demux.den_eq (s : ByteArray) (h : Heap) (R : Value → Heap → Prop) : eid_plain.demux.vc s h R = den Tryd.prog Tryd.f48.ntmps (.seq .leaf (.seq (.seq .leaf (.block (.loop [] (.seq .leaf (.seq (.cond .leaf .leaf) (.block (.seq (.typed [(11, .one (.int .i32))]) (.seq (.join [(34, .one (.bool))] .leaf) (.cond (.seq .leaf .leaf) .leaf))))))))) (.seq .leaf .leaf))) none (bodyOf Tryd.f48) (retK Tryd.prog Tryd.f48.results R) (argEnv [.string s, .int .i32 47]) h := by kernel_rfl
theorem eid_plain.demux.walk {s : ByteArray} {h : Heap} {R : Value → Heap → Prop} (hv : eid_plain.demux.vc s h R) : CallsH Tryd.prog F.eid_plain #[.string s, .int .i32 47] h R :=
  callsH_of_body _ Tryd.func48 rfl rfl (Eq.mp (eid_plain.demux.den_eq s h R) hv)

def eid_Right.vc (x_0 : Bool) (x_1 : Int) (x_2 : Int) (x_3 : ByteArray) (x_4 : ByteArray) (h : Heap) (R : Value → Heap → Prop) : Prop :=
  NewP h (.cells #[.bool x_0, .int .u64 x_1, .int .u64 x_2, .string x_3, .string x_4] T.eid_Eid) fun b h_1 =>
  eid_Eid.LD h_1 ⟨b, 0, none⟩ fun t4_0 t4_1 t4_2 t4_3 t4_4 =>
  ∃ (eq : Bool), EqV Tryd.prog T.eid_Eid (.agg #[.bool t4_0, .int .u64 t4_1, .int .u64 t4_2, .string t4_3, .string t4_4]) (.agg #[.bool false, .int .u64 0, .int .u64 0, .string (⟨#[]⟩ : ByteArray), .string (⟨#[]⟩ : ByteArray)]) eq ∧
  if eq = true then
    R (.bool true) h_1
  else
    ∃ (t9 : Bool), hcell h_1 ⟨b, 0, none⟩ = some (.bool t9) ∧
    if t9 = true then
      eid_Eid.LD h_1 ⟨b, 0, none⟩ fun t10_0 t10_1 t10_2 t10_3 t10_4 =>
      ∃ (t12 : Int), hcell h_1 ⟨b, 1, none⟩ = some (.int .u64 t12) ∧
      ∃ (t14 : Int), hcell h_1 ⟨b, 2, none⟩ = some (.int .u64 t14) ∧
      ∃ (eq_1 : Bool), EqV Tryd.prog T.eid_Eid (.agg #[.bool t10_0, .int .u64 t10_1, .int .u64 t10_2, .string t10_3, .string t10_4]) (.agg #[.bool true, .int .u64 t12, .int .u64 t14, .string (⟨#[]⟩ : ByteArray), .string (⟨#[]⟩ : ByteArray)]) eq_1 ∧
      if eq_1 = true then
        ∃ (t19 : Int), hcell h_1 ⟨b, 1, none⟩ = some (.int .u64 t19) ∧
        if (decide (t19 ≥ 1)) = true then
          ∃ (t24 : Int), hcell h_1 ⟨b, 1, none⟩ = some (.int .u64 t24) ∧
          if (decide (t24 ≤ 4294967295)) = true then
            ∃ (t29 : Int), hcell h_1 ⟨b, 2, none⟩ = some (.int .u64 t29) ∧
            R (.bool (decide (t29 ≤ 4294967295))) h_1
          else
            R (.bool false) h_1
        else
          R (.bool false) h_1
      else
        R (.bool false) h_1
    else
      eid_Eid.LD h_1 ⟨b, 0, none⟩ fun t32_0 t32_1 t32_2 t32_3 t32_4 =>
      ∃ (t34 : ByteArray), hcell h_1 ⟨b, 3, none⟩ = some (.string t34) ∧
      ∃ (t36 : ByteArray), hcell h_1 ⟨b, 4, none⟩ = some (.string t36) ∧
      ∃ (eq_2 : Bool), EqV Tryd.prog T.eid_Eid (.agg #[.bool t32_0, .int .u64 t32_1, .int .u64 t32_2, .string t32_3, .string t32_4]) (.agg #[.bool false, .int .u64 0, .int .u64 0, .string t34, .string t36]) eq_2 ∧
      if eq_2 = true then
        ∃ (t41 : ByteArray), hcell h_1 ⟨b, 3, none⟩ = some (.string t41) ∧
        if (decide (((t41.size : Nat) : Int) ≥ 1)) = true then
          ∃ (t47 : ByteArray), hcell h_1 ⟨b, 3, none⟩ = some (.string t47) ∧
          if (decide (((t47.size : Nat) : Int) ≤ 16)) = true then
            ∃ (t53 : ByteArray), hcell h_1 ⟨b, 4, none⟩ = some (.string t53) ∧
            if (decide (((t53.size : Nat) : Int) ≤ 24)) = true then
              ∃ (t59 : ByteArray), hcell h_1 ⟨b, 3, none⟩ = some (.string t59) ∧
              CallsH Tryd.prog F.eid_plain #[.string t59, .int .i32 45] h_1 fun v h_2 =>
              ∃ (t60 : Bool), v = .bool t60 ∧
              if t60 = true then
                ∃ (t64 : ByteArray), hcell h_2 ⟨b, 4, none⟩ = some (.string t64) ∧
                CallsH Tryd.prog F.eid_plain #[.string t64, .int .i32 47] h_2 fun v_1 h_3 =>
                ∃ (t65 : Bool), v_1 = .bool t65 ∧
                R (.bool t65) h_3
              else
                R (.bool false) h_2
            else
              R (.bool false) h_1
          else
            R (.bool false) h_1
        else
          R (.bool false) h_1
      else
        R (.bool false) h_1
theorem eid_Right.den_eq (x_0 : Bool) (x_1 : Int) (x_2 : Int) (x_3 : ByteArray) (x_4 : ByteArray) (h : Heap) (R : Value → Heap → Prop) : eid_Right.vc x_0 x_1 x_2 x_3 x_4 h R = den Tryd.prog Tryd.f36.ntmps (.seq .leaf (.seq (.block (.seq .leaf (.cond (.seq .leaf .leaf) (.seq .leaf (.cond (.seq .leaf .leaf) .leaf))))) (.seq .leaf .leaf))) none (bodyOf Tryd.f36) (retK Tryd.prog Tryd.f36.results R) (argEnv [.agg #[.bool x_0, .int .u64 x_1, .int .u64 x_2, .string x_3, .string x_4]]) h := by kernel_rfl
theorem eid_Right.walk {x_0 : Bool} {x_1 : Int} {x_2 : Int} {x_3 : ByteArray} {x_4 : ByteArray} {h : Heap} {R : Value → Heap → Prop} (hv : eid_Right.vc x_0 x_1 x_2 x_3 x_4 h R) : CallsH Tryd.prog F.eid_Right #[.agg #[.bool x_0, .int .u64 x_1, .int .u64 x_2, .string x_3, .string x_4]] h R :=
  callsH_of_body _ Tryd.func36 rfl rfl (Eq.mp (eid_Right.den_eq x_0 x_1 x_2 x_3 x_4 h R) hv)

def eid_class.vc (x_0 : Bool) (x_1 : Int) (x_2 : Int) (x_3 : ByteArray) (x_4 : ByteArray) (h : Heap) (R : Value → Heap → Prop) : Prop :=
  NewP h (.cells #[.bool x_0, .int .u64 x_1, .int .u64 x_2, .string x_3, .string x_4] T.eid_Eid) fun b h_1 =>
  eid_Eid.LD h_1 ⟨b, 0, none⟩ fun t4_0 t4_1 t4_2 t4_3 t4_4 =>
  ∃ (eq : Bool), EqV Tryd.prog T.eid_Eid (.agg #[.bool t4_0, .int .u64 t4_1, .int .u64 t4_2, .string t4_3, .string t4_4]) (.agg #[.bool false, .int .u64 0, .int .u64 0, .string (⟨#[]⟩ : ByteArray), .string (⟨#[]⟩ : ByteArray)]) eq ∧
  if eq = true then
    R (.int .i64 0) h_1
  else
    ∃ (t9 : Bool), hcell h_1 ⟨b, 0, none⟩ = some (.bool t9) ∧
    if t9 = true then
      R (.int .i64 1) h_1
    else
      R (.int .i64 2) h_1
theorem eid_class.den_eq (x_0 : Bool) (x_1 : Int) (x_2 : Int) (x_3 : ByteArray) (x_4 : ByteArray) (h : Heap) (R : Value → Heap → Prop) : eid_class.vc x_0 x_1 x_2 x_3 x_4 h R = den Tryd.prog Tryd.f47.ntmps (.seq .leaf (.seq (.block (.seq .leaf (.cond (.seq .leaf .leaf) (.seq .leaf (.cond (.seq .leaf .leaf) .leaf))))) (.seq .leaf .leaf))) none (bodyOf Tryd.f47) (retK Tryd.prog Tryd.f47.results R) (argEnv [.agg #[.bool x_0, .int .u64 x_1, .int .u64 x_2, .string x_3, .string x_4]]) h := by kernel_rfl
theorem eid_class.walk {x_0 : Bool} {x_1 : Int} {x_2 : Int} {x_3 : ByteArray} {x_4 : ByteArray} {h : Heap} {R : Value → Heap → Prop} (hv : eid_class.vc x_0 x_1 x_2 x_3 x_4 h R) : CallsH Tryd.prog F.eid_class #[.agg #[.bool x_0, .int .u64 x_1, .int .u64 x_2, .string x_3, .string x_4]] h R :=
  callsH_of_body _ Tryd.func47 rfl rfl (Eq.mp (eid_class.den_eq x_0 x_1 x_2 x_3 x_4 h R) hv)

def eid_Less.vc (a_0 : Bool) (a_1 : Int) (a_2 : Int) (a_3 : ByteArray) (a_4 : ByteArray) (b_0 : Bool) (b_1 : Int) (b_2 : Int) (b_3 : ByteArray) (b_4 : ByteArray) (h : Heap) (R : Value → Heap → Prop) : Prop :=
  NewP h (.cells #[.bool a_0, .int .u64 a_1, .int .u64 a_2, .string a_3, .string a_4] T.eid_Eid) fun b h_1 =>
  NewP h_1 (.cells #[.bool b_0, .int .u64 b_1, .int .u64 b_2, .string b_3, .string b_4] T.eid_Eid) fun b_1 h_2 =>
  eid_Eid.LD h_2 ⟨b, 0, none⟩ fun t6_0 t6_1 t6_2 t6_3 t6_4 =>
  eid_Eid.LD h_2 ⟨b_1, 0, none⟩ fun t8_0 t8_1 t8_2 t8_3 t8_4 =>
  CallsH Tryd.prog F.eid_class #[.agg #[.bool t6_0, .int .u64 t6_1, .int .u64 t6_2, .string t6_3, .string t6_4]] h_2 fun v h_3 =>
  ∃ (t7 : Int), v = .int .i64 t7 ∧
  heldL ⟨b_1, 0, none⟩ [.bool t8_0, .int .u64 t8_1, .int .u64 t8_2, .string t8_3, .string t8_4] 0 h_3 ∧
  CallsH Tryd.prog F.eid_class #[.agg #[.bool t8_0, .int .u64 t8_1, .int .u64 t8_2, .string t8_3, .string t8_4]] h_3 fun v_1 h_4 =>
  ∃ (t9 : Int), v_1 = .int .i64 t9 ∧
  if (t7 != t9) = true then
    eid_Eid.LD h_4 ⟨b, 0, none⟩ fun t11_0 t11_1 t11_2 t11_3 t11_4 =>
    eid_Eid.LD h_4 ⟨b_1, 0, none⟩ fun t13_0 t13_1 t13_2 t13_3 t13_4 =>
    CallsH Tryd.prog F.eid_class #[.agg #[.bool t11_0, .int .u64 t11_1, .int .u64 t11_2, .string t11_3, .string t11_4]] h_4 fun v_2 h_5 =>
    ∃ (t12 : Int), v_2 = .int .i64 t12 ∧
    heldL ⟨b_1, 0, none⟩ [.bool t13_0, .int .u64 t13_1, .int .u64 t13_2, .string t13_3, .string t13_4] 0 h_5 ∧
    CallsH Tryd.prog F.eid_class #[.agg #[.bool t13_0, .int .u64 t13_1, .int .u64 t13_2, .string t13_3, .string t13_4]] h_5 fun v_3 h_6 =>
    ∃ (t14 : Int), v_3 = .int .i64 t14 ∧
    R (.bool (decide (t12 < t14))) h_6
  else
    ∃ (t18 : Int), hcell h_4 ⟨b, 1, none⟩ = some (.int .u64 t18) ∧
    ∃ (t20 : Int), hcell h_4 ⟨b_1, 1, none⟩ = some (.int .u64 t20) ∧
    if (t18 != t20) = true then
      ∃ (t23 : Int), hcell h_4 ⟨b, 1, none⟩ = some (.int .u64 t23) ∧
      ∃ (t25 : Int), hcell h_4 ⟨b_1, 1, none⟩ = some (.int .u64 t25) ∧
      R (.bool (decide (t23 < t25))) h_4
    else
      ∃ (t29 : Int), hcell h_4 ⟨b, 2, none⟩ = some (.int .u64 t29) ∧
      ∃ (t31 : Int), hcell h_4 ⟨b_1, 2, none⟩ = some (.int .u64 t31) ∧
      if (t29 != t31) = true then
        ∃ (t34 : Int), hcell h_4 ⟨b, 2, none⟩ = some (.int .u64 t34) ∧
        ∃ (t36 : Int), hcell h_4 ⟨b_1, 2, none⟩ = some (.int .u64 t36) ∧
        R (.bool (decide (t34 < t36))) h_4
      else
        ∃ (t40 : ByteArray), hcell h_4 ⟨b, 3, none⟩ = some (.string t40) ∧
        ∃ (t42 : ByteArray), hcell h_4 ⟨b_1, 3, none⟩ = some (.string t42) ∧
        if (!(t40.toList == t42.toList)) = true then
          ∃ (t45 : ByteArray), hcell h_4 ⟨b, 3, none⟩ = some (.string t45) ∧
          ∃ (t47 : ByteArray), hcell h_4 ⟨b_1, 3, none⟩ = some (.string t47) ∧
          R (.bool (Op.bytesLess t45.toList t47.toList)) h_4
        else
          ∃ (t50 : ByteArray), hcell h_4 ⟨b, 4, none⟩ = some (.string t50) ∧
          ∃ (t52 : ByteArray), hcell h_4 ⟨b_1, 4, none⟩ = some (.string t52) ∧
          R (.bool (Op.bytesLess t50.toList t52.toList)) h_4
theorem eid_Less.den_eq (a_0 : Bool) (a_1 : Int) (a_2 : Int) (a_3 : ByteArray) (a_4 : ByteArray) (b_0 : Bool) (b_1 : Int) (b_2 : Int) (b_3 : ByteArray) (b_4 : ByteArray) (h : Heap) (R : Value → Heap → Prop) : eid_Less.vc a_0 a_1 a_2 a_3 a_4 b_0 b_1 b_2 b_3 b_4 h R = den Tryd.prog Tryd.f35.ntmps (.seq .leaf (.seq (.block (.seq (.plan (.op 0 (.op 2 (.op 1 (.op 3 (.op 4 (.op 5 .done))))))) (.cond (.seq (.plan (.op 0 (.op 2 (.op 1 (.op 3 (.op 4 (.op 5 .done))))))) .leaf) (.seq .leaf (.cond (.seq .leaf .leaf) (.seq .leaf (.cond (.seq .leaf .leaf) (.seq .leaf (.cond (.seq .leaf .leaf) .leaf))))))))) (.seq .leaf .leaf))) none (bodyOf Tryd.f35) (retK Tryd.prog Tryd.f35.results R) (argEnv [.agg #[.bool a_0, .int .u64 a_1, .int .u64 a_2, .string a_3, .string a_4], .agg #[.bool b_0, .int .u64 b_1, .int .u64 b_2, .string b_3, .string b_4]]) h := by kernel_rfl
theorem eid_Less.walk {a_0 : Bool} {a_1 : Int} {a_2 : Int} {a_3 : ByteArray} {a_4 : ByteArray} {b_0 : Bool} {b_1 : Int} {b_2 : Int} {b_3 : ByteArray} {b_4 : ByteArray} {h : Heap} {R : Value → Heap → Prop} (hv : eid_Less.vc a_0 a_1 a_2 a_3 a_4 b_0 b_1 b_2 b_3 b_4 h R) : CallsH Tryd.prog F.eid_Less #[.agg #[.bool a_0, .int .u64 a_1, .int .u64 a_2, .string a_3, .string a_4], .agg #[.bool b_0, .int .u64 b_1, .int .u64 b_2, .string b_3, .string b_4]] h R :=
  callsH_of_body _ Tryd.func35 rfl rfl (Eq.mp (eid_Less.den_eq a_0 a_1 a_2 a_3 a_4 b_0 b_1 b_2 b_3 b_4 h R) hv)

end Go.Proofs.YtgccegnmggjkjaaDoor
