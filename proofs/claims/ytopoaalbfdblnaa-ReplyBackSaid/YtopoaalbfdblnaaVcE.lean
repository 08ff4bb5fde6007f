/-
  Printed by a program of this work (vc.py): the verification conditions of functions, and that each is enough for the call. No condition.
-/
import Derived.Test.YtopoaalbfdblnaaNames
set_option maxRecDepth 100000
set_option maxHeartbeats 4000000
namespace Go.Proofs.Ytopoaalbfdblnaa
open Go.Den
def ref15_fits.vc (i : Int) (c : Int) (h : Heap) (R : Value → Heap → Prop) : Prop :=
  if (decide (i < 9)) = true then
    R (.bool true) h
  else
    if (i == 9) = true then
      R (.bool (decide (c < 2))) h
    else
      R (.bool false) h
theorem ref15_fits.den_eq (i : Int) (c : Int) (h : Heap) (R : Value → Heap → Prop) : ref15_fits.vc i c h R = den Try.prog Try.f38.ntmps (.seq .leaf (.seq .leaf .leaf)) none (bodyOf Try.f38) (retK Try.prog Try.f38.results R) (argEnv [.int .i64 i, .int .u8 c]) h := by kernel_rfl
theorem ref15_fits.walk {i : Int} {c : Int} {h : Heap} {R : Value → Heap → Prop} (hv : ref15_fits.vc i c h R) : CallsH Try.prog F.ref15_fits #[.int .i64 i, .int .u8 c] h R :=
  callsH_of_body _ Try.func38 rfl rfl (Eq.mp (ref15_fits.den_eq i c h R) hv)

def ref15_Reader_Num.vc (r : Nat) (h : Heap) (R : Value → Heap → Prop) : Prop :=
  ∃ (t10 : Int), hcell h ⟨r, 2, none⟩ = some (.int .i64 t10) ∧
  if (t10 != 0) = true then
    R (.int .u64 0) h
  else
    ∃ (I : Int → Int → Int → Heap → Prop) (mu : Int → Int → Int → Heap → Nat), I 0 1 0 h ∧ ∀ (n : Int) (v_by : Int) (i : Int) (h_1 : Heap), I n v_by i h_1 →
      ∃ (t17 : Int), hcell h_1 ⟨r, 1, none⟩ = some (.int .i64 t17) ∧
      ∃ (t21_p : Option Addr) (t21_l t21_c : Nat), hcell h_1 ⟨r, 0, none⟩ = some (.slice t21_p t21_l t21_c) ∧
      if (decide (t17 ≥ ((t21_l : Nat) : Int))) = true then
        StoreP h_1 ⟨r, 2, none⟩ (.int .i64 8) fun h_2 =>
        R (.int .u64 0) h_2
      else
        ∃ (t30_p : Option Addr) (t30_l t30_c : Nat), hcell h_1 ⟨r, 0, none⟩ = some (.slice t30_p t30_l t30_c) ∧
        ∃ (t34 : Int), hcell h_1 ⟨r, 1, none⟩ = some (.int .i64 t34) ∧
        ((0 : Int) ≤ t34 ∧ t34 < ((t30_l : Nat) : Int)) ∧
        onSome t30_p fun a =>
        ∃ (t36 : Int), hcell h_1 (a.add (Int.toNat t34 * 1)) = some (.int .u8 t36) ∧
        ∃ (t41 : Int), hcell h_1 ⟨r, 1, none⟩ = some (.int .i64 t41) ∧
        StoreP h_1 ⟨r, 1, none⟩ (.int .i64 (IntKind.wrap .i64 (t41 + 1))) fun h_3 =>
        JoinP (fun (t56 : Bool) (h_4 : Heap) =>
          if t56 = true then
            StoreP h_4 ⟨r, 2, none⟩ (.int .i64 3) fun h_5 =>
            R (.int .u64 0) h_5
          else
            if (decide (t36 < 128)) = true then
              R (.int .u64 (IntKind.wrap .u64 (n + (IntKind.wrap .u64 (v_by * (IntKind.wrap .u64 (Int.tmod t36 128))))))) h_4
            else
              (I (IntKind.wrap .u64 (n + (IntKind.wrap .u64 (v_by * (IntKind.wrap .u64 (Int.tmod t36 128)))))) (IntKind.wrap .u64 (v_by * 128)) (IntKind.wrap .i64 (i + 1)) h_4 ∧ mu (IntKind.wrap .u64 (n + (IntKind.wrap .u64 (v_by * (IntKind.wrap .u64 (Int.tmod t36 128)))))) (IntKind.wrap .u64 (v_by * 128)) (IntKind.wrap .i64 (i + 1)) h_4 < mu n v_by i h_1))
        (fun J =>
          CallsH Try.prog F.ref15_fits #[.int .i64 i, .int .u8 t36] h_3 fun v h_6 =>
          ∃ (t47 : Bool), v = .bool t47 ∧
          if (!t47) = true then
            J true h_6
          else
            if (t36 == 0) = true then
              J (decide (i > 0)) h_6
            else
              J false h_6)
theorem ref15_Reader_Num.den_eq (r : Nat) (h : Heap) (R : Value → Heap → Prop) : ref15_Reader_Num.vc r h R = den Try.prog Try.f26.ntmps (.seq .leaf (.seq (.seq .leaf (.cond (.seq .leaf .leaf) .leaf)) (.seq .leaf (.seq .leaf (.block (.loop [(3, .one (.int .u64)), (4, .one (.int .u64)), (5, .one (.int .i64))] (.seq (.block (.seq (.seq (.plan (.op 0 (.op 1 (.op 2 (.op 3 (.op 4 (.op 5 (.op 6 (.op 7 (.op 8 (.op 9 .done))))))))))) (.cond (.seq .leaf (.seq .leaf .leaf)) .leaf)) (.seq (.plan (.op 0 (.op 1 (.op 2 (.op 3 (.op 4 (.op 5 (.op 6 (.op 7 (.op 8 (.op 9 (.op 10 .done)))))))))))) (.seq .leaf (.seq (.seq (.join [(56, .one (.bool))] .leaf) (.cond (.seq .leaf (.seq .leaf .leaf)) .leaf)) (.seq .leaf (.seq .leaf (.seq .leaf (.cond (.seq .leaf .leaf) .leaf))))))))) .leaf))))))) none (bodyOf Try.f26) (retK Try.prog Try.f26.results R) (argEnv [.pointer (some ⟨r, 0, none⟩)]) h := by kernel_rfl
theorem ref15_Reader_Num.walk {r : Nat} {h : Heap} {R : Value → Heap → Prop} (hv : ref15_Reader_Num.vc r h R) : CallsH Try.prog F.ref15_Reader_Num #[.pointer (some ⟨r, 0, none⟩)] h R :=
  callsH_of_body _ Try.func26 rfl rfl (Eq.mp (ref15_Reader_Num.den_eq r h R) hv)

def ref15_Reader_Most.vc (r : Nat) (top : Int) (h : Heap) (R : Value → Heap → Prop) : Prop :=
  CallsH Try.prog F.ref15_Reader_Num #[.pointer (some ⟨r, 0, none⟩)] h fun v h_1 =>
  ∃ (t7 : Int), v = .int .u64 t7 ∧
  if (decide (t7 > top)) = true then
    StoreP h_1 ⟨r, 2, none⟩ (.int .i64 3) fun h_2 =>
    R (.int .u64 0) h_2
  else
    R (.int .u64 t7) h_1
theorem ref15_Reader_Most.den_eq (r : Nat) (top : Int) (h : Heap) (R : Value → Heap → Prop) : ref15_Reader_Most.vc r top h R = den Try.prog Try.f27.ntmps (.seq .leaf (.seq .leaf (.seq (.seq .leaf (.cond (.seq .leaf (.seq .leaf .leaf)) .leaf)) (.seq .leaf .leaf)))) none (bodyOf Try.f27) (retK Try.prog Try.f27.results R) (argEnv [.pointer (some ⟨r, 0, none⟩), .int .u64 top]) h := by kernel_rfl
theorem ref15_Reader_Most.walk {r : Nat} {top : Int} {h : Heap} {R : Value → Heap → Prop} (hv : ref15_Reader_Most.vc r top h R) : CallsH Try.prog F.ref15_Reader_Most #[.pointer (some ⟨r, 0, none⟩), .int .u64 top] h R :=
  callsH_of_body _ Try.func27 rfl rfl (Eq.mp (ref15_Reader_Most.den_eq r top h R) hv)

def ref15_Reader_Text.vc (r : Nat) (h : Heap) (R : Value → Heap → Prop) : Prop :=
  CallsH Try.prog F.ref15_Reader_Num #[.pointer (some ⟨r, 0, none⟩)] h fun v h_1 =>
  ∃ (t6 : Int), v = .int .u64 t6 ∧
  ∃ (t10 : Int), hcell h_1 ⟨r, 2, none⟩ = some (.int .i64 t10) ∧
  if (t10 != 0) = true then
    R (.slice none 0 0) h_1
  else
    ∃ (t16_p : Option Addr) (t16_l t16_c : Nat), hcell h_1 ⟨r, 0, none⟩ = some (.slice t16_p t16_l t16_c) ∧
    ∃ (t21 : Int), hcell h_1 ⟨r, 1, none⟩ = some (.int .i64 t21) ∧
    if (decide (t6 > (IntKind.wrap .u64 (IntKind.wrap .i64 (((t16_l : Nat) : Int) - t21))))) = true then
      StoreP h_1 ⟨r, 2, none⟩ (.int .i64 8) fun h_2 =>
      R (.slice none 0 0) h_2
    else
      ∃ (t31_p : Option Addr) (t31_l t31_c : Nat), hcell h_1 ⟨r, 0, none⟩ = some (.slice t31_p t31_l t31_c) ∧
      ∃ (t35 : Int), hcell h_1 ⟨r, 1, none⟩ = some (.int .i64 t35) ∧
      ∃ (t39 : Int), hcell h_1 ⟨r, 1, none⟩ = some (.int .i64 t39) ∧
      ((0 : Int) ≤ IntKind.wrap .i64 (t39 + (IntKind.wrap .i64 t6)) ∧ IntKind.wrap .i64 (t39 + (IntKind.wrap .i64 t6)) ≤ ((t31_c : Nat) : Int)) ∧ ((0 : Int) ≤ t35 ∧ t35 ≤ IntKind.wrap .i64 (t39 + (IntKind.wrap .i64 t6))) ∧ 
      ∃ (t48 : Int), hcell h_1 ⟨r, 1, none⟩ = some (.int .i64 t48) ∧
      StoreP h_1 ⟨r, 1, none⟩ (.int .i64 (IntKind.wrap .i64 (t48 + (IntKind.wrap .i64 t6)))) fun h_3 =>
      R (.slice (slBase t31_p t31_c (Int.toNat t35) 1) ((Int.toNat (IntKind.wrap .i64 (t39 + (IntKind.wrap .i64 t6)))) - (Int.toNat t35)) (t31_c - (Int.toNat t35))) h_3
theorem ref15_Reader_Text.den_eq (r : Nat) (h : Heap) (R : Value → Heap → Prop) : ref15_Reader_Text.vc r h R = den Try.prog Try.f28.ntmps (.seq .leaf (.seq .leaf (.seq (.seq .leaf (.cond (.seq .leaf .leaf) .leaf)) (.seq (.seq (.plan (.op 0 (.op 1 (.op 2 (.op 3 (.op 4 (.op 5 (.op 6 (.op 7 (.op 8 (.op 9 (.op 10 (.op 11 (.op 12 .done)))))))))))))) (.cond (.seq .leaf (.seq .leaf .leaf)) .leaf)) (.seq (.plan (.op 0 (.op 1 (.op 2 (.op 3 (.op 4 (.op 5 (.op 6 (.op 7 (.op 8 (.op 9 (.op 10 (.op 11 (.op 12 (.op 13 (.op 14 (.op 15 (.op 16 .done)))))))))))))))))) (.seq .leaf (.seq .leaf .leaf))))))) none (bodyOf Try.f28) (retK Try.prog Try.f28.results R) (argEnv [.pointer (some ⟨r, 0, none⟩)]) h := by kernel_rfl
theorem ref15_Reader_Text.walk {r : Nat} {h : Heap} {R : Value → Heap → Prop} (hv : ref15_Reader_Text.vc r h R) : CallsH Try.prog F.ref15_Reader_Text #[.pointer (some ⟨r, 0, none⟩)] h R :=
  callsH_of_body _ Try.func28 rfl rfl (Eq.mp (ref15_Reader_Text.den_eq r h R) hv)

def ref15_Reader_End.vc (r : Nat) (h : Heap) (R : Value → Heap → Prop) : Prop :=
  ∃ (t6 : Int), hcell h ⟨r, 2, none⟩ = some (.int .i64 t6) ∧
  if (t6 != 0) = true then
    ∃ (t11 : Int), hcell h ⟨r, 2, none⟩ = some (.int .i64 t11) ∧
    R (.int .i64 t11) h
  else
    ∃ (t15 : Int), hcell h ⟨r, 1, none⟩ = some (.int .i64 t15) ∧
    ∃ (t19_p : Option Addr) (t19_l t19_c : Nat), hcell h ⟨r, 0, none⟩ = some (.slice t19_p t19_l t19_c) ∧
    if (decide (t15 < ((t19_l : Nat) : Int))) = true then
      R (.int .i64 2) h
    else
      R (.int .i64 0) h
theorem ref15_Reader_End.den_eq (r : Nat) (h : Heap) (R : Value → Heap → Prop) : ref15_Reader_End.vc r h R = den Try.prog Try.f29.ntmps (.seq .leaf (.seq (.seq .leaf (.cond (.seq .leaf .leaf) .leaf)) (.seq (.seq (.plan (.op 0 (.op 1 (.op 2 (.op 3 (.op 4 (.op 5 (.op 6 (.op 7 (.op 8 (.op 9 .done))))))))))) (.cond (.seq .leaf .leaf) .leaf)) (.seq .leaf .leaf)))) none (bodyOf Try.f29) (retK Try.prog Try.f29.results R) (argEnv [.pointer (some ⟨r, 0, none⟩)]) h := by kernel_rfl
theorem ref15_Reader_End.walk {r : Nat} {h : Heap} {R : Value → Heap → Prop} (hv : ref15_Reader_End.vc r h R) : CallsH Try.prog F.ref15_Reader_End #[.pointer (some ⟨r, 0, none⟩)] h R :=
  callsH_of_body _ Try.func29 rfl rfl (Eq.mp (ref15_Reader_End.den_eq r h R) hv)

end Go.Proofs.Ytopoaalbfdblnaa
