/-
  Printed by a program of this work (vc.py): the verification conditions of functions, and that each is enough for the call. No condition.
-/
import Derived.Test.YtgccegnmggjkjaaNames
set_option maxRecDepth 100000
set_option maxHeartbeats 4000000
namespace Go.Proofs.Ytgccegnmggjkjaa
open Go.Den
def cmp_isNaN_int.vc (x : Int) (h : Heap) (R : Value → Heap → Prop) : Prop :=
  R (.bool (x != x)) h
theorem cmp_isNaN_int.den_eq (x : Int) (h : Heap) (R : Value → Heap → Prop) : cmp_isNaN_int.vc x h R = den Try.prog Try.f90.ntmps (.seq .leaf (.seq .leaf .leaf)) none (bodyOf Try.f90) (retK Try.prog Try.f90.results R) (argEnv [.int .i64 x]) h := by kernel_rfl
theorem cmp_isNaN_int.walk {x : Int} {h : Heap} {R : Value → Heap → Prop} (hv : cmp_isNaN_int.vc x h R) : CallsH Try.prog F.cmp_isNaN_int #[.int .i64 x] h R :=
  callsH_of_body _ Try.func90 rfl rfl (Eq.mp (cmp_isNaN_int.den_eq x h R) hv)

def cmp_Less_int.vc (x : Int) (y : Int) (h : Heap) (R : Value → Heap → Prop) : Prop :=
  CallsH Try.prog F.cmp_isNaN_int #[.int .i64 x] h fun v h_1 =>
  ∃ (t6 : Bool), v = .bool t6 ∧
  if t6 = true then
    CallsH Try.prog F.cmp_isNaN_int #[.int .i64 y] h_1 fun v_1 h_2 =>
    ∃ (t9 : Bool), v_1 = .bool t9 ∧
    if (!t9) = true then
      R (.bool true) h_2
    else
      R (.bool (decide (x < y))) h_2
  else
    R (.bool (decide (x < y))) h_1
theorem cmp_Less_int.den_eq (x : Int) (y : Int) (h : Heap) (R : Value → Heap → Prop) : cmp_Less_int.vc x y h R = den Try.prog Try.f84.ntmps (.seq .leaf (.seq .leaf .leaf)) none (bodyOf Try.f84) (retK Try.prog Try.f84.results R) (argEnv [.int .i64 x, .int .i64 y]) h := by kernel_rfl
theorem cmp_Less_int.walk {x : Int} {y : Int} {h : Heap} {R : Value → Heap → Prop} (hv : cmp_Less_int.vc x y h R) : CallsH Try.prog F.cmp_Less_int #[.int .i64 x, .int .i64 y] h R :=
  callsH_of_body _ Try.func84 rfl rfl (Eq.mp (cmp_Less_int.den_eq x y h R) hv)

def slices_xorshift_Next.vc (r : Nat) (h : Heap) (R : Value → Heap → Prop) : Prop :=
  ∃ (t5 : Int), hcell h ⟨r, 0, none⟩ = some (.int .u64 t5) ∧
  ∃ (t8 : Int), hcell h ⟨r, 0, none⟩ = some (.int .u64 t8) ∧
  StoreP h ⟨r, 0, none⟩ (.int .u64 (IntKind.wrap .u64 ((BitVec.ofInt (IntKind.bits .u64) t5 ^^^ BitVec.ofInt (IntKind.bits .u64) (IntKind.wrap .u64 (t8 * 2 ^ min (Int.toNat 13) (IntKind.bits .u64)))).toNat : Int))) fun h_1 =>
  ∃ (t14 : Int), hcell h_1 ⟨r, 0, none⟩ = some (.int .u64 t14) ∧
  ∃ (t17 : Int), hcell h_1 ⟨r, 0, none⟩ = some (.int .u64 t17) ∧
  StoreP h_1 ⟨r, 0, none⟩ (.int .u64 (IntKind.wrap .u64 ((BitVec.ofInt (IntKind.bits .u64) t14 ^^^ BitVec.ofInt (IntKind.bits .u64) (Int.fdiv t17 (2 ^ min (Int.toNat 7) (IntKind.bits .u64)))).toNat : Int))) fun h_2 =>
  ∃ (t23 : Int), hcell h_2 ⟨r, 0, none⟩ = some (.int .u64 t23) ∧
  ∃ (t26 : Int), hcell h_2 ⟨r, 0, none⟩ = some (.int .u64 t26) ∧
  StoreP h_2 ⟨r, 0, none⟩ (.int .u64 (IntKind.wrap .u64 ((BitVec.ofInt (IntKind.bits .u64) t23 ^^^ BitVec.ofInt (IntKind.bits .u64) (IntKind.wrap .u64 (t26 * 2 ^ min (Int.toNat 17) (IntKind.bits .u64)))).toNat : Int))) fun h_3 =>
  ∃ (t32 : Int), hcell h_3 ⟨r, 0, none⟩ = some (.int .u64 t32) ∧
  R (.int .u64 t32) h_3
theorem slices_xorshift_Next.den_eq (r : Nat) (h : Heap) (R : Value → Heap → Prop) : slices_xorshift_Next.vc r h R = den Try.prog Try.f73.ntmps (.seq .leaf (.seq (.plan (.op 0 (.op 1 (.op 2 (.op 3 (.op 4 (.op 5 (.op 6 (.op 7 (.op 8 (.op 9 .done))))))))))) (.seq (.plan (.op 0 (.op 1 (.op 2 (.op 3 (.op 4 (.op 5 (.op 6 (.op 7 (.op 8 (.op 9 .done))))))))))) (.seq (.plan (.op 0 (.op 1 (.op 2 (.op 3 (.op 4 (.op 5 (.op 6 (.op 7 (.op 8 (.op 9 .done))))))))))) (.seq .leaf .leaf))))) none (bodyOf Try.f73) (retK Try.prog Try.f73.results R) (argEnv [.pointer (some ⟨r, 0, none⟩)]) h := by kernel_rfl
theorem slices_xorshift_Next.walk {r : Nat} {h : Heap} {R : Value → Heap → Prop} (hv : slices_xorshift_Next.vc r h R) : CallsH Try.prog F.slices_xorshift_Next #[.pointer (some ⟨r, 0, none⟩)] h R :=
  callsH_of_body _ Try.func73 rfl rfl (Eq.mp (slices_xorshift_Next.den_eq r h R) hv)

def slices_nextPowerOfTwo.vc (length : Int) (h : Heap) (R : Value → Heap → Prop) : Prop :=
  CallsH Try.prog F.math_bits_Len #[.int .u64 (IntKind.wrap .u64 length)] h fun v h_1 =>
  ∃ (t5 : Int), v = .int .i64 t5 ∧
  if t5 < 0 then False else
  R (.int .u64 (IntKind.wrap .u64 (1 * 2 ^ min (Int.toNat t5) (IntKind.bits .u64)))) h_1
theorem slices_nextPowerOfTwo.den_eq (length : Int) (h : Heap) (R : Value → Heap → Prop) : slices_nextPowerOfTwo.vc length h R = den Try.prog Try.f72.ntmps (.seq .leaf (.seq .leaf .leaf)) none (bodyOf Try.f72) (retK Try.prog Try.f72.results R) (argEnv [.int .i64 length]) h := by kernel_rfl
theorem slices_nextPowerOfTwo.walk {length : Int} {h : Heap} {R : Value → Heap → Prop} (hv : slices_nextPowerOfTwo.vc length h R) : CallsH Try.prog F.slices_nextPowerOfTwo #[.int .i64 length] h R :=
  callsH_of_body _ Try.func72 rfl rfl (Eq.mp (slices_nextPowerOfTwo.den_eq length h R) hv)

def slices_insertionSortOrdered_int.vc (data_p : Option Addr) (data_l data_c : Nat) (a : Int) (b : Int) (h : Heap) (R : Value → Heap → Prop) : Prop :=
  ∃ (I : Int → Heap → Prop) (mu : Int → Heap → Nat), I (IntKind.wrap .i64 (a + 1)) h ∧ ∀ (i : Int) (h_1 : Heap), I i h_1 →
    if (decide (i < b)) = true then
      ∃ (I_1 : Int → Heap → Prop) (mu_1 : Int → Heap → Nat), I_1 i h_1 ∧ ∀ (j : Int) (h_2 : Heap), I_1 j h_2 →
        JoinP (fun (t30 : Bool) (h_3 : Heap) =>
          if t30 = true then
            ((0 : Int) ≤ IntKind.wrap .i64 (j - 1) ∧ IntKind.wrap .i64 (j - 1) < ((data_l : Nat) : Int)) ∧
            onSome data_p fun a_1 =>
            ∃ (t42 : Int), hcell h_3 (a_1.add (Int.toNat (IntKind.wrap .i64 (j - 1)) * 1)) = some (.int .i64 t42) ∧
            ((0 : Int) ≤ j ∧ j < ((data_l : Nat) : Int)) ∧
            onSome data_p fun a_2 =>
            ∃ (t46 : Int), hcell h_3 (a_2.add (Int.toNat j * 1)) = some (.int .i64 t46) ∧
            ((0 : Int) ≤ j ∧ j < ((data_l : Nat) : Int)) ∧
            onSome data_p fun a_3 =>
            StoreP h_3 (a_3.add (Int.toNat j * 1)) (.int .i64 t42) fun h_4 =>
            ((0 : Int) ≤ IntKind.wrap .i64 (j - 1) ∧ IntKind.wrap .i64 (j - 1) < ((data_l : Nat) : Int)) ∧
            onSome data_p fun a_4 =>
            StoreP h_4 (a_4.add (Int.toNat (IntKind.wrap .i64 (j - 1)) * 1)) (.int .i64 t46) fun h_5 =>
            (I_1 (IntKind.wrap .i64 (j - 1)) h_5 ∧ mu_1 (IntKind.wrap .i64 (j - 1)) h_5 < mu_1 j h_2)
          else
            (I (IntKind.wrap .i64 (i + 1)) h_3 ∧ mu (IntKind.wrap .i64 (i + 1)) h_3 < mu i h_1))
        (fun J =>
          if (decide (j > a)) = true then
            ((0 : Int) ≤ j ∧ j < ((data_l : Nat) : Int)) ∧
            onSome data_p fun a_5 =>
            ∃ (t23 : Int), hcell h_2 (a_5.add (Int.toNat j * 1)) = some (.int .i64 t23) ∧
            ((0 : Int) ≤ IntKind.wrap .i64 (j - 1) ∧ IntKind.wrap .i64 (j - 1) < ((data_l : Nat) : Int)) ∧
            onSome data_p fun a_6 =>
            ∃ (t28 : Int), hcell h_2 (a_6.add (Int.toNat (IntKind.wrap .i64 (j - 1)) * 1)) = some (.int .i64 t28) ∧
            CallsH Try.prog F.cmp_Less_int #[.int .i64 t23, .int .i64 t28] h_2 fun v h_6 =>
            ∃ (t29 : Bool), v = .bool t29 ∧
            J t29 h_6
          else
            J false h_2)
    else
      R (.tuple #[]) h_1
theorem slices_insertionSortOrdered_int.den_eq (data_p : Option Addr) (data_l data_c : Nat) (a : Int) (b : Int) (h : Heap) (R : Value → Heap → Prop) : slices_insertionSortOrdered_int.vc data_p data_l data_c a b h R = den Try.prog Try.f78.ntmps (.seq .leaf (.block (.loop [(6, .one (.int .i64))] (.seq (.seq .leaf (.cond .leaf .leaf)) (.seq (.block (.seq .leaf (.block (.loop [(7, .one (.int .i64))] (.seq (.seq (.join [(30, .one (.bool))] (.plan (.op 0 (.op 1 (.op 2 (.op 3 (.op 4 (.op 5 (.op 6 (.op 7 (.op 8 (.op 9 (.op 10 (.op 11 (.op 12 (.op 13 (.op 14 .done))))))))))))))))) (.cond .leaf .leaf)) (.seq (.block (.plan (.op 0 (.op 1 (.op 2 (.op 3 (.op 4 (.op 5 (.op 6 (.op 7 (.op 8 (.op 9 (.op 10 (.op 11 (.op 12 (.op 13 (.op 14 (.op 15 (.op 16 (.op 17 .done)))))))))))))))))))) .leaf)))))) .leaf))))) none (bodyOf Try.f78) (retK Try.prog Try.f78.results R) (argEnv [.slice data_p data_l data_c, .int .i64 a, .int .i64 b]) h := by kernel_rfl
theorem slices_insertionSortOrdered_int.walk {data_p : Option Addr} {data_l data_c : Nat} {a : Int} {b : Int} {h : Heap} {R : Value → Heap → Prop} (hv : slices_insertionSortOrdered_int.vc data_p data_l data_c a b h R) : CallsH Try.prog F.slices_insertionSortOrdered_int #[.slice data_p data_l data_c, .int .i64 a, .int .i64 b] h R :=
  callsH_of_body _ Try.func78 rfl rfl (Eq.mp (slices_insertionSortOrdered_int.den_eq data_p data_l data_c a b h R) hv)

def slices_siftDownOrdered_int.vc (data_p : Option Addr) (data_l data_c : Nat) (lo : Int) (hi : Int) (first : Int) (h : Heap) (R : Value → Heap → Prop) : Prop :=
  ∃ (I : Int → Heap → Prop) (mu : Int → Heap → Nat), I lo h ∧ ∀ (root : Int) (h_1 : Heap), I root h_1 →
    if (decide ((IntKind.wrap .i64 ((IntKind.wrap .i64 (2 * root)) + 1)) ≥ hi)) = true then
      R (.tuple #[]) h_1
    else
      JoinP (fun (t36 : Bool) (h_2 : Heap) =>
        JoinP (fun (child : Int) (h_3 : Heap) =>
          ((0 : Int) ≤ IntKind.wrap .i64 (first + root) ∧ IntKind.wrap .i64 (first + root) < ((data_l : Nat) : Int)) ∧
          onSome data_p fun a =>
          ∃ (t44 : Int), hcell h_3 (a.add (Int.toNat (IntKind.wrap .i64 (first + root)) * 1)) = some (.int .i64 t44) ∧
          ((0 : Int) ≤ IntKind.wrap .i64 (first + child) ∧ IntKind.wrap .i64 (first + child) < ((data_l : Nat) : Int)) ∧
          onSome data_p fun a_1 =>
          ∃ (t50 : Int), hcell h_3 (a_1.add (Int.toNat (IntKind.wrap .i64 (first + child)) * 1)) = some (.int .i64 t50) ∧
          CallsH Try.prog F.cmp_Less_int #[.int .i64 t44, .int .i64 t50] h_3 fun v h_4 =>
          ∃ (t51 : Bool), v = .bool t51 ∧
          if (!t51) = true then
            R (.tuple #[]) h_4
          else
            ((0 : Int) ≤ IntKind.wrap .i64 (first + child) ∧ IntKind.wrap .i64 (first + child) < ((data_l : Nat) : Int)) ∧
            onSome data_p fun a_2 =>
            ∃ (t66 : Int), hcell h_4 (a_2.add (Int.toNat (IntKind.wrap .i64 (first + child)) * 1)) = some (.int .i64 t66) ∧
            ((0 : Int) ≤ IntKind.wrap .i64 (first + root) ∧ IntKind.wrap .i64 (first + root) < ((data_l : Nat) : Int)) ∧
            onSome data_p fun a_3 =>
            ∃ (t72 : Int), hcell h_4 (a_3.add (Int.toNat (IntKind.wrap .i64 (first + root)) * 1)) = some (.int .i64 t72) ∧
            ((0 : Int) ≤ IntKind.wrap .i64 (first + root) ∧ IntKind.wrap .i64 (first + root) < ((data_l : Nat) : Int)) ∧
            onSome data_p fun a_4 =>
            StoreP h_4 (a_4.add (Int.toNat (IntKind.wrap .i64 (first + root)) * 1)) (.int .i64 t66) fun h_5 =>
            ((0 : Int) ≤ IntKind.wrap .i64 (first + child) ∧ IntKind.wrap .i64 (first + child) < ((data_l : Nat) : Int)) ∧
            onSome data_p fun a_5 =>
            StoreP h_5 (a_5.add (Int.toNat (IntKind.wrap .i64 (first + child)) * 1)) (.int .i64 t72) fun h_6 =>
            (I child h_6 ∧ mu child h_6 < mu root h_1))
        (fun J_1 =>
          if t36 = true then
            J_1 (IntKind.wrap .i64 ((IntKind.wrap .i64 ((IntKind.wrap .i64 (2 * root)) + 1)) + 1)) h_2
          else
            J_1 (IntKind.wrap .i64 ((IntKind.wrap .i64 (2 * root)) + 1)) h_2))
      (fun J =>
        if (decide ((IntKind.wrap .i64 ((IntKind.wrap .i64 ((IntKind.wrap .i64 (2 * root)) + 1)) + 1)) < hi)) = true then
          ((0 : Int) ≤ IntKind.wrap .i64 (first + (IntKind.wrap .i64 ((IntKind.wrap .i64 (2 * root)) + 1))) ∧ IntKind.wrap .i64 (first + (IntKind.wrap .i64 ((IntKind.wrap .i64 (2 * root)) + 1))) < ((data_l : Nat) : Int)) ∧
          onSome data_p fun a_6 =>
          ∃ (t27 : Int), hcell h_1 (a_6.add (Int.toNat (IntKind.wrap .i64 (first + (IntKind.wrap .i64 ((IntKind.wrap .i64 (2 * root)) + 1)))) * 1)) = some (.int .i64 t27) ∧
          ((0 : Int) ≤ IntKind.wrap .i64 ((IntKind.wrap .i64 (first + (IntKind.wrap .i64 ((IntKind.wrap .i64 (2 * root)) + 1)))) + 1) ∧ IntKind.wrap .i64 ((IntKind.wrap .i64 (first + (IntKind.wrap .i64 ((IntKind.wrap .i64 (2 * root)) + 1)))) + 1) < ((data_l : Nat) : Int)) ∧
          onSome data_p fun a_7 =>
          ∃ (t34 : Int), hcell h_1 (a_7.add (Int.toNat (IntKind.wrap .i64 ((IntKind.wrap .i64 (first + (IntKind.wrap .i64 ((IntKind.wrap .i64 (2 * root)) + 1)))) + 1)) * 1)) = some (.int .i64 t34) ∧
          CallsH Try.prog F.cmp_Less_int #[.int .i64 t27, .int .i64 t34] h_1 fun v_1 h_7 =>
          ∃ (t35 : Bool), v_1 = .bool t35 ∧
          J t35 h_7
        else
          J false h_1)
theorem slices_siftDownOrdered_int.den_eq (data_p : Option Addr) (data_l data_c : Nat) (lo : Int) (hi : Int) (first : Int) (h : Heap) (R : Value → Heap → Prop) : slices_siftDownOrdered_int.vc data_p data_l data_c lo hi first h R = den Try.prog Try.f87.ntmps (.seq .leaf (.block (.loop [(8, .one (.int .i64))] (.block (.seq .leaf (.seq (.seq .leaf (.cond .leaf .leaf)) (.seq (.seq (.join [(36, .one (.bool))] (.plan (.op 0 (.op 1 (.op 2 (.op 3 (.op 4 (.op 5 (.op 6 (.op 7 (.op 8 (.op 9 (.op 10 (.op 11 (.op 12 (.op 13 (.op 14 (.op 15 (.op 16 (.op 17 (.op 18 (.op 19 .done)))))))))))))))))))))) (.join [(9, .one (.int .i64))] (.cond .leaf .leaf))) (.seq (.seq (.plan (.op 0 (.op 1 (.op 2 (.op 3 (.op 4 (.op 5 (.op 6 (.op 7 (.op 8 (.op 9 (.op 10 (.op 11 (.op 12 (.op 13 .done))))))))))))))) (.cond .leaf .leaf)) (.seq (.plan (.op 0 (.op 1 (.op 2 (.op 3 (.op 4 (.op 5 (.op 6 (.op 7 (.op 8 (.op 9 (.op 10 (.op 11 (.op 12 (.op 13 (.op 14 (.op 15 (.op 16 (.op 17 (.op 18 (.op 19 (.op 20 (.op 21 (.op 22 (.op 23 .done))))))))))))))))))))))))) .leaf))))))))) none (bodyOf Try.f87) (retK Try.prog Try.f87.results R) (argEnv [.slice data_p data_l data_c, .int .i64 lo, .int .i64 hi, .int .i64 first]) h := by kernel_rfl
theorem slices_siftDownOrdered_int.walk {data_p : Option Addr} {data_l data_c : Nat} {lo : Int} {hi : Int} {first : Int} {h : Heap} {R : Value → Heap → Prop} (hv : slices_siftDownOrdered_int.vc data_p data_l data_c lo hi first h R) : CallsH Try.prog F.slices_siftDownOrdered_int #[.slice data_p data_l data_c, .int .i64 lo, .int .i64 hi, .int .i64 first] h R :=
  callsH_of_body _ Try.func87 rfl rfl (Eq.mp (slices_siftDownOrdered_int.den_eq data_p data_l data_c lo hi first h R) hv)

def slices_heapSortOrdered_int.vc (data_p : Option Addr) (data_l data_c : Nat) (a : Int) (b : Int) (h : Heap) (R : Value → Heap → Prop) : Prop :=
  ∃ (I : Int → Heap → Prop) (mu : Int → Heap → Nat), I (IntKind.wrap .i64 (Int.tdiv (IntKind.wrap .i64 ((IntKind.wrap .i64 (b - a)) - 1)) 2)) h ∧ ∀ (i : Int) (h_1 : Heap), I i h_1 →
    if (decide (i ≥ 0)) = true then
      CallsH Try.prog F.slices_siftDownOrdered_int #[.slice data_p data_l data_c, .int .i64 i, .int .i64 (IntKind.wrap .i64 (b - a)), .int .i64 a] h_1 fun v h_2 =>
      v = .tuple #[] ∧
      (I (IntKind.wrap .i64 (i - 1)) h_2 ∧ mu (IntKind.wrap .i64 (i - 1)) h_2 < mu i h_1)
    else
      ∃ (I_1 : Int → Heap → Prop) (mu_1 : Int → Heap → Nat), I_1 (IntKind.wrap .i64 ((IntKind.wrap .i64 (b - a)) - 1)) h_1 ∧ ∀ (i_1 : Int) (h_3 : Heap), I_1 i_1 h_3 →
        if (decide (i_1 ≥ 0)) = true then
          ((0 : Int) ≤ IntKind.wrap .i64 (a + i_1) ∧ IntKind.wrap .i64 (a + i_1) < ((data_l : Nat) : Int)) ∧
          onSome data_p fun a_1 =>
          ∃ (t44 : Int), hcell h_3 (a_1.add (Int.toNat (IntKind.wrap .i64 (a + i_1)) * 1)) = some (.int .i64 t44) ∧
          ((0 : Int) ≤ a ∧ a < ((data_l : Nat) : Int)) ∧
          onSome data_p fun a_2 =>
          ∃ (t48 : Int), hcell h_3 (a_2.add (Int.toNat a * 1)) = some (.int .i64 t48) ∧
          ((0 : Int) ≤ a ∧ a < ((data_l : Nat) : Int)) ∧
          onSome data_p fun a_3 =>
          StoreP h_3 (a_3.add (Int.toNat a * 1)) (.int .i64 t44) fun h_4 =>
          ((0 : Int) ≤ IntKind.wrap .i64 (a + i_1) ∧ IntKind.wrap .i64 (a + i_1) < ((data_l : Nat) : Int)) ∧
          onSome data_p fun a_4 =>
          StoreP h_4 (a_4.add (Int.toNat (IntKind.wrap .i64 (a + i_1)) * 1)) (.int .i64 t48) fun h_5 =>
          CallsH Try.prog F.slices_siftDownOrdered_int #[.slice data_p data_l data_c, .int .i64 0, .int .i64 i_1, .int .i64 a] h_5 fun v_1 h_6 =>
          v_1 = .tuple #[] ∧
          (I_1 (IntKind.wrap .i64 (i_1 - 1)) h_6 ∧ mu_1 (IntKind.wrap .i64 (i_1 - 1)) h_6 < mu_1 i_1 h_3)
        else
          R (.tuple #[]) h_3
theorem slices_heapSortOrdered_int.den_eq (data_p : Option Addr) (data_l data_c : Nat) (a : Int) (b : Int) (h : Heap) (R : Value → Heap → Prop) : slices_heapSortOrdered_int.vc data_p data_l data_c a b h R = den Try.prog Try.f79.ntmps (.seq .leaf (.seq .leaf (.seq .leaf (.seq (.seq .leaf (.block (.loop [(9, .one (.int .i64))] (.seq (.seq .leaf (.cond .leaf .leaf)) (.seq (.block .leaf) .leaf))))) (.seq .leaf (.block (.loop [(10, .one (.int .i64))] (.seq (.seq .leaf (.cond .leaf .leaf)) (.seq (.block (.seq (.plan (.op 0 (.op 1 (.op 2 (.op 3 (.op 4 (.op 5 (.op 6 (.op 7 (.op 8 (.op 9 (.op 10 (.op 11 (.op 12 (.op 13 (.op 14 (.op 15 (.op 16 (.op 17 (.op 18 (.op 19 .done))))))))))))))))))))) .leaf)) .leaf))))))))) none (bodyOf Try.f79) (retK Try.prog Try.f79.results R) (argEnv [.slice data_p data_l data_c, .int .i64 a, .int .i64 b]) h := by kernel_rfl
theorem slices_heapSortOrdered_int.walk {data_p : Option Addr} {data_l data_c : Nat} {a : Int} {b : Int} {h : Heap} {R : Value → Heap → Prop} (hv : slices_heapSortOrdered_int.vc data_p data_l data_c a b h R) : CallsH Try.prog F.slices_heapSortOrdered_int #[.slice data_p data_l data_c, .int .i64 a, .int .i64 b] h R :=
  callsH_of_body _ Try.func79 rfl rfl (Eq.mp (slices_heapSortOrdered_int.den_eq data_p data_l data_c a b h R) hv)

def slices_breakPatternsOrdered_int.vc (data_p : Option Addr) (data_l data_c : Nat) (a : Int) (b : Int) (h : Heap) (R : Value → Heap → Prop) : Prop :=
  if (decide ((IntKind.wrap .i64 (b - a)) ≥ 8)) = true then
    NewP h (.cells #[.int .u64 0] T.slices_xorshift) fun b_1 h_1 =>
    StoreP h_1 ⟨b_1, 0, none⟩ (.int .u64 (IntKind.wrap .u64 (IntKind.wrap .i64 (b - a)))) fun h_2 =>
    CallsH Try.prog F.slices_nextPowerOfTwo #[.int .i64 (IntKind.wrap .i64 (b - a))] h_2 fun v h_3 =>
    ∃ (t19 : Int), v = .int .u64 t19 ∧
    ∃ (I : Int → Heap → Prop) (mu : Int → Heap → Nat), I (IntKind.wrap .i64 ((IntKind.wrap .i64 (a + (IntKind.wrap .i64 ((IntKind.wrap .i64 (Int.tdiv (IntKind.wrap .i64 (b - a)) 4)) * 2)))) - 1)) h_3 ∧ ∀ (idx : Int) (h_4 : Heap), I idx h_4 →
      if (decide (idx ≤ (IntKind.wrap .i64 ((IntKind.wrap .i64 (a + (IntKind.wrap .i64 ((IntKind.wrap .i64 (Int.tdiv (IntKind.wrap .i64 (b - a)) 4)) * 2)))) + 1)))) = true then
        CallsH Try.prog F.slices_xorshift_Next #[.pointer (some ⟨b_1, 0, none⟩)] h_4 fun v_1 h_5 =>
        ∃ (t36 : Int), v_1 = .int .u64 t36 ∧
        JoinP (fun (other : Int) (h_6 : Heap) =>
          ((0 : Int) ≤ IntKind.wrap .i64 (a + other) ∧ IntKind.wrap .i64 (a + other) < ((data_l : Nat) : Int)) ∧
          onSome data_p fun a_1 =>
          ∃ (t58 : Int), hcell h_6 (a_1.add (Int.toNat (IntKind.wrap .i64 (a + other)) * 1)) = some (.int .i64 t58) ∧
          ((0 : Int) ≤ idx ∧ idx < ((data_l : Nat) : Int)) ∧
          onSome data_p fun a_2 =>
          ∃ (t62 : Int), hcell h_6 (a_2.add (Int.toNat idx * 1)) = some (.int .i64 t62) ∧
          ((0 : Int) ≤ idx ∧ idx < ((data_l : Nat) : Int)) ∧
          onSome data_p fun a_3 =>
          StoreP h_6 (a_3.add (Int.toNat idx * 1)) (.int .i64 t58) fun h_7 =>
          ((0 : Int) ≤ IntKind.wrap .i64 (a + other) ∧ IntKind.wrap .i64 (a + other) < ((data_l : Nat) : Int)) ∧
          onSome data_p fun a_4 =>
          StoreP h_7 (a_4.add (Int.toNat (IntKind.wrap .i64 (a + other)) * 1)) (.int .i64 t62) fun h_8 =>
          (I (IntKind.wrap .i64 (idx + 1)) h_8 ∧ mu (IntKind.wrap .i64 (idx + 1)) h_8 < mu idx h_4))
        (fun J =>
          if (decide ((IntKind.wrap .i64 (IntKind.wrap .u64 ((BitVec.ofInt (IntKind.bits .u64) t36 &&& BitVec.ofInt (IntKind.bits .u64) (IntKind.wrap .u64 (t19 - 1))).toNat : Int))) ≥ (IntKind.wrap .i64 (b - a)))) = true then
            J (IntKind.wrap .i64 ((IntKind.wrap .i64 (IntKind.wrap .u64 ((BitVec.ofInt (IntKind.bits .u64) t36 &&& BitVec.ofInt (IntKind.bits .u64) (IntKind.wrap .u64 (t19 - 1))).toNat : Int))) - (IntKind.wrap .i64 (b - a)))) h_5
          else
            J (IntKind.wrap .i64 (IntKind.wrap .u64 ((BitVec.ofInt (IntKind.bits .u64) t36 &&& BitVec.ofInt (IntKind.bits .u64) (IntKind.wrap .u64 (t19 - 1))).toNat : Int))) h_5)
      else
        R (.tuple #[]) h_4
  else
    R (.tuple #[]) h
theorem slices_breakPatternsOrdered_int.den_eq (data_p : Option Addr) (data_l data_c : Nat) (a : Int) (b : Int) (h : Heap) (R : Value → Heap → Prop) : slices_breakPatternsOrdered_int.vc data_p data_l data_c a b h R = den Try.prog Try.f80.ntmps (.seq .leaf (.seq .leaf (.cond (.seq .leaf (.seq .leaf (.seq .leaf (.block (.loop [(9, .one (.int .i64))] (.seq (.seq .leaf (.cond .leaf .leaf)) (.seq (.block (.seq .leaf (.seq (.seq .leaf (.join [(10, .one (.int .i64))] (.cond .leaf .leaf))) (.plan (.op 0 (.op 1 (.op 2 (.op 3 (.op 4 (.op 5 (.op 6 (.op 7 (.op 8 (.op 9 (.op 10 (.op 11 (.op 12 (.op 13 (.op 14 (.op 15 (.op 16 (.op 17 (.op 18 (.op 19 .done)))))))))))))))))))))))) .leaf))))))) .leaf))) none (bodyOf Try.f80) (retK Try.prog Try.f80.results R) (argEnv [.slice data_p data_l data_c, .int .i64 a, .int .i64 b]) h := by kernel_rfl
theorem slices_breakPatternsOrdered_int.walk {data_p : Option Addr} {data_l data_c : Nat} {a : Int} {b : Int} {h : Heap} {R : Value → Heap → Prop} (hv : slices_breakPatternsOrdered_int.vc data_p data_l data_c a b h R) : CallsH Try.prog F.slices_breakPatternsOrdered_int #[.slice data_p data_l data_c, .int .i64 a, .int .i64 b] h R :=
  callsH_of_body _ Try.func80 rfl rfl (Eq.mp (slices_breakPatternsOrdered_int.den_eq data_p data_l data_c a b h R) hv)

def slices_order2Ordered_int.vc (data_p : Option Addr) (data_l data_c : Nat) (a : Int) (b : Int) (swaps : Nat) (h : Heap) (R : Value → Heap → Prop) : Prop :=
  ((0 : Int) ≤ b ∧ b < ((data_l : Nat) : Int)) ∧
  onSome data_p fun a_1 =>
  ∃ (t13 : Int), hcell h (a_1.add (Int.toNat b * 1)) = some (.int .i64 t13) ∧
  ((0 : Int) ≤ a ∧ a < ((data_l : Nat) : Int)) ∧
  onSome data_p fun a_2 =>
  ∃ (t17 : Int), hcell h (a_2.add (Int.toNat a * 1)) = some (.int .i64 t17) ∧
  CallsH Try.prog F.cmp_Less_int #[.int .i64 t13, .int .i64 t17] h fun v h_1 =>
  ∃ (t18 : Bool), v = .bool t18 ∧
  if t18 = true then
    ∃ (t21 : Int), hcell h_1 ⟨swaps, 0, none⟩ = some (.int .i64 t21) ∧
    StoreP h_1 ⟨swaps, 0, none⟩ (.int .i64 (IntKind.wrap .i64 (t21 + 1))) fun h_2 =>
    R (.tuple #[.int .i64 b, .int .i64 a]) h_2
  else
    R (.tuple #[.int .i64 a, .int .i64 b]) h_1
theorem slices_order2Ordered_int.den_eq (data_p : Option Addr) (data_l data_c : Nat) (a : Int) (b : Int) (swaps : Nat) (h : Heap) (R : Value → Heap → Prop) : slices_order2Ordered_int.vc data_p data_l data_c a b swaps h R = den Try.prog Try.f91.ntmps (.seq .leaf (.seq (.seq (.plan (.op 0 (.op 1 (.op 2 (.op 3 (.op 4 (.op 5 (.op 6 (.op 7 (.op 8 .done)))))))))) (.cond (.seq .leaf (.seq .leaf .leaf)) .leaf)) (.seq .leaf .leaf))) none (bodyOf Try.f91) (retK Try.prog Try.f91.results R) (argEnv [.slice data_p data_l data_c, .int .i64 a, .int .i64 b, .pointer (some ⟨swaps, 0, none⟩)]) h := by kernel_rfl
theorem slices_order2Ordered_int.walk {data_p : Option Addr} {data_l data_c : Nat} {a : Int} {b : Int} {swaps : Nat} {h : Heap} {R : Value → Heap → Prop} (hv : slices_order2Ordered_int.vc data_p data_l data_c a b swaps h R) : CallsH Try.prog F.slices_order2Ordered_int #[.slice data_p data_l data_c, .int .i64 a, .int .i64 b, .pointer (some ⟨swaps, 0, none⟩)] h R :=
  callsH_of_body _ Try.func91 rfl rfl (Eq.mp (slices_order2Ordered_int.den_eq data_p data_l data_c a b swaps h R) hv)

def slices_medianOrdered_int.vc (data_p : Option Addr) (data_l data_c : Nat) (a : Int) (b : Int) (c : Int) (swaps : Nat) (h : Heap) (R : Value → Heap → Prop) : Prop :=
  CallsH Try.prog F.slices_order2Ordered_int #[.slice data_p data_l data_c, .int .i64 a, .int .i64 b, .pointer (some ⟨swaps, 0, none⟩)] h fun v h_1 =>
  ∃ (t16_0 : Int), ∃ (t16_1 : Int), v = .tuple #[.int .i64 t16_0, .int .i64 t16_1] ∧
  CallsH Try.prog F.slices_order2Ordered_int #[.slice data_p data_l data_c, .int .i64 t16_1, .int .i64 c, .pointer (some ⟨swaps, 0, none⟩)] h_1 fun v_1 h_2 =>
  ∃ (t24_0 : Int), ∃ (t24_1 : Int), v_1 = .tuple #[.int .i64 t24_0, .int .i64 t24_1] ∧
  CallsH Try.prog F.slices_order2Ordered_int #[.slice data_p data_l data_c, .int .i64 t16_0, .int .i64 t24_0, .pointer (some ⟨swaps, 0, none⟩)] h_2 fun v_2 h_3 =>
  ∃ (t32_0 : Int), ∃ (t32_1 : Int), v_2 = .tuple #[.int .i64 t32_0, .int .i64 t32_1] ∧
  R (.int .i64 t32_1) h_3
theorem slices_medianOrdered_int.den_eq (data_p : Option Addr) (data_l data_c : Nat) (a : Int) (b : Int) (c : Int) (swaps : Nat) (h : Heap) (R : Value → Heap → Prop) : slices_medianOrdered_int.vc data_p data_l data_c a b c swaps h R = den Try.prog Try.f89.ntmps (.seq .leaf (.seq .leaf (.seq .leaf (.seq .leaf (.seq .leaf .leaf))))) none (bodyOf Try.f89) (retK Try.prog Try.f89.results R) (argEnv [.slice data_p data_l data_c, .int .i64 a, .int .i64 b, .int .i64 c, .pointer (some ⟨swaps, 0, none⟩)]) h := by kernel_rfl
theorem slices_medianOrdered_int.walk {data_p : Option Addr} {data_l data_c : Nat} {a : Int} {b : Int} {c : Int} {swaps : Nat} {h : Heap} {R : Value → Heap → Prop} (hv : slices_medianOrdered_int.vc data_p data_l data_c a b c swaps h R) : CallsH Try.prog F.slices_medianOrdered_int #[.slice data_p data_l data_c, .int .i64 a, .int .i64 b, .int .i64 c, .pointer (some ⟨swaps, 0, none⟩)] h R :=
  callsH_of_body _ Try.func89 rfl rfl (Eq.mp (slices_medianOrdered_int.den_eq data_p data_l data_c a b c swaps h R) hv)

def slices_medianAdjacentOrdered_int.vc (data_p : Option Addr) (data_l data_c : Nat) (a : Int) (swaps : Nat) (h : Heap) (R : Value → Heap → Prop) : Prop :=
  CallsH Try.prog F.slices_medianOrdered_int #[.slice data_p data_l data_c, .int .i64 (IntKind.wrap .i64 (a - 1)), .int .i64 a, .int .i64 (IntKind.wrap .i64 (a + 1)), .pointer (some ⟨swaps, 0, none⟩)] h fun v h_1 =>
  ∃ (t14 : Int), v = .int .i64 t14 ∧
  R (.int .i64 t14) h_1
theorem slices_medianAdjacentOrdered_int.den_eq (data_p : Option Addr) (data_l data_c : Nat) (a : Int) (swaps : Nat) (h : Heap) (R : Value → Heap → Prop) : slices_medianAdjacentOrdered_int.vc data_p data_l data_c a swaps h R = den Try.prog Try.f88.ntmps (.seq .leaf (.seq .leaf .leaf)) none (bodyOf Try.f88) (retK Try.prog Try.f88.results R) (argEnv [.slice data_p data_l data_c, .int .i64 a, .pointer (some ⟨swaps, 0, none⟩)]) h := by kernel_rfl
theorem slices_medianAdjacentOrdered_int.walk {data_p : Option Addr} {data_l data_c : Nat} {a : Int} {swaps : Nat} {h : Heap} {R : Value → Heap → Prop} (hv : slices_medianAdjacentOrdered_int.vc data_p data_l data_c a swaps h R) : CallsH Try.prog F.slices_medianAdjacentOrdered_int #[.slice data_p data_l data_c, .int .i64 a, .pointer (some ⟨swaps, 0, none⟩)] h R :=
  callsH_of_body _ Try.func88 rfl rfl (Eq.mp (slices_medianAdjacentOrdered_int.den_eq data_p data_l data_c a swaps h R) hv)

def slices_choosePivotOrdered_int.vc (data_p : Option Addr) (data_l data_c : Nat) (a : Int) (b : Int) (h : Heap) (R : Value → Heap → Prop) : Prop :=
  NewP h (.cells #[.int .i64 0] T.int) fun b_1 h_1 =>
  JoinP (fun (j : Int) (h_2 : Heap) =>
    ∃ (t49 : Int), hcell h_2 ⟨b_1, 0, none⟩ = some (.int .i64 t49) ∧
    if (t49 == 0) = true then
      R (.tuple #[.int .i64 j, .int .i64 1]) h_2
    else
      if (t49 == 12) = true then
        R (.tuple #[.int .i64 j, .int .i64 2]) h_2
      else
        R (.tuple #[.int .i64 j, .int .i64 0]) h_2)
  (fun J =>
    if (decide ((IntKind.wrap .i64 (b - a)) ≥ 8)) = true then
      JoinP (fun (i : Int) (j_1 : Int) (k : Int) (h_3 : Heap) =>
        CallsH Try.prog F.slices_medianOrdered_int #[.slice data_p data_l data_c, .int .i64 i, .int .i64 j_1, .int .i64 k, .pointer (some ⟨b_1, 0, none⟩)] h_3 fun v h_4 =>
        ∃ (t48 : Int), v = .int .i64 t48 ∧
        J t48 h_4)
      (fun J_1 =>
        if (decide ((IntKind.wrap .i64 (b - a)) ≥ 50)) = true then
          CallsH Try.prog F.slices_medianAdjacentOrdered_int #[.slice data_p data_l data_c, .int .i64 (IntKind.wrap .i64 (a + (IntKind.wrap .i64 ((IntKind.wrap .i64 (Int.tdiv (IntKind.wrap .i64 (b - a)) 4)) * 1)))), .pointer (some ⟨b_1, 0, none⟩)] h_1 fun v_1 h_5 =>
          ∃ (t37 : Int), v_1 = .int .i64 t37 ∧
          CallsH Try.prog F.slices_medianAdjacentOrdered_int #[.slice data_p data_l data_c, .int .i64 (IntKind.wrap .i64 (a + (IntKind.wrap .i64 ((IntKind.wrap .i64 (Int.tdiv (IntKind.wrap .i64 (b - a)) 4)) * 2)))), .pointer (some ⟨b_1, 0, none⟩)] h_5 fun v_2 h_6 =>
          ∃ (t40 : Int), v_2 = .int .i64 t40 ∧
          CallsH Try.prog F.slices_medianAdjacentOrdered_int #[.slice data_p data_l data_c, .int .i64 (IntKind.wrap .i64 (a + (IntKind.wrap .i64 ((IntKind.wrap .i64 (Int.tdiv (IntKind.wrap .i64 (b - a)) 4)) * 3)))), .pointer (some ⟨b_1, 0, none⟩)] h_6 fun v_3 h_7 =>
          ∃ (t43 : Int), v_3 = .int .i64 t43 ∧
          J_1 t37 t40 t43 h_7
        else
          J_1 (IntKind.wrap .i64 (a + (IntKind.wrap .i64 ((IntKind.wrap .i64 (Int.tdiv (IntKind.wrap .i64 (b - a)) 4)) * 1)))) (IntKind.wrap .i64 (a + (IntKind.wrap .i64 ((IntKind.wrap .i64 (Int.tdiv (IntKind.wrap .i64 (b - a)) 4)) * 2)))) (IntKind.wrap .i64 (a + (IntKind.wrap .i64 ((IntKind.wrap .i64 (Int.tdiv (IntKind.wrap .i64 (b - a)) 4)) * 3)))) h_1)
    else
      J (IntKind.wrap .i64 (a + (IntKind.wrap .i64 ((IntKind.wrap .i64 (Int.tdiv (IntKind.wrap .i64 (b - a)) 4)) * 2)))) h_1)
theorem slices_choosePivotOrdered_int.den_eq (data_p : Option Addr) (data_l data_c : Nat) (a : Int) (b : Int) (h : Heap) (R : Value → Heap → Prop) : slices_choosePivotOrdered_int.vc data_p data_l data_c a b h R = den Try.prog Try.f81.ntmps (.seq .leaf (.seq .leaf (.seq .leaf (.seq .leaf (.seq .leaf (.seq .leaf (.seq (.seq .leaf (.join [(11, .one (.int .i64))] (.cond (.seq (.seq .leaf (.join [(10, .one (.int .i64)), (11, .one (.int .i64)), (12, .one (.int .i64))] (.cond (.seq .leaf (.seq .leaf .leaf)) .leaf))) .leaf) .leaf))) (.seq .leaf (.block (.seq .leaf (.cond (.seq .leaf .leaf) (.seq .leaf (.cond (.seq .leaf .leaf) (.seq .leaf .leaf)))))))))))))) none (bodyOf Try.f81) (retK Try.prog Try.f81.results R) (argEnv [.slice data_p data_l data_c, .int .i64 a, .int .i64 b]) h := by kernel_rfl
theorem slices_choosePivotOrdered_int.walk {data_p : Option Addr} {data_l data_c : Nat} {a : Int} {b : Int} {h : Heap} {R : Value → Heap → Prop} (hv : slices_choosePivotOrdered_int.vc data_p data_l data_c a b h R) : CallsH Try.prog F.slices_choosePivotOrdered_int #[.slice data_p data_l data_c, .int .i64 a, .int .i64 b] h R :=
  callsH_of_body _ Try.func81 rfl rfl (Eq.mp (slices_choosePivotOrdered_int.den_eq data_p data_l data_c a b h R) hv)

def slices_reverseRangeOrdered_int.vc (data_p : Option Addr) (data_l data_c : Nat) (a : Int) (b : Int) (h : Heap) (R : Value → Heap → Prop) : Prop :=
  ∃ (I : Int → Int → Heap → Prop) (mu : Int → Int → Heap → Nat), I a (IntKind.wrap .i64 (b - 1)) h ∧ ∀ (i : Int) (j : Int) (h_1 : Heap), I i j h_1 →
    if (decide (i < j)) = true then
      ((0 : Int) ≤ j ∧ j < ((data_l : Nat) : Int)) ∧
      onSome data_p fun a_1 =>
      ∃ (t21 : Int), hcell h_1 (a_1.add (Int.toNat j * 1)) = some (.int .i64 t21) ∧
      ((0 : Int) ≤ i ∧ i < ((data_l : Nat) : Int)) ∧
      onSome data_p fun a_2 =>
      ∃ (t25 : Int), hcell h_1 (a_2.add (Int.toNat i * 1)) = some (.int .i64 t25) ∧
      ((0 : Int) ≤ i ∧ i < ((data_l : Nat) : Int)) ∧
      onSome data_p fun a_3 =>
      StoreP h_1 (a_3.add (Int.toNat i * 1)) (.int .i64 t21) fun h_2 =>
      ((0 : Int) ≤ j ∧ j < ((data_l : Nat) : Int)) ∧
      onSome data_p fun a_4 =>
      StoreP h_2 (a_4.add (Int.toNat j * 1)) (.int .i64 t25) fun h_3 =>
      (I (IntKind.wrap .i64 (i + 1)) (IntKind.wrap .i64 (j - 1)) h_3 ∧ mu (IntKind.wrap .i64 (i + 1)) (IntKind.wrap .i64 (j - 1)) h_3 < mu i j h_1)
    else
      R (.tuple #[]) h_1
theorem slices_reverseRangeOrdered_int.den_eq (data_p : Option Addr) (data_l data_c : Nat) (a : Int) (b : Int) (h : Heap) (R : Value → Heap → Prop) : slices_reverseRangeOrdered_int.vc data_p data_l data_c a b h R = den Try.prog Try.f82.ntmps (.seq .leaf (.seq .leaf (.block (.loop [(6, .one (.int .i64)), (7, .one (.int .i64))] (.seq (.seq .leaf (.cond .leaf .leaf)) (.block (.seq (.plan (.op 0 (.op 1 (.op 2 (.op 3 (.op 4 (.op 5 (.op 6 (.op 7 (.op 8 (.op 9 (.op 10 (.op 11 (.op 12 (.op 13 (.op 14 (.op 15 .done))))))))))))))))) (.seq .leaf .leaf)))))))) none (bodyOf Try.f82) (retK Try.prog Try.f82.results R) (argEnv [.slice data_p data_l data_c, .int .i64 a, .int .i64 b]) h := by kernel_rfl
theorem slices_reverseRangeOrdered_int.walk {data_p : Option Addr} {data_l data_c : Nat} {a : Int} {b : Int} {h : Heap} {R : Value → Heap → Prop} (hv : slices_reverseRangeOrdered_int.vc data_p data_l data_c a b h R) : CallsH Try.prog F.slices_reverseRangeOrdered_int #[.slice data_p data_l data_c, .int .i64 a, .int .i64 b] h R :=
  callsH_of_body _ Try.func82 rfl rfl (Eq.mp (slices_reverseRangeOrdered_int.den_eq data_p data_l data_c a b h R) hv)

def slices_partialInsertionSortOrdered_int.vc (data_p : Option Addr) (data_l data_c : Nat) (a : Int) (b : Int) (h : Heap) (R : Value → Heap → Prop) : Prop :=
  ∃ (I : Int → Int → Heap → Prop) (mu : Int → Int → Heap → Nat), I (IntKind.wrap .i64 (a + 1)) 0 h ∧ ∀ (i : Int) (j : Int) (h_1 : Heap), I i j h_1 →
    if (decide (j < 5)) = true then
      JoinP (fun (i_1 : Int) (h_2 : Heap) =>
        (I i_1 (IntKind.wrap .i64 (j + 1)) h_2 ∧ mu i_1 (IntKind.wrap .i64 (j + 1)) h_2 < mu i j h_1))
      (fun J =>
        ∃ (I_1 : Int → Heap → Prop) (mu_1 : Int → Heap → Nat), I_1 i h_1 ∧ ∀ (i_2 : Int) (h_3 : Heap), I_1 i_2 h_3 →
          JoinP (fun (t32 : Bool) (h_4 : Heap) =>
            if t32 = true then
              (I_1 (IntKind.wrap .i64 (i_2 + 1)) h_4 ∧ mu_1 (IntKind.wrap .i64 (i_2 + 1)) h_4 < mu_1 i_2 h_3)
            else
              if (i_2 == b) = true then
                R (.bool true) h_4
              else
                if (decide ((IntKind.wrap .i64 (b - a)) < 50)) = true then
                  R (.bool false) h_4
                else
                  ((0 : Int) ≤ IntKind.wrap .i64 (i_2 - 1) ∧ IntKind.wrap .i64 (i_2 - 1) < ((data_l : Nat) : Int)) ∧
                  onSome data_p fun a_1 =>
                  ∃ (t51 : Int), hcell h_4 (a_1.add (Int.toNat (IntKind.wrap .i64 (i_2 - 1)) * 1)) = some (.int .i64 t51) ∧
                  ((0 : Int) ≤ i_2 ∧ i_2 < ((data_l : Nat) : Int)) ∧
                  onSome data_p fun a_2 =>
                  ∃ (t55 : Int), hcell h_4 (a_2.add (Int.toNat i_2 * 1)) = some (.int .i64 t55) ∧
                  ((0 : Int) ≤ i_2 ∧ i_2 < ((data_l : Nat) : Int)) ∧
                  onSome data_p fun a_3 =>
                  StoreP h_4 (a_3.add (Int.toNat i_2 * 1)) (.int .i64 t51) fun h_5 =>
                  ((0 : Int) ≤ IntKind.wrap .i64 (i_2 - 1) ∧ IntKind.wrap .i64 (i_2 - 1) < ((data_l : Nat) : Int)) ∧
                  onSome data_p fun a_4 =>
                  StoreP h_5 (a_4.add (Int.toNat (IntKind.wrap .i64 (i_2 - 1)) * 1)) (.int .i64 t55) fun h_6 =>
                  JoinP (fun (h_7 : Heap) =>
                    JoinP (fun (h_8 : Heap) =>
                      J i_2 h_8)
                    (fun J_3 =>
                      if (decide ((IntKind.wrap .i64 (b - i_2)) ≥ 2)) = true then
                        JoinP (fun (h_9 : Heap) =>
                          J_3 h_9)
                        (fun J_4 =>
                          ∃ (I_2 : Int → Heap → Prop) (mu_2 : Int → Heap → Nat), I_2 (IntKind.wrap .i64 (i_2 + 1)) h_7 ∧ ∀ (j_1 : Int) (h_10 : Heap), I_2 j_1 h_10 →
                            if (decide (j_1 < b)) = true then
                              ((0 : Int) ≤ j_1 ∧ j_1 < ((data_l : Nat) : Int)) ∧
                              onSome data_p fun a_5 =>
                              ∃ (t109 : Int), hcell h_10 (a_5.add (Int.toNat j_1 * 1)) = some (.int .i64 t109) ∧
                              ((0 : Int) ≤ IntKind.wrap .i64 (j_1 - 1) ∧ IntKind.wrap .i64 (j_1 - 1) < ((data_l : Nat) : Int)) ∧
                              onSome data_p fun a_6 =>
                              ∃ (t114 : Int), hcell h_10 (a_6.add (Int.toNat (IntKind.wrap .i64 (j_1 - 1)) * 1)) = some (.int .i64 t114) ∧
                              CallsH Try.prog F.cmp_Less_int #[.int .i64 t109, .int .i64 t114] h_10 fun v h_11 =>
                              ∃ (t115 : Bool), v = .bool t115 ∧
                              if (!t115) = true then
                                J_4 h_11
                              else
                                ((0 : Int) ≤ IntKind.wrap .i64 (j_1 - 1) ∧ IntKind.wrap .i64 (j_1 - 1) < ((data_l : Nat) : Int)) ∧
                                onSome data_p fun a_7 =>
                                ∃ (t126 : Int), hcell h_11 (a_7.add (Int.toNat (IntKind.wrap .i64 (j_1 - 1)) * 1)) = some (.int .i64 t126) ∧
                                ((0 : Int) ≤ j_1 ∧ j_1 < ((data_l : Nat) : Int)) ∧
                                onSome data_p fun a_8 =>
                                ∃ (t130 : Int), hcell h_11 (a_8.add (Int.toNat j_1 * 1)) = some (.int .i64 t130) ∧
                                ((0 : Int) ≤ j_1 ∧ j_1 < ((data_l : Nat) : Int)) ∧
                                onSome data_p fun a_9 =>
                                StoreP h_11 (a_9.add (Int.toNat j_1 * 1)) (.int .i64 t126) fun h_12 =>
                                ((0 : Int) ≤ IntKind.wrap .i64 (j_1 - 1) ∧ IntKind.wrap .i64 (j_1 - 1) < ((data_l : Nat) : Int)) ∧
                                onSome data_p fun a_10 =>
                                StoreP h_12 (a_10.add (Int.toNat (IntKind.wrap .i64 (j_1 - 1)) * 1)) (.int .i64 t130) fun h_13 =>
                                (I_2 (IntKind.wrap .i64 (j_1 + 1)) h_13 ∧ mu_2 (IntKind.wrap .i64 (j_1 + 1)) h_13 < mu_2 j_1 h_10)
                            else
                              J_4 h_10)
                      else
                        J_3 h_7))
                  (fun J_2 =>
                    if (decide ((IntKind.wrap .i64 (i_2 - a)) ≥ 2)) = true then
                      JoinP (fun (h_14 : Heap) =>
                        J_2 h_14)
                      (fun J_5 =>
                        ∃ (I_3 : Int → Heap → Prop) (mu_3 : Int → Heap → Nat), I_3 (IntKind.wrap .i64 (i_2 - 1)) h_6 ∧ ∀ (j_2 : Int) (h_15 : Heap), I_3 j_2 h_15 →
                          if (decide (j_2 ≥ 1)) = true then
                            ((0 : Int) ≤ j_2 ∧ j_2 < ((data_l : Nat) : Int)) ∧
                            onSome data_p fun a_11 =>
                            ∃ (t71 : Int), hcell h_15 (a_11.add (Int.toNat j_2 * 1)) = some (.int .i64 t71) ∧
                            ((0 : Int) ≤ IntKind.wrap .i64 (j_2 - 1) ∧ IntKind.wrap .i64 (j_2 - 1) < ((data_l : Nat) : Int)) ∧
                            onSome data_p fun a_12 =>
                            ∃ (t76 : Int), hcell h_15 (a_12.add (Int.toNat (IntKind.wrap .i64 (j_2 - 1)) * 1)) = some (.int .i64 t76) ∧
                            CallsH Try.prog F.cmp_Less_int #[.int .i64 t71, .int .i64 t76] h_15 fun v_1 h_16 =>
                            ∃ (t77 : Bool), v_1 = .bool t77 ∧
                            if (!t77) = true then
                              J_5 h_16
                            else
                              ((0 : Int) ≤ IntKind.wrap .i64 (j_2 - 1) ∧ IntKind.wrap .i64 (j_2 - 1) < ((data_l : Nat) : Int)) ∧
                              onSome data_p fun a_13 =>
                              ∃ (t88 : Int), hcell h_16 (a_13.add (Int.toNat (IntKind.wrap .i64 (j_2 - 1)) * 1)) = some (.int .i64 t88) ∧
                              ((0 : Int) ≤ j_2 ∧ j_2 < ((data_l : Nat) : Int)) ∧
                              onSome data_p fun a_14 =>
                              ∃ (t92 : Int), hcell h_16 (a_14.add (Int.toNat j_2 * 1)) = some (.int .i64 t92) ∧
                              ((0 : Int) ≤ j_2 ∧ j_2 < ((data_l : Nat) : Int)) ∧
                              onSome data_p fun a_15 =>
                              StoreP h_16 (a_15.add (Int.toNat j_2 * 1)) (.int .i64 t88) fun h_17 =>
                              ((0 : Int) ≤ IntKind.wrap .i64 (j_2 - 1) ∧ IntKind.wrap .i64 (j_2 - 1) < ((data_l : Nat) : Int)) ∧
                              onSome data_p fun a_16 =>
                              StoreP h_17 (a_16.add (Int.toNat (IntKind.wrap .i64 (j_2 - 1)) * 1)) (.int .i64 t92) fun h_18 =>
                              (I_3 (IntKind.wrap .i64 (j_2 - 1)) h_18 ∧ mu_3 (IntKind.wrap .i64 (j_2 - 1)) h_18 < mu_3 j_2 h_15)
                          else
                            J_5 h_15)
                    else
                      J_2 h_6))
          (fun J_1 =>
            if (decide (i_2 < b)) = true then
              ((0 : Int) ≤ i_2 ∧ i_2 < ((data_l : Nat) : Int)) ∧
              onSome data_p fun a_17 =>
              ∃ (t24 : Int), hcell h_3 (a_17.add (Int.toNat i_2 * 1)) = some (.int .i64 t24) ∧
              ((0 : Int) ≤ IntKind.wrap .i64 (i_2 - 1) ∧ IntKind.wrap .i64 (i_2 - 1) < ((data_l : Nat) : Int)) ∧
              onSome data_p fun a_18 =>
              ∃ (t29 : Int), hcell h_3 (a_18.add (Int.toNat (IntKind.wrap .i64 (i_2 - 1)) * 1)) = some (.int .i64 t29) ∧
              CallsH Try.prog F.cmp_Less_int #[.int .i64 t24, .int .i64 t29] h_3 fun v_2 h_19 =>
              ∃ (t30 : Bool), v_2 = .bool t30 ∧
              J_1 (!t30) h_19
            else
              J_1 false h_3))
    else
      R (.bool false) h_1
theorem slices_partialInsertionSortOrdered_int.den_eq (data_p : Option Addr) (data_l data_c : Nat) (a : Int) (b : Int) (h : Heap) (R : Value → Heap → Prop) : slices_partialInsertionSortOrdered_int.vc data_p data_l data_c a b h R = den Try.prog Try.f83.ntmps (.seq .leaf (.seq .leaf (.seq (.seq .leaf (.block (.loop [(7, .one (.int .i64)), (8, .one (.int .i64))] (.seq (.seq .leaf (.cond .leaf .leaf)) (.seq (.join [(7, .one (.int .i64))] (.block (.seq (.block (.loop [(7, .one (.int .i64))] (.seq (.seq (.join [(32, .one (.bool))] (.plan (.op 0 (.op 1 (.op 2 (.op 3 (.op 4 (.op 5 (.op 6 (.op 7 (.op 8 (.op 9 (.op 10 (.op 11 (.op 12 (.op 13 (.op 14 (.op 15 .done)))))))))))))))))) (.cond .leaf .leaf)) (.block .leaf)))) (.seq (.seq .leaf (.cond (.seq .leaf .leaf) .leaf)) (.seq (.seq .leaf (.cond (.seq .leaf .leaf) .leaf)) (.seq (.plan (.op 0 (.op 1 (.op 2 (.op 3 (.op 4 (.op 5 (.op 6 (.op 7 (.op 8 (.op 9 (.op 10 (.op 11 (.op 12 (.op 13 (.op 14 (.op 15 (.op 16 (.op 17 .done))))))))))))))))))) (.seq (.seq .leaf (.join [] (.cond (.seq .leaf (.join [] (.block (.loop [(9, .one (.int .i64))] (.seq (.seq .leaf (.cond .leaf .leaf)) (.seq (.block (.seq (.seq (.plan (.op 0 (.op 1 (.op 2 (.op 3 (.op 4 (.op 5 (.op 6 (.op 7 (.op 8 (.op 9 (.op 10 .done)))))))))))) (.cond .leaf .leaf)) (.plan (.op 0 (.op 1 (.op 2 (.op 3 (.op 4 (.op 5 (.op 6 (.op 7 (.op 8 (.op 9 (.op 10 (.op 11 (.op 12 (.op 13 (.op 14 (.op 15 (.op 16 (.op 17 .done))))))))))))))))))))) .leaf)))))) .leaf))) (.seq .leaf (.join [] (.cond (.seq .leaf (.join [] (.block (.loop [(10, .one (.int .i64))] (.seq (.seq .leaf (.cond .leaf .leaf)) (.seq (.block (.seq (.seq (.plan (.op 0 (.op 1 (.op 2 (.op 3 (.op 4 (.op 5 (.op 6 (.op 7 (.op 8 (.op 9 (.op 10 .done)))))))))))) (.cond .leaf .leaf)) (.plan (.op 0 (.op 1 (.op 2 (.op 3 (.op 4 (.op 5 (.op 6 (.op 7 (.op 8 (.op 9 (.op 10 (.op 11 (.op 12 (.op 13 (.op 14 (.op 15 (.op 16 (.op 17 .done))))))))))))))))))))) .leaf)))))) .leaf)))))))))) .leaf))))) (.seq .leaf .leaf)))) none (bodyOf Try.f83) (retK Try.prog Try.f83.results R) (argEnv [.slice data_p data_l data_c, .int .i64 a, .int .i64 b]) h := by kernel_rfl
theorem slices_partialInsertionSortOrdered_int.walk {data_p : Option Addr} {data_l data_c : Nat} {a : Int} {b : Int} {h : Heap} {R : Value → Heap → Prop} (hv : slices_partialInsertionSortOrdered_int.vc data_p data_l data_c a b h R) : CallsH Try.prog F.slices_partialInsertionSortOrdered_int #[.slice data_p data_l data_c, .int .i64 a, .int .i64 b] h R :=
  callsH_of_body _ Try.func83 rfl rfl (Eq.mp (slices_partialInsertionSortOrdered_int.den_eq data_p data_l data_c a b h R) hv)

def slices_partitionEqualOrdered_int.vc (data_p : Option Addr) (data_l data_c : Nat) (a : Int) (b : Int) (pivot : Int) (h : Heap) (R : Value → Heap → Prop) : Prop :=
  ((0 : Int) ≤ pivot ∧ pivot < ((data_l : Nat) : Int)) ∧
  onSome data_p fun a_1 =>
  ∃ (t18 : Int), hcell h (a_1.add (Int.toNat pivot * 1)) = some (.int .i64 t18) ∧
  ((0 : Int) ≤ a ∧ a < ((data_l : Nat) : Int)) ∧
  onSome data_p fun a_2 =>
  ∃ (t22 : Int), hcell h (a_2.add (Int.toNat a * 1)) = some (.int .i64 t22) ∧
  ((0 : Int) ≤ a ∧ a < ((data_l : Nat) : Int)) ∧
  onSome data_p fun a_3 =>
  StoreP h (a_3.add (Int.toNat a * 1)) (.int .i64 t18) fun h_1 =>
  ((0 : Int) ≤ pivot ∧ pivot < ((data_l : Nat) : Int)) ∧
  onSome data_p fun a_4 =>
  StoreP h_1 (a_4.add (Int.toNat pivot * 1)) (.int .i64 t22) fun h_2 =>
  ∃ (I : Int → Int → Heap → Prop) (mu : Int → Int → Heap → Nat), I (IntKind.wrap .i64 (a + 1)) (IntKind.wrap .i64 (b - 1)) h_2 ∧ ∀ (i : Int) (j : Int) (h_3 : Heap), I i j h_3 →
    ∃ (I_1 : Int → Heap → Prop) (mu_1 : Int → Heap → Nat), I_1 i h_3 ∧ ∀ (i_1 : Int) (h_4 : Heap), I_1 i_1 h_4 →
      JoinP (fun (t43 : Bool) (h_5 : Heap) =>
        if t43 = true then
          (I_1 (IntKind.wrap .i64 (i_1 + 1)) h_5 ∧ mu_1 (IntKind.wrap .i64 (i_1 + 1)) h_5 < mu_1 i_1 h_4)
        else
          ∃ (I_2 : Int → Heap → Prop) (mu_2 : Int → Heap → Nat), I_2 j h_5 ∧ ∀ (j_1 : Int) (h_6 : Heap), I_2 j_1 h_6 →
            JoinP (fun (t59 : Bool) (h_7 : Heap) =>
              if t59 = true then
                (I_2 (IntKind.wrap .i64 (j_1 - 1)) h_7 ∧ mu_2 (IntKind.wrap .i64 (j_1 - 1)) h_7 < mu_2 j_1 h_6)
              else
                if (decide (i_1 > j_1)) = true then
                  R (.int .i64 i_1) h_7
                else
                  ((0 : Int) ≤ j_1 ∧ j_1 < ((data_l : Nat) : Int)) ∧
                  onSome data_p fun a_5 =>
                  ∃ (t72 : Int), hcell h_7 (a_5.add (Int.toNat j_1 * 1)) = some (.int .i64 t72) ∧
                  ((0 : Int) ≤ i_1 ∧ i_1 < ((data_l : Nat) : Int)) ∧
                  onSome data_p fun a_6 =>
                  ∃ (t76 : Int), hcell h_7 (a_6.add (Int.toNat i_1 * 1)) = some (.int .i64 t76) ∧
                  ((0 : Int) ≤ i_1 ∧ i_1 < ((data_l : Nat) : Int)) ∧
                  onSome data_p fun a_7 =>
                  StoreP h_7 (a_7.add (Int.toNat i_1 * 1)) (.int .i64 t72) fun h_8 =>
                  ((0 : Int) ≤ j_1 ∧ j_1 < ((data_l : Nat) : Int)) ∧
                  onSome data_p fun a_8 =>
                  StoreP h_8 (a_8.add (Int.toNat j_1 * 1)) (.int .i64 t76) fun h_9 =>
                  (I (IntKind.wrap .i64 (i_1 + 1)) (IntKind.wrap .i64 (j_1 - 1)) h_9 ∧ mu (IntKind.wrap .i64 (i_1 + 1)) (IntKind.wrap .i64 (j_1 - 1)) h_9 < mu i j h_3))
            (fun J_1 =>
              if (decide (i_1 ≤ j_1)) = true then
                ((0 : Int) ≤ a ∧ a < ((data_l : Nat) : Int)) ∧
                onSome data_p fun a_9 =>
                ∃ (t53 : Int), hcell h_6 (a_9.add (Int.toNat a * 1)) = some (.int .i64 t53) ∧
                ((0 : Int) ≤ j_1 ∧ j_1 < ((data_l : Nat) : Int)) ∧
                onSome data_p fun a_10 =>
                ∃ (t57 : Int), hcell h_6 (a_10.add (Int.toNat j_1 * 1)) = some (.int .i64 t57) ∧
                CallsH Try.prog F.cmp_Less_int #[.int .i64 t53, .int .i64 t57] h_6 fun v h_10 =>
                ∃ (t58 : Bool), v = .bool t58 ∧
                J_1 t58 h_10
              else
                J_1 false h_6))
      (fun J =>
        if (decide (i_1 ≤ j)) = true then
          ((0 : Int) ≤ a ∧ a < ((data_l : Nat) : Int)) ∧
          onSome data_p fun a_11 =>
          ∃ (t36 : Int), hcell h_4 (a_11.add (Int.toNat a * 1)) = some (.int .i64 t36) ∧
          ((0 : Int) ≤ i_1 ∧ i_1 < ((data_l : Nat) : Int)) ∧
          onSome data_p fun a_12 =>
          ∃ (t40 : Int), hcell h_4 (a_12.add (Int.toNat i_1 * 1)) = some (.int .i64 t40) ∧
          CallsH Try.prog F.cmp_Less_int #[.int .i64 t36, .int .i64 t40] h_4 fun v_1 h_11 =>
          ∃ (t41 : Bool), v_1 = .bool t41 ∧
          J (!t41) h_11
        else
          J false h_4)
theorem slices_partitionEqualOrdered_int.den_eq (data_p : Option Addr) (data_l data_c : Nat) (a : Int) (b : Int) (pivot : Int) (h : Heap) (R : Value → Heap → Prop) : slices_partitionEqualOrdered_int.vc data_p data_l data_c a b pivot h R = den Try.prog Try.f85.ntmps (.seq .leaf (.seq (.plan (.op 0 (.op 1 (.op 2 (.op 3 (.op 4 (.op 5 (.op 6 (.op 7 (.op 8 (.op 9 (.op 10 (.op 11 (.op 12 (.op 13 (.op 14 (.op 15 .done))))))))))))))))) (.seq .leaf (.seq (.block (.loop [(9, .one (.int .i64)), (10, .one (.int .i64))] (.block (.seq (.block (.loop [(9, .one (.int .i64))] (.seq (.seq (.join [(43, .one (.bool))] (.plan (.op 0 (.op 1 (.op 2 (.op 3 (.op 4 (.op 5 (.op 6 (.op 7 (.op 8 (.op 9 (.op 10 (.op 11 (.op 12 (.op 13 (.op 14 .done))))))))))))))))) (.cond .leaf .leaf)) (.block .leaf)))) (.seq (.block (.loop [(10, .one (.int .i64))] (.seq (.seq (.join [(59, .one (.bool))] (.plan (.op 0 (.op 1 (.op 2 (.op 3 (.op 4 (.op 5 (.op 6 (.op 7 (.op 8 (.op 9 (.op 10 (.op 11 (.op 12 (.op 13 .done)))))))))))))))) (.cond .leaf .leaf)) (.block .leaf)))) (.seq (.seq .leaf (.cond .leaf .leaf)) (.seq (.plan (.op 0 (.op 1 (.op 2 (.op 3 (.op 4 (.op 5 (.op 6 (.op 7 (.op 8 (.op 9 (.op 10 (.op 11 (.op 12 (.op 13 (.op 14 (.op 15 .done))))))))))))))))) (.seq .leaf .leaf)))))))) (.seq .leaf .leaf))))) none (bodyOf Try.f85) (retK Try.prog Try.f85.results R) (argEnv [.slice data_p data_l data_c, .int .i64 a, .int .i64 b, .int .i64 pivot]) h := by kernel_rfl
theorem slices_partitionEqualOrdered_int.walk {data_p : Option Addr} {data_l data_c : Nat} {a : Int} {b : Int} {pivot : Int} {h : Heap} {R : Value → Heap → Prop} (hv : slices_partitionEqualOrdered_int.vc data_p data_l data_c a b pivot h R) : CallsH Try.prog F.slices_partitionEqualOrdered_int #[.slice data_p data_l data_c, .int .i64 a, .int .i64 b, .int .i64 pivot] h R :=
  callsH_of_body _ Try.func85 rfl rfl (Eq.mp (slices_partitionEqualOrdered_int.den_eq data_p data_l data_c a b pivot h R) hv)

def slices_partitionOrdered_int.vc (data_p : Option Addr) (data_l data_c : Nat) (a : Int) (b : Int) (pivot : Int) (h : Heap) (R : Value → Heap → Prop) : Prop :=
  ((0 : Int) ≤ pivot ∧ pivot < ((data_l : Nat) : Int)) ∧
  onSome data_p fun a_1 =>
  ∃ (t19 : Int), hcell h (a_1.add (Int.toNat pivot * 1)) = some (.int .i64 t19) ∧
  ((0 : Int) ≤ a ∧ a < ((data_l : Nat) : Int)) ∧
  onSome data_p fun a_2 =>
  ∃ (t23 : Int), hcell h (a_2.add (Int.toNat a * 1)) = some (.int .i64 t23) ∧
  ((0 : Int) ≤ a ∧ a < ((data_l : Nat) : Int)) ∧
  onSome data_p fun a_3 =>
  StoreP h (a_3.add (Int.toNat a * 1)) (.int .i64 t19) fun h_1 =>
  ((0 : Int) ≤ pivot ∧ pivot < ((data_l : Nat) : Int)) ∧
  onSome data_p fun a_4 =>
  StoreP h_1 (a_4.add (Int.toNat pivot * 1)) (.int .i64 t23) fun h_2 =>
  ∃ (I : Int → Heap → Prop) (mu : Int → Heap → Nat), I (IntKind.wrap .i64 (a + 1)) h_2 ∧ ∀ (i : Int) (h_3 : Heap), I i h_3 →
    JoinP (fun (t43 : Bool) (h_4 : Heap) =>
      if t43 = true then
        (I (IntKind.wrap .i64 (i + 1)) h_4 ∧ mu (IntKind.wrap .i64 (i + 1)) h_4 < mu i h_3)
      else
        ∃ (I_1 : Int → Heap → Prop) (mu_1 : Int → Heap → Nat), I_1 (IntKind.wrap .i64 (b - 1)) h_4 ∧ ∀ (j : Int) (h_5 : Heap), I_1 j h_5 →
          JoinP (fun (t60 : Bool) (h_6 : Heap) =>
            if t60 = true then
              (I_1 (IntKind.wrap .i64 (j - 1)) h_6 ∧ mu_1 (IntKind.wrap .i64 (j - 1)) h_6 < mu_1 j h_5)
            else
              if (decide (i > j)) = true then
                ((0 : Int) ≤ a ∧ a < ((data_l : Nat) : Int)) ∧
                onSome data_p fun a_5 =>
                ∃ (t73 : Int), hcell h_6 (a_5.add (Int.toNat a * 1)) = some (.int .i64 t73) ∧
                ((0 : Int) ≤ j ∧ j < ((data_l : Nat) : Int)) ∧
                onSome data_p fun a_6 =>
                ∃ (t77 : Int), hcell h_6 (a_6.add (Int.toNat j * 1)) = some (.int .i64 t77) ∧
                ((0 : Int) ≤ j ∧ j < ((data_l : Nat) : Int)) ∧
                onSome data_p fun a_7 =>
                StoreP h_6 (a_7.add (Int.toNat j * 1)) (.int .i64 t73) fun h_7 =>
                ((0 : Int) ≤ a ∧ a < ((data_l : Nat) : Int)) ∧
                onSome data_p fun a_8 =>
                StoreP h_7 (a_8.add (Int.toNat a * 1)) (.int .i64 t77) fun h_8 =>
                R (.tuple #[.int .i64 j, .bool true]) h_8
              else
                ((0 : Int) ≤ j ∧ j < ((data_l : Nat) : Int)) ∧
                onSome data_p fun a_9 =>
                ∃ (t88 : Int), hcell h_6 (a_9.add (Int.toNat j * 1)) = some (.int .i64 t88) ∧
                ((0 : Int) ≤ i ∧ i < ((data_l : Nat) : Int)) ∧
                onSome data_p fun a_10 =>
                ∃ (t92 : Int), hcell h_6 (a_10.add (Int.toNat i * 1)) = some (.int .i64 t92) ∧
                ((0 : Int) ≤ i ∧ i < ((data_l : Nat) : Int)) ∧
                onSome data_p fun a_11 =>
                StoreP h_6 (a_11.add (Int.toNat i * 1)) (.int .i64 t88) fun h_9 =>
                ((0 : Int) ≤ j ∧ j < ((data_l : Nat) : Int)) ∧
                onSome data_p fun a_12 =>
                StoreP h_9 (a_12.add (Int.toNat j * 1)) (.int .i64 t92) fun h_10 =>
                ∃ (I_2 : Int → Int → Heap → Prop) (mu_2 : Int → Int → Heap → Nat), I_2 (IntKind.wrap .i64 (i + 1)) (IntKind.wrap .i64 (j - 1)) h_10 ∧ ∀ (i_1 : Int) (j_1 : Int) (h_11 : Heap), I_2 i_1 j_1 h_11 →
                  ∃ (I_3 : Int → Heap → Prop) (mu_3 : Int → Heap → Nat), I_3 i_1 h_11 ∧ ∀ (i_2 : Int) (h_12 : Heap), I_3 i_2 h_12 →
                    JoinP (fun (t112 : Bool) (h_13 : Heap) =>
                      if t112 = true then
                        (I_3 (IntKind.wrap .i64 (i_2 + 1)) h_13 ∧ mu_3 (IntKind.wrap .i64 (i_2 + 1)) h_13 < mu_3 i_2 h_12)
                      else
                        ∃ (I_4 : Int → Heap → Prop) (mu_4 : Int → Heap → Nat), I_4 j_1 h_13 ∧ ∀ (j_2 : Int) (h_14 : Heap), I_4 j_2 h_14 →
                          JoinP (fun (t129 : Bool) (h_15 : Heap) =>
                            if t129 = true then
                              (I_4 (IntKind.wrap .i64 (j_2 - 1)) h_15 ∧ mu_4 (IntKind.wrap .i64 (j_2 - 1)) h_15 < mu_4 j_2 h_14)
                            else
                              if (decide (i_2 > j_2)) = true then
                                ((0 : Int) ≤ a ∧ a < ((data_l : Nat) : Int)) ∧
                                onSome data_p fun a_13 =>
                                ∃ (t160 : Int), hcell h_15 (a_13.add (Int.toNat a * 1)) = some (.int .i64 t160) ∧
                                ((0 : Int) ≤ j_2 ∧ j_2 < ((data_l : Nat) : Int)) ∧
                                onSome data_p fun a_14 =>
                                ∃ (t164 : Int), hcell h_15 (a_14.add (Int.toNat j_2 * 1)) = some (.int .i64 t164) ∧
                                ((0 : Int) ≤ j_2 ∧ j_2 < ((data_l : Nat) : Int)) ∧
                                onSome data_p fun a_15 =>
                                StoreP h_15 (a_15.add (Int.toNat j_2 * 1)) (.int .i64 t160) fun h_16 =>
                                ((0 : Int) ≤ a ∧ a < ((data_l : Nat) : Int)) ∧
                                onSome data_p fun a_16 =>
                                StoreP h_16 (a_16.add (Int.toNat a * 1)) (.int .i64 t164) fun h_17 =>
                                R (.tuple #[.int .i64 j_2, .bool false]) h_17
                              else
                                ((0 : Int) ≤ j_2 ∧ j_2 < ((data_l : Nat) : Int)) ∧
                                onSome data_p fun a_17 =>
                                ∃ (t142 : Int), hcell h_15 (a_17.add (Int.toNat j_2 * 1)) = some (.int .i64 t142) ∧
                                ((0 : Int) ≤ i_2 ∧ i_2 < ((data_l : Nat) : Int)) ∧
                                onSome data_p fun a_18 =>
                                ∃ (t146 : Int), hcell h_15 (a_18.add (Int.toNat i_2 * 1)) = some (.int .i64 t146) ∧
                                ((0 : Int) ≤ i_2 ∧ i_2 < ((data_l : Nat) : Int)) ∧
                                onSome data_p fun a_19 =>
                                StoreP h_15 (a_19.add (Int.toNat i_2 * 1)) (.int .i64 t142) fun h_18 =>
                                ((0 : Int) ≤ j_2 ∧ j_2 < ((data_l : Nat) : Int)) ∧
                                onSome data_p fun a_20 =>
                                StoreP h_18 (a_20.add (Int.toNat j_2 * 1)) (.int .i64 t146) fun h_19 =>
                                (I_2 (IntKind.wrap .i64 (i_2 + 1)) (IntKind.wrap .i64 (j_2 - 1)) h_19 ∧ mu_2 (IntKind.wrap .i64 (i_2 + 1)) (IntKind.wrap .i64 (j_2 - 1)) h_19 < mu_2 i_1 j_1 h_11))
                          (fun J_3 =>
                            if (decide (i_2 ≤ j_2)) = true then
                              ((0 : Int) ≤ j_2 ∧ j_2 < ((data_l : Nat) : Int)) ∧
                              onSome data_p fun a_21 =>
                              ∃ (t122 : Int), hcell h_14 (a_21.add (Int.toNat j_2 * 1)) = some (.int .i64 t122) ∧
                              ((0 : Int) ≤ a ∧ a < ((data_l : Nat) : Int)) ∧
                              onSome data_p fun a_22 =>
                              ∃ (t126 : Int), hcell h_14 (a_22.add (Int.toNat a * 1)) = some (.int .i64 t126) ∧
                              CallsH Try.prog F.cmp_Less_int #[.int .i64 t122, .int .i64 t126] h_14 fun v h_20 =>
                              ∃ (t127 : Bool), v = .bool t127 ∧
                              J_3 (!t127) h_20
                            else
                              J_3 false h_14))
                    (fun J_2 =>
                      if (decide (i_2 ≤ j_1)) = true then
                        ((0 : Int) ≤ i_2 ∧ i_2 < ((data_l : Nat) : Int)) ∧
                        onSome data_p fun a_23 =>
                        ∃ (t106 : Int), hcell h_12 (a_23.add (Int.toNat i_2 * 1)) = some (.int .i64 t106) ∧
                        ((0 : Int) ≤ a ∧ a < ((data_l : Nat) : Int)) ∧
                        onSome data_p fun a_24 =>
                        ∃ (t110 : Int), hcell h_12 (a_24.add (Int.toNat a * 1)) = some (.int .i64 t110) ∧
                        CallsH Try.prog F.cmp_Less_int #[.int .i64 t106, .int .i64 t110] h_12 fun v_1 h_21 =>
                        ∃ (t111 : Bool), v_1 = .bool t111 ∧
                        J_2 t111 h_21
                      else
                        J_2 false h_12))
          (fun J_1 =>
            if (decide (i ≤ j)) = true then
              ((0 : Int) ≤ j ∧ j < ((data_l : Nat) : Int)) ∧
              onSome data_p fun a_25 =>
              ∃ (t53 : Int), hcell h_5 (a_25.add (Int.toNat j * 1)) = some (.int .i64 t53) ∧
              ((0 : Int) ≤ a ∧ a < ((data_l : Nat) : Int)) ∧
              onSome data_p fun a_26 =>
              ∃ (t57 : Int), hcell h_5 (a_26.add (Int.toNat a * 1)) = some (.int .i64 t57) ∧
              CallsH Try.prog F.cmp_Less_int #[.int .i64 t53, .int .i64 t57] h_5 fun v_2 h_22 =>
              ∃ (t58 : Bool), v_2 = .bool t58 ∧
              J_1 (!t58) h_22
            else
              J_1 false h_5))
    (fun J =>
      if (decide (i ≤ (IntKind.wrap .i64 (b - 1)))) = true then
        ((0 : Int) ≤ i ∧ i < ((data_l : Nat) : Int)) ∧
        onSome data_p fun a_27 =>
        ∃ (t37 : Int), hcell h_3 (a_27.add (Int.toNat i * 1)) = some (.int .i64 t37) ∧
        ((0 : Int) ≤ a ∧ a < ((data_l : Nat) : Int)) ∧
        onSome data_p fun a_28 =>
        ∃ (t41 : Int), hcell h_3 (a_28.add (Int.toNat a * 1)) = some (.int .i64 t41) ∧
        CallsH Try.prog F.cmp_Less_int #[.int .i64 t37, .int .i64 t41] h_3 fun v_3 h_23 =>
        ∃ (t42 : Bool), v_3 = .bool t42 ∧
        J t42 h_23
      else
        J false h_3)
theorem slices_partitionOrdered_int.den_eq (data_p : Option Addr) (data_l data_c : Nat) (a : Int) (b : Int) (pivot : Int) (h : Heap) (R : Value → Heap → Prop) : slices_partitionOrdered_int.vc data_p data_l data_c a b pivot h R = den Try.prog Try.f86.ntmps (.seq .leaf (.seq (.plan (.op 0 (.op 1 (.op 2 (.op 3 (.op 4 (.op 5 (.op 6 (.op 7 (.op 8 (.op 9 (.op 10 (.op 11 (.op 12 (.op 13 (.op 14 (.op 15 .done))))))))))))))))) (.seq .leaf (.seq (.block (.loop [(10, .one (.int .i64))] (.seq (.seq (.join [(43, .one (.bool))] (.plan (.op 0 (.op 1 (.op 2 (.op 3 (.op 4 (.op 5 (.op 6 (.op 7 (.op 8 (.op 9 (.op 10 (.op 11 (.op 12 (.op 13 .done)))))))))))))))) (.cond .leaf .leaf)) (.block .leaf)))) (.seq (.block (.loop [(11, .one (.int .i64))] (.seq (.seq (.join [(60, .one (.bool))] (.plan (.op 0 (.op 1 (.op 2 (.op 3 (.op 4 (.op 5 (.op 6 (.op 7 (.op 8 (.op 9 (.op 10 (.op 11 (.op 12 (.op 13 (.op 14 .done))))))))))))))))) (.cond .leaf .leaf)) (.block .leaf)))) (.seq (.seq .leaf (.cond (.seq (.plan (.op 0 (.op 1 (.op 2 (.op 3 (.op 4 (.op 5 (.op 6 (.op 7 (.op 8 (.op 9 (.op 10 (.op 11 (.op 12 (.op 13 (.op 14 (.op 15 .done))))))))))))))))) (.seq .leaf .leaf)) .leaf)) (.seq (.plan (.op 0 (.op 1 (.op 2 (.op 3 (.op 4 (.op 5 (.op 6 (.op 7 (.op 8 (.op 9 (.op 10 (.op 11 (.op 12 (.op 13 (.op 14 (.op 15 .done))))))))))))))))) (.seq .leaf (.seq .leaf (.seq (.block (.loop [(10, .one (.int .i64)), (11, .one (.int .i64))] (.block (.seq (.block (.loop [(10, .one (.int .i64))] (.seq (.seq (.join [(112, .one (.bool))] (.plan (.op 0 (.op 1 (.op 2 (.op 3 (.op 4 (.op 5 (.op 6 (.op 7 (.op 8 (.op 9 (.op 10 (.op 11 (.op 12 (.op 13 .done)))))))))))))))) (.cond .leaf .leaf)) (.block .leaf)))) (.seq (.block (.loop [(11, .one (.int .i64))] (.seq (.seq (.join [(129, .one (.bool))] (.plan (.op 0 (.op 1 (.op 2 (.op 3 (.op 4 (.op 5 (.op 6 (.op 7 (.op 8 (.op 9 (.op 10 (.op 11 (.op 12 (.op 13 (.op 14 .done))))))))))))))))) (.cond .leaf .leaf)) (.block .leaf)))) (.seq (.seq .leaf (.cond .leaf .leaf)) (.seq (.plan (.op 0 (.op 1 (.op 2 (.op 3 (.op 4 (.op 5 (.op 6 (.op 7 (.op 8 (.op 9 (.op 10 (.op 11 (.op 12 (.op 13 (.op 14 (.op 15 .done))))))))))))))))) (.seq .leaf .leaf)))))))) (.seq (.plan (.op 0 (.op 1 (.op 2 (.op 3 (.op 4 (.op 5 (.op 6 (.op 7 (.op 8 (.op 9 (.op 10 (.op 11 (.op 12 (.op 13 (.op 14 (.op 15 .done))))))))))))))))) (.seq .leaf .leaf)))))))))))) none (bodyOf Try.f86) (retK Try.prog Try.f86.results R) (argEnv [.slice data_p data_l data_c, .int .i64 a, .int .i64 b, .int .i64 pivot]) h := by kernel_rfl
theorem slices_partitionOrdered_int.walk {data_p : Option Addr} {data_l data_c : Nat} {a : Int} {b : Int} {pivot : Int} {h : Heap} {R : Value → Heap → Prop} (hv : slices_partitionOrdered_int.vc data_p data_l data_c a b pivot h R) : CallsH Try.prog F.slices_partitionOrdered_int #[.slice data_p data_l data_c, .int .i64 a, .int .i64 b, .int .i64 pivot] h R :=
  callsH_of_body _ Try.func86 rfl rfl (Eq.mp (slices_partitionOrdered_int.den_eq data_p data_l data_c a b pivot h R) hv)

def slices_pdqsortOrdered_int.vc (data_p : Option Addr) (data_l data_c : Nat) (a : Int) (b : Int) (limit : Int) (h : Heap) (R : Value → Heap → Prop) : Prop :=
  ∃ (I : Int → Int → Int → Bool → Bool → Heap → Prop) (mu : Int → Int → Int → Bool → Bool → Heap → Nat), I a b limit true true h ∧ ∀ (a_1 : Int) (b_1 : Int) (limit_1 : Int) (wasBalanced : Bool) (wasPartitioned : Bool) (h_1 : Heap), I a_1 b_1 limit_1 wasBalanced wasPartitioned h_1 →
    JoinP (fun (a_2 : Int) (b_2 : Int) (limit_2 : Int) (wasBalanced_1 : Bool) (wasPartitioned_1 : Bool) (h_2 : Heap) =>
      (I a_2 b_2 limit_2 wasBalanced_1 wasPartitioned_1 h_2 ∧ mu a_2 b_2 limit_2 wasBalanced_1 wasPartitioned_1 h_2 < mu a_1 b_1 limit_1 wasBalanced wasPartitioned h_1))
    (fun J =>
      if (decide ((IntKind.wrap .i64 (b_1 - a_1)) ≤ 12)) = true then
        CallsH Try.prog F.slices_insertionSortOrdered_int #[.slice data_p data_l data_c, .int .i64 a_1, .int .i64 b_1] h_1 fun v h_3 =>
        v = .tuple #[] ∧
        R (.tuple #[]) h_3
      else
        if (limit_1 == 0) = true then
          CallsH Try.prog F.slices_heapSortOrdered_int #[.slice data_p data_l data_c, .int .i64 a_1, .int .i64 b_1] h_1 fun v_1 h_4 =>
          v_1 = .tuple #[] ∧
          R (.tuple #[]) h_4
        else
          JoinP (fun (limit_3 : Int) (h_5 : Heap) =>
            CallsH Try.prog F.slices_choosePivotOrdered_int #[.slice data_p data_l data_c, .int .i64 a_1, .int .i64 b_1] h_5 fun v_2 h_6 =>
            ∃ (t46_0 : Int), ∃ (t46_1 : Int), v_2 = .tuple #[.int .i64 t46_0, .int .i64 t46_1] ∧
            JoinP (fun (pivot : Int) (hint : Int) (h_7 : Heap) =>
              JoinP (fun (t68 : Bool) (h_8 : Heap) =>
                JoinP (fun (h_9 : Heap) =>
                  JoinP (fun (t87 : Bool) (h_10 : Heap) =>
                    if t87 = true then
                      CallsH Try.prog F.slices_partitionEqualOrdered_int #[.slice data_p data_l data_c, .int .i64 a_1, .int .i64 b_1, .int .i64 pivot] h_10 fun v_3 h_11 =>
                      ∃ (t92 : Int), v_3 = .int .i64 t92 ∧
                      J t92 b_1 limit_3 wasBalanced wasPartitioned h_11
                    else
                      CallsH Try.prog F.slices_partitionOrdered_int #[.slice data_p data_l data_c, .int .i64 a_1, .int .i64 b_1, .int .i64 pivot] h_10 fun v_4 h_12 =>
                      ∃ (t99_0 : Int), ∃ (t99_1 : Bool), v_4 = .tuple #[.int .i64 t99_0, .bool t99_1] ∧
                      JoinP (fun (a_3 : Int) (b_3 : Int) (wasBalanced_2 : Bool) (h_13 : Heap) =>
                        J a_3 b_3 limit_3 wasBalanced_2 t99_1 h_13)
                      (fun J_6 =>
                        if (decide ((IntKind.wrap .i64 (t99_0 - a_1)) < (IntKind.wrap .i64 (b_1 - t99_0)))) = true then
                          CallsH Try.prog F.slices_pdqsortOrdered_int #[.slice data_p data_l data_c, .int .i64 a_1, .int .i64 t99_0, .int .i64 limit_3] h_12 fun v_5 h_14 =>
                          v_5 = .tuple #[] ∧
                          J_6 (IntKind.wrap .i64 (t99_0 + 1)) b_1 (decide ((IntKind.wrap .i64 (t99_0 - a_1)) ≥ (IntKind.wrap .i64 (Int.tdiv (IntKind.wrap .i64 (b_1 - a_1)) 8)))) h_14
                        else
                          CallsH Try.prog F.slices_pdqsortOrdered_int #[.slice data_p data_l data_c, .int .i64 (IntKind.wrap .i64 (t99_0 + 1)), .int .i64 b_1, .int .i64 limit_3] h_12 fun v_6 h_15 =>
                          v_6 = .tuple #[] ∧
                          J_6 a_1 t99_0 (decide ((IntKind.wrap .i64 (b_1 - t99_0)) ≥ (IntKind.wrap .i64 (Int.tdiv (IntKind.wrap .i64 (b_1 - a_1)) 8)))) h_15))
                  (fun J_5 =>
                    if (decide (a_1 > 0)) = true then
                      ((0 : Int) ≤ IntKind.wrap .i64 (a_1 - 1) ∧ IntKind.wrap .i64 (a_1 - 1) < ((data_l : Nat) : Int)) ∧
                      onSome data_p fun a_4 =>
                      ∃ (t80 : Int), hcell h_9 (a_4.add (Int.toNat (IntKind.wrap .i64 (a_1 - 1)) * 1)) = some (.int .i64 t80) ∧
                      ((0 : Int) ≤ pivot ∧ pivot < ((data_l : Nat) : Int)) ∧
                      onSome data_p fun a_5 =>
                      ∃ (t84 : Int), hcell h_9 (a_5.add (Int.toNat pivot * 1)) = some (.int .i64 t84) ∧
                      CallsH Try.prog F.cmp_Less_int #[.int .i64 t80, .int .i64 t84] h_9 fun v_7 h_16 =>
                      ∃ (t85 : Bool), v_7 = .bool t85 ∧
                      J_5 (!t85) h_16
                    else
                      J_5 false h_9))
                (fun J_4 =>
                  if t68 = true then
                    CallsH Try.prog F.slices_partialInsertionSortOrdered_int #[.slice data_p data_l data_c, .int .i64 a_1, .int .i64 b_1] h_8 fun v_8 h_17 =>
                    ∃ (t72 : Bool), v_8 = .bool t72 ∧
                    if t72 = true then
                      R (.tuple #[]) h_17
                    else
                      J_4 h_17
                  else
                    J_4 h_8))
              (fun J_3 =>
                if wasBalanced = true then
                  if wasPartitioned = true then
                    J_3 (hint == 1) h_7
                  else
                    J_3 false h_7
                else
                  J_3 false h_7))
            (fun J_2 =>
              if (t46_1 == 2) = true then
                CallsH Try.prog F.slices_reverseRangeOrdered_int #[.slice data_p data_l data_c, .int .i64 a_1, .int .i64 b_1] h_6 fun v_9 h_18 =>
                v_9 = .tuple #[] ∧
                J_2 (IntKind.wrap .i64 ((IntKind.wrap .i64 (b_1 - 1)) - (IntKind.wrap .i64 (t46_0 - a_1)))) 1 h_18
              else
                J_2 t46_0 t46_1 h_6))
          (fun J_1 =>
            if (!wasBalanced) = true then
              CallsH Try.prog F.slices_breakPatternsOrdered_int #[.slice data_p data_l data_c, .int .i64 a_1, .int .i64 b_1] h_1 fun v_10 h_19 =>
              v_10 = .tuple #[] ∧
              J_1 (IntKind.wrap .i64 (limit_1 - 1)) h_19
            else
              J_1 limit_1 h_1))
theorem slices_pdqsortOrdered_int.den_eq (data_p : Option Addr) (data_l data_c : Nat) (a : Int) (b : Int) (limit : Int) (h : Heap) (R : Value → Heap → Prop) : slices_pdqsortOrdered_int.vc data_p data_l data_c a b limit h R = den Try.prog Try.f76.ntmps (.seq .leaf (.seq .leaf (.block (.loop [(1, .one (.int .i64)), (2, .one (.int .i64)), (3, .one (.int .i64)), (8, .one (.bool)), (9, .one (.bool))] (.join [(1, .one (.int .i64)), (2, .one (.int .i64)), (3, .one (.int .i64)), (8, .one (.bool)), (9, .one (.bool))] (.block (.seq .leaf (.seq (.seq .leaf (.cond (.seq .leaf .leaf) .leaf)) (.seq (.seq .leaf (.cond (.seq .leaf .leaf) .leaf)) (.seq (.seq .leaf (.join [(3, .one (.int .i64))] (.cond (.seq .leaf .leaf) .leaf))) (.seq .leaf (.seq (.seq .leaf (.join [(11, .one (.int .i64)), (12, .one (.int .i64))] (.cond (.seq .leaf (.seq .leaf .leaf)) .leaf))) (.seq (.seq (.join [(68, .one (.bool))] .leaf) (.join [] (.cond (.seq .leaf (.cond .leaf .leaf)) .leaf))) (.seq (.seq (.join [(87, .one (.bool))] (.plan (.op 0 (.op 1 (.op 2 (.op 3 (.op 4 (.op 5 (.op 6 (.op 7 (.op 8 (.op 9 (.op 10 (.op 11 (.op 12 (.op 13 (.op 14 .done))))))))))))))))) (.cond (.seq .leaf (.seq .leaf .leaf)) .leaf)) (.seq .leaf (.seq .leaf (.seq .leaf (.seq .leaf (.seq .leaf (.join [(1, .one (.int .i64)), (2, .one (.int .i64)), (8, .one (.bool))] (.cond (.seq .leaf (.seq .leaf .leaf)) (.seq .leaf (.seq .leaf .leaf))))))))))))))))))))))) none (bodyOf Try.f76) (retK Try.prog Try.f76.results R) (argEnv [.slice data_p data_l data_c, .int .i64 a, .int .i64 b, .int .i64 limit]) h := by kernel_rfl
theorem slices_pdqsortOrdered_int.walk {data_p : Option Addr} {data_l data_c : Nat} {a : Int} {b : Int} {limit : Int} {h : Heap} {R : Value → Heap → Prop} (hv : slices_pdqsortOrdered_int.vc data_p data_l data_c a b limit h R) : CallsH Try.prog F.slices_pdqsortOrdered_int #[.slice data_p data_l data_c, .int .i64 a, .int .i64 b, .int .i64 limit] h R :=
  callsH_of_body _ Try.func76 rfl rfl (Eq.mp (slices_pdqsortOrdered_int.den_eq data_p data_l data_c a b limit h R) hv)

def slices_Sort_s_int_int.vc (x_p : Option Addr) (x_l x_c : Nat) (h : Heap) (R : Value → Heap → Prop) : Prop :=
  CallsH Try.prog F.math_bits_Len #[.int .u64 (IntKind.wrap .u64 ((x_l : Nat) : Int))] h fun v h_1 =>
  ∃ (t9 : Int), v = .int .i64 t9 ∧
  CallsH Try.prog F.slices_pdqsortOrdered_int #[.slice x_p x_l x_c, .int .i64 0, .int .i64 ((x_l : Nat) : Int), .int .i64 t9] h_1 fun v_1 h_2 =>
  v_1 = .tuple #[] ∧
  R (.tuple #[]) h_2
theorem slices_Sort_s_int_int.den_eq (x_p : Option Addr) (x_l x_c : Nat) (h : Heap) (R : Value → Heap → Prop) : slices_Sort_s_int_int.vc x_p x_l x_c h R = den Try.prog Try.f68.ntmps (.seq .leaf .leaf) none (bodyOf Try.f68) (retK Try.prog Try.f68.results R) (argEnv [.slice x_p x_l x_c]) h := by kernel_rfl
theorem slices_Sort_s_int_int.walk {x_p : Option Addr} {x_l x_c : Nat} {h : Heap} {R : Value → Heap → Prop} (hv : slices_Sort_s_int_int.vc x_p x_l x_c h R) : CallsH Try.prog F.slices_Sort_s_int_int #[.slice x_p x_l x_c] h R :=
  callsH_of_body _ Try.func68 rfl rfl (Eq.mp (slices_Sort_s_int_int.den_eq x_p x_l x_c h R) hv)

def math_bits_Len.vc (x : Int) (h : Heap) (R : Value → Heap → Prop) : Prop :=
  CallsH Try.prog F.math_bits_Len64 #[.int .u64 x] h fun v h_1 =>
  ∃ (t7 : Int), v = .int .i64 t7 ∧
  R (.int .i64 t7) h_1
theorem math_bits_Len.den_eq (x : Int) (h : Heap) (R : Value → Heap → Prop) : math_bits_Len.vc x h R = den Try.prog Try.f46.ntmps (.seq .leaf (.seq (.cond (.seq .leaf .leaf) .leaf) (.seq .leaf .leaf))) none (bodyOf Try.f46) (retK Try.prog Try.f46.results R) (argEnv [.int .u64 x]) h := by kernel_rfl
theorem math_bits_Len.walk {x : Int} {h : Heap} {R : Value → Heap → Prop} (hv : math_bits_Len.vc x h R) : CallsH Try.prog F.math_bits_Len #[.int .u64 x] h R :=
  callsH_of_body _ Try.func46 rfl rfl (Eq.mp (math_bits_Len.den_eq x h R) hv)

def math_bits_Len64.vc (x : Int) (h : Heap) (R : Value → Heap → Prop) : Prop :=
  JoinP (fun (x_1 : Int) (n : Int) (h_1 : Heap) =>
    JoinP (fun (x_2 : Int) (n_1 : Int) (h_2 : Heap) =>
      JoinP (fun (x_3 : Int) (n_2 : Int) (h_3 : Heap) =>
        ((0 : Int) ≤ IntKind.wrap .u8 x_3 ∧ IntKind.wrap .u8 x_3 < (((⟨#[0, 1, 2, 2, 3, 3, 3, 3, 4, 4, 4, 4, 4, 4, 4, 4, 5, 5, 5, 5, 5, 5, 5, 5, 5, 5, 5, 5, 5, 5, 5, 5, 6, 6, 6, 6, 6, 6, 6, 6, 6, 6, 6, 6, 6, 6, 6, 6, 6, 6, 6, 6, 6, 6, 6, 6, 6, 6, 6, 6, 6, 6, 6, 6, 7, 7, 7, 7, 7, 7, 7, 7, 7, 7, 7, 7, 7, 7, 7, 7, 7, 7, 7, 7, 7, 7, 7, 7, 7, 7, 7, 7, 7, 7, 7, 7, 7, 7, 7, 7, 7, 7, 7, 7, 7, 7, 7, 7, 7, 7, 7, 7, 7, 7, 7, 7, 7, 7, 7, 7, 7, 7, 7, 7, 7, 7, 7, 7, 8, 8, 8, 8, 8, 8, 8, 8, 8, 8, 8, 8, 8, 8, 8, 8, 8, 8, 8, 8, 8, 8, 8, 8, 8, 8, 8, 8, 8, 8, 8, 8, 8, 8, 8, 8, 8, 8, 8, 8, 8, 8, 8, 8, 8, 8, 8, 8, 8, 8, 8, 8, 8, 8, 8, 8, 8, 8, 8, 8, 8, 8, 8, 8, 8, 8, 8, 8, 8, 8, 8, 8, 8, 8, 8, 8, 8, 8, 8, 8, 8, 8, 8, 8, 8, 8, 8, 8, 8, 8, 8, 8, 8, 8, 8, 8, 8, 8, 8, 8, 8, 8, 8, 8, 8, 8, 8, 8, 8, 8, 8, 8, 8, 8, 8, 8, 8, 8, 8, 8, 8, 8, 8, 8, 8, 8, 8, 8]⟩ : ByteArray).size : Nat) : Int)) ∧
        R (.int .i64 (IntKind.wrap .i64 (n_2 + (IntKind.wrap .i64 (((⟨#[0, 1, 2, 2, 3, 3, 3, 3, 4, 4, 4, 4, 4, 4, 4, 4, 5, 5, 5, 5, 5, 5, 5, 5, 5, 5, 5, 5, 5, 5, 5, 5, 6, 6, 6, 6, 6, 6, 6, 6, 6, 6, 6, 6, 6, 6, 6, 6, 6, 6, 6, 6, 6, 6, 6, 6, 6, 6, 6, 6, 6, 6, 6, 6, 7, 7, 7, 7, 7, 7, 7, 7, 7, 7, 7, 7, 7, 7, 7, 7, 7, 7, 7, 7, 7, 7, 7, 7, 7, 7, 7, 7, 7, 7, 7, 7, 7, 7, 7, 7, 7, 7, 7, 7, 7, 7, 7, 7, 7, 7, 7, 7, 7, 7, 7, 7, 7, 7, 7, 7, 7, 7, 7, 7, 7, 7, 7, 7, 8, 8, 8, 8, 8, 8, 8, 8, 8, 8, 8, 8, 8, 8, 8, 8, 8, 8, 8, 8, 8, 8, 8, 8, 8, 8, 8, 8, 8, 8, 8, 8, 8, 8, 8, 8, 8, 8, 8, 8, 8, 8, 8, 8, 8, 8, 8, 8, 8, 8, 8, 8, 8, 8, 8, 8, 8, 8, 8, 8, 8, 8, 8, 8, 8, 8, 8, 8, 8, 8, 8, 8, 8, 8, 8, 8, 8, 8, 8, 8, 8, 8, 8, 8, 8, 8, 8, 8, 8, 8, 8, 8, 8, 8, 8, 8, 8, 8, 8, 8, 8, 8, 8, 8, 8, 8, 8, 8, 8, 8, 8, 8, 8, 8, 8, 8, 8, 8, 8, 8, 8, 8, 8, 8, 8, 8, 8, 8]⟩ : ByteArray).data.toList.getD (Int.toNat (IntKind.wrap .u8 x_3)) 0).toNat))))) h_3)
      (fun J_2 =>
        if (decide (x_2 ≥ 256)) = true then
          J_2 (Int.fdiv x_2 (2 ^ min (Int.toNat 8) (IntKind.bits .u64))) (IntKind.wrap .i64 (n_1 + 8)) h_2
        else
          J_2 x_2 n_1 h_2))
    (fun J_1 =>
      if (decide (x_1 ≥ 65536)) = true then
        J_1 (Int.fdiv x_1 (2 ^ min (Int.toNat 16) (IntKind.bits .u64))) (IntKind.wrap .i64 (n + 16)) h_1
      else
        J_1 x_1 n h_1))
  (fun J =>
    if (decide (x ≥ 4294967296)) = true then
      J (Int.fdiv x (2 ^ min (Int.toNat 32) (IntKind.bits .u64))) 32 h
    else
      J x 0 h)
theorem math_bits_Len64.den_eq (x : Int) (h : Heap) (R : Value → Heap → Prop) : math_bits_Len64.vc x h R = den Try.prog Try.f66.ntmps (.seq .leaf (.seq (.seq .leaf (.join [(0, .one (.int .u64)), (2, .one (.int .i64))] (.cond (.seq .leaf .leaf) .leaf))) (.seq (.seq .leaf (.join [(0, .one (.int .u64)), (2, .one (.int .i64))] (.cond (.seq .leaf .leaf) .leaf))) (.seq (.seq .leaf (.join [(0, .one (.int .u64)), (2, .one (.int .i64))] (.cond (.seq .leaf .leaf) .leaf))) (.seq .leaf .leaf))))) none (bodyOf Try.f66) (retK Try.prog Try.f66.results R) (argEnv [.int .u64 x]) h := by kernel_rfl
theorem math_bits_Len64.walk {x : Int} {h : Heap} {R : Value → Heap → Prop} (hv : math_bits_Len64.vc x h R) : CallsH Try.prog F.math_bits_Len64 #[.int .u64 x] h R :=
  callsH_of_body _ Try.func66 rfl rfl (Eq.mp (math_bits_Len64.den_eq x h R) hv)

end Go.Proofs.Ytgccegnmggjkjaa
