/-
  What is proved here: the parts named below, one behind the other (texts of this work, merged by a program). No condition.
-/
import Derived.Test.YtgccegnmggjkjaaGreatDoorMCopc

/-
  Printed by a program of this work (vc.py): the verification conditions of functions, and that each is enough for the call. No condition.
-/
set_option maxRecDepth 100000
set_option maxHeartbeats 4000000
namespace Go.Proofs.YtgccegnmggjkjaaGreatDoor
open Go.Den
def cmp_isNaN_int.vc (x : Int) (h : Heap) (R : Value → Heap → Prop) : Prop :=
  R (.bool (x != x)) h
theorem cmp_isNaN_int.den_eq (x : Int) (h : Heap) (R : Value → Heap → Prop) : cmp_isNaN_int.vc x h R = den Tryz.prog Tryz.f243.ntmps (.seq .leaf (.seq .leaf .leaf)) none (bodyOf Tryz.f243) (retK Tryz.prog Tryz.f243.results R) (argEnv [.int .i64 x]) h := by kernel_rfl
theorem cmp_isNaN_int.walk {x : Int} {h : Heap} {R : Value → Heap → Prop} (hv : cmp_isNaN_int.vc x h R) : CallsH Tryz.prog F.cmp_isNaN_int #[.int .i64 x] h R :=
  callsH_of_body _ Tryz.func243 rfl rfl (Eq.mp (cmp_isNaN_int.den_eq x h R) hv)

def cmp_Less_int.vc (x : Int) (y : Int) (h : Heap) (R : Value → Heap → Prop) : Prop :=
  CallsH Tryz.prog F.cmp_isNaN_int #[.int .i64 x] h fun v h_1 =>
  ∃ (t6 : Bool), v = .bool t6 ∧
  if t6 = true then
    CallsH Tryz.prog F.cmp_isNaN_int #[.int .i64 y] h_1 fun v_1 h_2 =>
    ∃ (t9 : Bool), v_1 = .bool t9 ∧
    if (!t9) = true then
      R (.bool true) h_2
    else
      R (.bool (decide (x < y))) h_2
  else
    R (.bool (decide (x < y))) h_1
theorem cmp_Less_int.den_eq (x : Int) (y : Int) (h : Heap) (R : Value → Heap → Prop) : cmp_Less_int.vc x y h R = den Tryz.prog Tryz.f210.ntmps (.seq .leaf (.seq .leaf .leaf)) none (bodyOf Tryz.f210) (retK Tryz.prog Tryz.f210.results R) (argEnv [.int .i64 x, .int .i64 y]) h := by kernel_rfl
theorem cmp_Less_int.walk {x : Int} {y : Int} {h : Heap} {R : Value → Heap → Prop} (hv : cmp_Less_int.vc x y h R) : CallsH Tryz.prog F.cmp_Less_int #[.int .i64 x, .int .i64 y] h R :=
  callsH_of_body _ Tryz.func210 rfl rfl (Eq.mp (cmp_Less_int.den_eq x y h R) hv)

def slices_xorshift_Next.vc (r : Nat) (h : Heap) (R : Value → Heap → Prop) : Prop :=
  ∃ (t5 : Int), hcell h ⟨r, 0, none⟩ = some (.int .u64 t5) ∧
  ∃ (t8 : Int), hcell h ⟨r, 0, none⟩ = some (.int .u64 t8) ∧
  StoreP h ⟨r, 0, none⟩ (.int .u64 (IntKind.wrap .u64 ((BitVec.ofInt (IntKind.bits .u64) t5 ^^^ BitVec.ofInt (IntKind.bits .u64) (IntKind.wrap .u64 (t8 * 2 ^ min (Int.toNat 13) (IntKind.bits .u64)))).toNat : Int))) fun h_1 =>
  ∃ (t14 : Int), hcell h_1 ⟨r, 0, none⟩ = some (.int .u64 t14) ∧
  ∃ (t17 : Int), hcell h_1 ⟨r, 0, none⟩ = some (.int .u64 t17) ∧
  StoreP h_1 ⟨r, 0, none⟩ (.int .u64 (IntKind.wrap .u64 ((BitVec.ofInt (IntKind.bits .u64) t14 ^^^ BitVec.ofInt (IntKind.bits .u64) (Int.fdiv t17 (2 ^ min (Int.toNat 7) (IntKind.bits .u64)))).toNat : Int))) fun h_2 =>
  ∃ (t23 : Int), hcell h_2 ⟨r, 0, none⟩ = some (.int .u64 t23) ∧
  ∃ (t26 : Int), hcell h_2 ⟨r, 0, none⟩ = some (.int .u64 t26) ∧
  StoreP h_2 ⟨r, 0, none⟩ (.int .u64 (IntKind.wrap .u64 ((BitVec.ofInt (IntKind.bits .u64) t23 ^^^ BitVec.ofInt (IntKind.bits .u64) (IntKind.wrap .u64 (t26 * 2 ^ min (Int.toNat 17) (IntKind.bits .u64)))).toNat : Int))) fun h_3 =>
  ∃ (t32 : Int), hcell h_3 ⟨r, 0, none⟩ = some (.int .u64 t32) ∧
  R (.int .u64 t32) h_3
theorem slices_xorshift_Next.den_eq (r : Nat) (h : Heap) (R : Value → Heap → Prop) : slices_xorshift_Next.vc r h R = den Tryz.prog Tryz.f240.ntmps (.seq .leaf (.seq (.plan (.op 0 (.op 1 (.op 2 (.op 3 (.op 4 (.op 5 (.op 6 (.op 7 (.op 8 (.op 9 .done))))))))))) (.seq (.plan (.op 0 (.op 1 (.op 2 (.op 3 (.op 4 (.op 5 (.op 6 (.op 7 (.op 8 (.op 9 .done))))))))))) (.seq (.plan (.op 0 (.op 1 (.op 2 (.op 3 (.op 4 (.op 5 (.op 6 (.op 7 (.op 8 (.op 9 .done))))))))))) (.seq .leaf .leaf))))) none (bodyOf Tryz.f240) (retK Tryz.prog Tryz.f240.results R) (argEnv [.pointer (some ⟨r, 0, none⟩)]) h := by kernel_rfl
theorem slices_xorshift_Next.walk {r : Nat} {h : Heap} {R : Value → Heap → Prop} (hv : slices_xorshift_Next.vc r h R) : CallsH Tryz.prog F.slices_xorshift_Next #[.pointer (some ⟨r, 0, none⟩)] h R :=
  callsH_of_body _ Tryz.func240 rfl rfl (Eq.mp (slices_xorshift_Next.den_eq r h R) hv)

def slices_nextPowerOfTwo.vc (length : Int) (h : Heap) (R : Value → Heap → Prop) : Prop :=
  CallsH Tryz.prog F.math_bits_Len #[.int .u64 (IntKind.wrap .u64 length)] h fun v h_1 =>
  ∃ (t5 : Int), v = .int .i64 t5 ∧
  if t5 < 0 then False else
  R (.int .u64 (IntKind.wrap .u64 (1 * 2 ^ min (Int.toNat t5) (IntKind.bits .u64)))) h_1
theorem slices_nextPowerOfTwo.den_eq (length : Int) (h : Heap) (R : Value → Heap → Prop) : slices_nextPowerOfTwo.vc length h R = den Tryz.prog Tryz.f239.ntmps (.seq .leaf (.seq .leaf .leaf)) none (bodyOf Tryz.f239) (retK Tryz.prog Tryz.f239.results R) (argEnv [.int .i64 length]) h := by kernel_rfl
theorem slices_nextPowerOfTwo.walk {length : Int} {h : Heap} {R : Value → Heap → Prop} (hv : slices_nextPowerOfTwo.vc length h R) : CallsH Tryz.prog F.slices_nextPowerOfTwo #[.int .i64 length] h R :=
  callsH_of_body _ Tryz.func239 rfl rfl (Eq.mp (slices_nextPowerOfTwo.den_eq length h R) hv)

def slices_insertionSortOrdered_int.vc (data_p : Option Addr) (data_l data_c : Nat) (a : Int) (b : Int) (h : Heap) (R : Value → Heap → Prop) : Prop :=
  ∃ (I : Int → Heap → Prop) (mu : Int → Heap → Nat), I (IntKind.wrap .i64 (a + 1)) h ∧ ∀ (i : Int) (h_1 : Heap), I i h_1 →
    if (decide (i < b)) = true then
      ∃ (I_1 : Int → Heap → Prop) (mu_1 : Int → Heap → Nat), I_1 i h_1 ∧ ∀ (j : Int) (h_2 : Heap), I_1 j h_2 →
        JoinP (fun (t30 : Bool) (h_3 : Heap) =>
          if t30 = true then
            ((0 : Int) ≤ IntKind.wrap .i64 (j - 1) ∧ IntKind.wrap .i64 (j - 1) < ((data_l : Nat) : Int)) ∧
            onSome data_p fun a_1 =>
            ∃ (t42 : Int), hcell h_3 (a_1.add (Int.toNat (IntKind.wrap .i64 (j - 1)) * 1)) = some (.int .i64 t42) ∧
            ((0 : Int) ≤ j ∧ j < ((data_l : Nat) : Int)) ∧
            onSome data_p fun a_2 =>
            ∃ (t46 : Int), hcell h_3 (a_2.add (Int.toNat j * 1)) = some (.int .i64 t46) ∧
            ((0 : Int) ≤ j ∧ j < ((data_l : Nat) : Int)) ∧
            onSome data_p fun a_3 =>
            StoreP h_3 (a_3.add (Int.toNat j * 1)) (.int .i64 t42) fun h_4 =>
            ((0 : Int) ≤ IntKind.wrap .i64 (j - 1) ∧ IntKind.wrap .i64 (j - 1) < ((data_l : Nat) : Int)) ∧
            onSome data_p fun a_4 =>
            StoreP h_4 (a_4.add (Int.toNat (IntKind.wrap .i64 (j - 1)) * 1)) (.int .i64 t46) fun h_5 =>
            (I_1 (IntKind.wrap .i64 (j - 1)) h_5 ∧ mu_1 (IntKind.wrap .i64 (j - 1)) h_5 < mu_1 j h_2)
          else
            (I (IntKind.wrap .i64 (i + 1)) h_3 ∧ mu (IntKind.wrap .i64 (i + 1)) h_3 < mu i h_1))
        (fun J =>
          if (decide (j > a)) = true then
            ((0 : Int) ≤ j ∧ j < ((data_l : Nat) : Int)) ∧
            onSome data_p fun a_5 =>
            ∃ (t23 : Int), hcell h_2 (a_5.add (Int.toNat j * 1)) = some (.int .i64 t23) ∧
            ((0 : Int) ≤ IntKind.wrap .i64 (j - 1) ∧ IntKind.wrap .i64 (j - 1) < ((data_l : Nat) : Int)) ∧
            onSome data_p fun a_6 =>
            ∃ (t28 : Int), hcell h_2 (a_6.add (Int.toNat (IntKind.wrap .i64 (j - 1)) * 1)) = some (.int .i64 t28) ∧
            CallsH Tryz.prog F.cmp_Less_int #[.int .i64 t23, .int .i64 t28] h_2 fun v h_6 =>
            ∃ (t29 : Bool), v = .bool t29 ∧
            J t29 h_6
          else
            J false h_2)
    else
      R (.tuple #[]) h_1
theorem slices_insertionSortOrdered_int.den_eq (data_p : Option Addr) (data_l data_c : Nat) (a : Int) (b : Int) (h : Heap) (R : Value → Heap → Prop) : slices_insertionSortOrdered_int.vc data_p data_l data_c a b h R = den Tryz.prog Tryz.f204.ntmps (.seq .leaf (.block (.loop [(6, .one (.int .i64))] (.seq (.seq .leaf (.cond .leaf .leaf)) (.seq (.block (.seq .leaf (.block (.loop [(7, .one (.int .i64))] (.seq (.seq (.join [(30, .one (.bool))] (.plan (.op 0 (.op 1 (.op 2 (.op 3 (.op 4 (.op 5 (.op 6 (.op 7 (.op 8 (.op 9 (.op 10 (.op 11 (.op 12 (.op 13 (.op 14 .done))))))))))))))))) (.cond .leaf .leaf)) (.seq (.block (.plan (.op 0 (.op 1 (.op 2 (.op 3 (.op 4 (.op 5 (.op 6 (.op 7 (.op 8 (.op 9 (.op 10 (.op 11 (.op 12 (.op 13 (.op 14 (.op 15 (.op 16 (.op 17 .done)))))))))))))))))))) .leaf)))))) .leaf))))) none (bodyOf Tryz.f204) (retK Tryz.prog Tryz.f204.results R) (argEnv [.slice data_p data_l data_c, .int .i64 a, .int .i64 b]) h := by kernel_rfl
theorem slices_insertionSortOrdered_int.walk {data_p : Option Addr} {data_l data_c : Nat} {a : Int} {b : Int} {h : Heap} {R : Value → Heap → Prop} (hv : slices_insertionSortOrdered_int.vc data_p data_l data_c a b h R) : CallsH Tryz.prog F.slices_insertionSortOrdered_int #[.slice data_p data_l data_c, .int .i64 a, .int .i64 b] h R :=
  callsH_of_body _ Tryz.func204 rfl rfl (Eq.mp (slices_insertionSortOrdered_int.den_eq data_p data_l data_c a b h R) hv)

def slices_siftDownOrdered_int.vc (data_p : Option Addr) (data_l data_c : Nat) (lo : Int) (hi : Int) (first : Int) (h : Heap) (R : Value → Heap → Prop) : Prop :=
  ∃ (I : Int → Heap → Prop) (mu : Int → Heap → Nat), I lo h ∧ ∀ (root : Int) (h_1 : Heap), I root h_1 →
    if (decide ((IntKind.wrap .i64 ((IntKind.wrap .i64 (2 * root)) + 1)) ≥ hi)) = true then
      R (.tuple #[]) h_1
    else
      JoinP (fun (t36 : Bool) (h_2 : Heap) =>
        JoinP (fun (child : Int) (h_3 : Heap) =>
          ((0 : Int) ≤ IntKind.wrap .i64 (first + root) ∧ IntKind.wrap .i64 (first + root) < ((data_l : Nat) : Int)) ∧
          onSome data_p fun a =>
          ∃ (t44 : Int), hcell h_3 (a.add (Int.toNat (IntKind.wrap .i64 (first + root)) * 1)) = some (.int .i64 t44) ∧
          ((0 : Int) ≤ IntKind.wrap .i64 (first + child) ∧ IntKind.wrap .i64 (first + child) < ((data_l : Nat) : Int)) ∧
          onSome data_p fun a_1 =>
          ∃ (t50 : Int), hcell h_3 (a_1.add (Int.toNat (IntKind.wrap .i64 (first + child)) * 1)) = some (.int .i64 t50) ∧
          CallsH Tryz.prog F.cmp_Less_int #[.int .i64 t44, .int .i64 t50] h_3 fun v h_4 =>
          ∃ (t51 : Bool), v = .bool t51 ∧
          if (!t51) = true then
            R (.tuple #[]) h_4
          else
            ((0 : Int) ≤ IntKind.wrap .i64 (first + child) ∧ IntKind.wrap .i64 (first + child) < ((data_l : Nat) : Int)) ∧
            onSome data_p fun a_2 =>
            ∃ (t66 : Int), hcell h_4 (a_2.add (Int.toNat (IntKind.wrap .i64 (first + child)) * 1)) = some (.int .i64 t66) ∧
            ((0 : Int) ≤ IntKind.wrap .i64 (first + root) ∧ IntKind.wrap .i64 (first + root) < ((data_l : Nat) : Int)) ∧
            onSome data_p fun a_3 =>
            ∃ (t72 : Int), hcell h_4 (a_3.add (Int.toNat (IntKind.wrap .i64 (first + root)) * 1)) = some (.int .i64 t72) ∧
            ((0 : Int) ≤ IntKind.wrap .i64 (first + root) ∧ IntKind.wrap .i64 (first + root) < ((data_l : Nat) : Int)) ∧
            onSome data_p fun a_4 =>
            StoreP h_4 (a_4.add (Int.toNat (IntKind.wrap .i64 (first + root)) * 1)) (.int .i64 t66) fun h_5 =>
            ((0 : Int) ≤ IntKind.wrap .i64 (first + child) ∧ IntKind.wrap .i64 (first + child) < ((data_l : Nat) : Int)) ∧
            onSome data_p fun a_5 =>
            StoreP h_5 (a_5.add (Int.toNat (IntKind.wrap .i64 (first + child)) * 1)) (.int .i64 t72) fun h_6 =>
            (I child h_6 ∧ mu child h_6 < mu root h_1))
        (fun J_1 =>
          if t36 = true then
            J_1 (IntKind.wrap .i64 ((IntKind.wrap .i64 ((IntKind.wrap .i64 (2 * root)) + 1)) + 1)) h_2
          else
            J_1 (IntKind.wrap .i64 ((IntKind.wrap .i64 (2 * root)) + 1)) h_2))
      (fun J =>
        if (decide ((IntKind.wrap .i64 ((IntKind.wrap .i64 ((IntKind.wrap .i64 (2 * root)) + 1)) + 1)) < hi)) = true then
          ((0 : Int) ≤ IntKind.wrap .i64 (first + (IntKind.wrap .i64 ((IntKind.wrap .i64 (2 * root)) + 1))) ∧ IntKind.wrap .i64 (first + (IntKind.wrap .i64 ((IntKind.wrap .i64 (2 * root)) + 1))) < ((data_l : Nat) : Int)) ∧
          onSome data_p fun a_6 =>
          ∃ (t27 : Int), hcell h_1 (a_6.add (Int.toNat (IntKind.wrap .i64 (first + (IntKind.wrap .i64 ((IntKind.wrap .i64 (2 * root)) + 1)))) * 1)) = some (.int .i64 t27) ∧
          ((0 : Int) ≤ IntKind.wrap .i64 ((IntKind.wrap .i64 (first + (IntKind.wrap .i64 ((IntKind.wrap .i64 (2 * root)) + 1)))) + 1) ∧ IntKind.wrap .i64 ((IntKind.wrap .i64 (first + (IntKind.wrap .i64 ((IntKind.wrap .i64 (2 * root)) + 1)))) + 1) < ((data_l : Nat) : Int)) ∧
          onSome data_p fun a_7 =>
          ∃ (t34 : Int), hcell h_1 (a_7.add (Int.toNat (IntKind.wrap .i64 ((IntKind.wrap .i64 (first + (IntKind.wrap .i64 ((IntKind.wrap .i64 (2 * root)) + 1)))) + 1)) * 1)) = some (.int .i64 t34) ∧
          CallsH Tryz.prog F.cmp_Less_int #[.int .i64 t27, .int .i64 t34] h_1 fun v_1 h_7 =>
          ∃ (t35 : Bool), v_1 = .bool t35 ∧
          J t35 h_7
        else
          J false h_1)
theorem slices_siftDownOrdered_int.den_eq (data_p : Option Addr) (data_l data_c : Nat) (lo : Int) (hi : Int) (first : Int) (h : Heap) (R : Value → Heap → Prop) : slices_siftDownOrdered_int.vc data_p data_l data_c lo hi first h R = den Tryz.prog Tryz.f238.ntmps (.seq .leaf (.block (.loop [(8, .one (.int .i64))] (.block (.seq .leaf (.seq (.seq .leaf (.cond .leaf .leaf)) (.seq (.seq (.join [(36, .one (.bool))] (.plan (.op 0 (.op 1 (.op 2 (.op 3 (.op 4 (.op 5 (.op 6 (.op 7 (.op 8 (.op 9 (.op 10 (.op 11 (.op 12 (.op 13 (.op 14 (.op 15 (.op 16 (.op 17 (.op 18 (.op 19 .done)))))))))))))))))))))) (.join [(9, .one (.int .i64))] (.cond .leaf .leaf))) (.seq (.seq (.plan (.op 0 (.op 1 (.op 2 (.op 3 (.op 4 (.op 5 (.op 6 (.op 7 (.op 8 (.op 9 (.op 10 (.op 11 (.op 12 (.op 13 .done))))))))))))))) (.cond .leaf .leaf)) (.seq (.plan (.op 0 (.op 1 (.op 2 (.op 3 (.op 4 (.op 5 (.op 6 (.op 7 (.op 8 (.op 9 (.op 10 (.op 11 (.op 12 (.op 13 (.op 14 (.op 15 (.op 16 (.op 17 (.op 18 (.op 19 (.op 20 (.op 21 (.op 22 (.op 23 .done))))))))))))))))))))))))) .leaf))))))))) none (bodyOf Tryz.f238) (retK Tryz.prog Tryz.f238.results R) (argEnv [.slice data_p data_l data_c, .int .i64 lo, .int .i64 hi, .int .i64 first]) h := by kernel_rfl
theorem slices_siftDownOrdered_int.walk {data_p : Option Addr} {data_l data_c : Nat} {lo : Int} {hi : Int} {first : Int} {h : Heap} {R : Value → Heap → Prop} (hv : slices_siftDownOrdered_int.vc data_p data_l data_c lo hi first h R) : CallsH Tryz.prog F.slices_siftDownOrdered_int #[.slice data_p data_l data_c, .int .i64 lo, .int .i64 hi, .int .i64 first] h R :=
  callsH_of_body _ Tryz.func238 rfl rfl (Eq.mp (slices_siftDownOrdered_int.den_eq data_p data_l data_c lo hi first h R) hv)

def slices_heapSortOrdered_int.vc (data_p : Option Addr) (data_l data_c : Nat) (a : Int) (b : Int) (h : Heap) (R : Value → Heap → Prop) : Prop :=
  ∃ (I : Int → Heap → Prop) (mu : Int → Heap → Nat), I (IntKind.wrap .i64 (Int.tdiv (IntKind.wrap .i64 ((IntKind.wrap .i64 (b - a)) - 1)) 2)) h ∧ ∀ (i : Int) (h_1 : Heap), I i h_1 →
    if (decide (i ≥ 0)) = true then
      CallsH Tryz.prog F.slices_siftDownOrdered_int #[.slice data_p data_l data_c, .int .i64 i, .int .i64 (IntKind.wrap .i64 (b - a)), .int .i64 a] h_1 fun v h_2 =>
      v = .tuple #[] ∧
      (I (IntKind.wrap .i64 (i - 1)) h_2 ∧ mu (IntKind.wrap .i64 (i - 1)) h_2 < mu i h_1)
    else
      ∃ (I_1 : Int → Heap → Prop) (mu_1 : Int → Heap → Nat), I_1 (IntKind.wrap .i64 ((IntKind.wrap .i64 (b - a)) - 1)) h_1 ∧ ∀ (i_1 : Int) (h_3 : Heap), I_1 i_1 h_3 →
        if (decide (i_1 ≥ 0)) = true then
          ((0 : Int) ≤ IntKind.wrap .i64 (a + i_1) ∧ IntKind.wrap .i64 (a + i_1) < ((data_l : Nat) : Int)) ∧
          onSome data_p fun a_1 =>
          ∃ (t44 : Int), hcell h_3 (a_1.add (Int.toNat (IntKind.wrap .i64 (a + i_1)) * 1)) = some (.int .i64 t44) ∧
          ((0 : Int) ≤ a ∧ a < ((data_l : Nat) : Int)) ∧
          onSome data_p fun a_2 =>
          ∃ (t48 : Int), hcell h_3 (a_2.add (Int.toNat a * 1)) = some (.int .i64 t48) ∧
          ((0 : Int) ≤ a ∧ a < ((data_l : Nat) : Int)) ∧
          onSome data_p fun a_3 =>
          StoreP h_3 (a_3.add (Int.toNat a * 1)) (.int .i64 t44) fun h_4 =>
          ((0 : Int) ≤ IntKind.wrap .i64 (a + i_1) ∧ IntKind.wrap .i64 (a + i_1) < ((data_l : Nat) : Int)) ∧
          onSome data_p fun a_4 =>
          StoreP h_4 (a_4.add (Int.toNat (IntKind.wrap .i64 (a + i_1)) * 1)) (.int .i64 t48) fun h_5 =>
          CallsH Tryz.prog F.slices_siftDownOrdered_int #[.slice data_p data_l data_c, .int .i64 0, .int .i64 i_1, .int .i64 a] h_5 fun v_1 h_6 =>
          v_1 = .tuple #[] ∧
          (I_1 (IntKind.wrap .i64 (i_1 - 1)) h_6 ∧ mu_1 (IntKind.wrap .i64 (i_1 - 1)) h_6 < mu_1 i_1 h_3)
        else
          R (.tuple #[]) h_3
theorem slices_heapSortOrdered_int.den_eq (data_p : Option Addr) (data_l data_c : Nat) (a : Int) (b : Int) (h : Heap) (R : Value → Heap → Prop) : slices_heapSortOrdered_int.vc data_p data_l data_c a b h R = den Tryz.prog Tryz.f205.ntmps (.seq .leaf (.seq .leaf (.seq .leaf (.seq (.seq .leaf (.block (.loop [(9, .one (.int .i64))] (.seq (.seq .leaf (.cond .leaf .leaf)) (.seq (.block .leaf) .leaf))))) (.seq .leaf (.block (.loop [(10, .one (.int .i64))] (.seq (.seq .leaf (.cond .leaf .leaf)) (.seq (.block (.seq (.plan (.op 0 (.op 1 (.op 2 (.op 3 (.op 4 (.op 5 (.op 6 (.op 7 (.op 8 (.op 9 (.op 10 (.op 11 (.op 12 (.op 13 (.op 14 (.op 15 (.op 16 (.op 17 (.op 18 (.op 19 .done))))))))))))))))))))) .leaf)) .leaf))))))))) none (bodyOf Tryz.f205) (retK Tryz.prog Tryz.f205.results R) (argEnv [.slice data_p data_l data_c, .int .i64 a, .int .i64 b]) h := by kernel_rfl
theorem slices_heapSortOrdered_int.walk {data_p : Option Addr} {data_l data_c : Nat} {a : Int} {b : Int} {h : Heap} {R : Value → Heap → Prop} (hv : slices_heapSortOrdered_int.vc data_p data_l data_c a b h R) : CallsH Tryz.prog F.slices_heapSortOrdered_int #[.slice data_p data_l data_c, .int .i64 a, .int .i64 b] h R :=
  callsH_of_body _ Tryz.func205 rfl rfl (Eq.mp (slices_heapSortOrdered_int.den_eq data_p data_l data_c a b h R) hv)

def slices_breakPatternsOrdered_int.vc (data_p : Option Addr) (data_l data_c : Nat) (a : Int) (b : Int) (h : Heap) (R : Value → Heap → Prop) : Prop :=
  if (decide ((IntKind.wrap .i64 (b - a)) ≥ 8)) = true then
    NewP h (.cells #[.int .u64 0] T.slices_xorshift) fun b_1 h_1 =>
    StoreP h_1 ⟨b_1, 0, none⟩ (.int .u64 (IntKind.wrap .u64 (IntKind.wrap .i64 (b - a)))) fun h_2 =>
    CallsH Tryz.prog F.slices_nextPowerOfTwo #[.int .i64 (IntKind.wrap .i64 (b - a))] h_2 fun v h_3 =>
    ∃ (t19 : Int), v = .int .u64 t19 ∧
    ∃ (I : Int → Heap → Prop) (mu : Int → Heap → Nat), I (IntKind.wrap .i64 ((IntKind.wrap .i64 (a + (IntKind.wrap .i64 ((IntKind.wrap .i64 (Int.tdiv (IntKind.wrap .i64 (b - a)) 4)) * 2)))) - 1)) h_3 ∧ ∀ (idx : Int) (h_4 : Heap), I idx h_4 →
      if (decide (idx ≤ (IntKind.wrap .i64 ((IntKind.wrap .i64 (a + (IntKind.wrap .i64 ((IntKind.wrap .i64 (Int.tdiv (IntKind.wrap .i64 (b - a)) 4)) * 2)))) + 1)))) = true then
        CallsH Tryz.prog F.slices_xorshift_Next #[.pointer (some ⟨b_1, 0, none⟩)] h_4 fun v_1 h_5 =>
        ∃ (t36 : Int), v_1 = .int .u64 t36 ∧
        JoinP (fun (other : Int) (h_6 : Heap) =>
          ((0 : Int) ≤ IntKind.wrap .i64 (a + other) ∧ IntKind.wrap .i64 (a + other) < ((data_l : Nat) : Int)) ∧
          onSome data_p fun a_1 =>
          ∃ (t58 : Int), hcell h_6 (a_1.add (Int.toNat (IntKind.wrap .i64 (a + other)) * 1)) = some (.int .i64 t58) ∧
          ((0 : Int) ≤ idx ∧ idx < ((data_l : Nat) : Int)) ∧
          onSome data_p fun a_2 =>
          ∃ (t62 : Int), hcell h_6 (a_2.add (Int.toNat idx * 1)) = some (.int .i64 t62) ∧
          ((0 : Int) ≤ idx ∧ idx < ((data_l : Nat) : Int)) ∧
          onSome data_p fun a_3 =>
          StoreP h_6 (a_3.add (Int.toNat idx * 1)) (.int .i64 t58) fun h_7 =>
          ((0 : Int) ≤ IntKind.wrap .i64 (a + other) ∧ IntKind.wrap .i64 (a + other) < ((data_l : Nat) : Int)) ∧
          onSome data_p fun a_4 =>
          StoreP h_7 (a_4.add (Int.toNat (IntKind.wrap .i64 (a + other)) * 1)) (.int .i64 t62) fun h_8 =>
          (I (IntKind.wrap .i64 (idx + 1)) h_8 ∧ mu (IntKind.wrap .i64 (idx + 1)) h_8 < mu idx h_4))
        (fun J =>
          if (decide ((IntKind.wrap .i64 (IntKind.wrap .u64 ((BitVec.ofInt (IntKind.bits .u64) t36 &&& BitVec.ofInt (IntKind.bits .u64) (IntKind.wrap .u64 (t19 - 1))).toNat : Int))) ≥ (IntKind.wrap .i64 (b - a)))) = true then
            J (IntKind.wrap .i64 ((IntKind.wrap .i64 (IntKind.wrap .u64 ((BitVec.ofInt (IntKind.bits .u64) t36 &&& BitVec.ofInt (IntKind.bits .u64) (IntKind.wrap .u64 (t19 - 1))).toNat : Int))) - (IntKind.wrap .i64 (b - a)))) h_5
          else
            J (IntKind.wrap .i64 (IntKind.wrap .u64 ((BitVec.ofInt (IntKind.bits .u64) t36 &&& BitVec.ofInt (IntKind.bits .u64) (IntKind.wrap .u64 (t19 - 1))).toNat : Int))) h_5)
      else
        R (.tuple #[]) h_4
  else
    R (.tuple #[]) h
theorem slices_breakPatternsOrdered_int.den_eq (data_p : Option Addr) (data_l data_c : Nat) (a : Int) (b : Int) (h : Heap) (R : Value → Heap → Prop) : slices_breakPatternsOrdered_int.vc data_p data_l data_c a b h R = den Tryz.prog Tryz.f206.ntmps (.seq .leaf (.seq .leaf (.cond (.seq .leaf (.seq .leaf (.seq .leaf (.block (.loop [(9, .one (.int .i64))] (.seq (.seq .leaf (.cond .leaf .leaf)) (.seq (.block (.seq .leaf (.seq (.seq .leaf (.join [(10, .one (.int .i64))] (.cond .leaf .leaf))) (.plan (.op 0 (.op 1 (.op 2 (.op 3 (.op 4 (.op 5 (.op 6 (.op 7 (.op 8 (.op 9 (.op 10 (.op 11 (.op 12 (.op 13 (.op 14 (.op 15 (.op 16 (.op 17 (.op 18 (.op 19 .done)))))))))))))))))))))))) .leaf))))))) .leaf))) none (bodyOf Tryz.f206) (retK Tryz.prog Tryz.f206.results R) (argEnv [.slice data_p data_l data_c, .int .i64 a, .int .i64 b]) h := by kernel_rfl
theorem slices_breakPatternsOrdered_int.walk {data_p : Option Addr} {data_l data_c : Nat} {a : Int} {b : Int} {h : Heap} {R : Value → Heap → Prop} (hv : slices_breakPatternsOrdered_int.vc data_p data_l data_c a b h R) : CallsH Tryz.prog F.slices_breakPatternsOrdered_int #[.slice data_p data_l data_c, .int .i64 a, .int .i64 b] h R :=
  callsH_of_body _ Tryz.func206 rfl rfl (Eq.mp (slices_breakPatternsOrdered_int.den_eq data_p data_l data_c a b h R) hv)

def slices_order2Ordered_int.vc (data_p : Option Addr) (data_l data_c : Nat) (a : Int) (b : Int) (swaps : Nat) (h : Heap) (R : Value → Heap → Prop) : Prop :=
  ((0 : Int) ≤ b ∧ b < ((data_l : Nat) : Int)) ∧
  onSome data_p fun a_1 =>
  ∃ (t13 : Int), hcell h (a_1.add (Int.toNat b * 1)) = some (.int .i64 t13) ∧
  ((0 : Int) ≤ a ∧ a < ((data_l : Nat) : Int)) ∧
  onSome data_p fun a_2 =>
  ∃ (t17 : Int), hcell h (a_2.add (Int.toNat a * 1)) = some (.int .i64 t17) ∧
  CallsH Tryz.prog F.cmp_Less_int #[.int .i64 t13, .int .i64 t17] h fun v h_1 =>
  ∃ (t18 : Bool), v = .bool t18 ∧
  if t18 = true then
    ∃ (t21 : Int), hcell h_1 ⟨swaps, 0, none⟩ = some (.int .i64 t21) ∧
    StoreP h_1 ⟨swaps, 0, none⟩ (.int .i64 (IntKind.wrap .i64 (t21 + 1))) fun h_2 =>
    R (.tuple #[.int .i64 b, .int .i64 a]) h_2
  else
    R (.tuple #[.int .i64 a, .int .i64 b]) h_1
theorem slices_order2Ordered_int.den_eq (data_p : Option Addr) (data_l data_c : Nat) (a : Int) (b : Int) (swaps : Nat) (h : Heap) (R : Value → Heap → Prop) : slices_order2Ordered_int.vc data_p data_l data_c a b swaps h R = den Tryz.prog Tryz.f264.ntmps (.seq .leaf (.seq (.seq (.plan (.op 0 (.op 1 (.op 2 (.op 3 (.op 4 (.op 5 (.op 6 (.op 7 (.op 8 .done)))))))))) (.cond (.seq .leaf (.seq .leaf .leaf)) .leaf)) (.seq .leaf .leaf))) none (bodyOf Tryz.f264) (retK Tryz.prog Tryz.f264.results R) (argEnv [.slice data_p data_l data_c, .int .i64 a, .int .i64 b, .pointer (some ⟨swaps, 0, none⟩)]) h := by kernel_rfl
theorem slices_order2Ordered_int.walk {data_p : Option Addr} {data_l data_c : Nat} {a : Int} {b : Int} {swaps : Nat} {h : Heap} {R : Value → Heap → Prop} (hv : slices_order2Ordered_int.vc data_p data_l data_c a b swaps h R) : CallsH Tryz.prog F.slices_order2Ordered_int #[.slice data_p data_l data_c, .int .i64 a, .int .i64 b, .pointer (some ⟨swaps, 0, none⟩)] h R :=
  callsH_of_body _ Tryz.func264 rfl rfl (Eq.mp (slices_order2Ordered_int.den_eq data_p data_l data_c a b swaps h R) hv)

def slices_medianOrdered_int.vc (data_p : Option Addr) (data_l data_c : Nat) (a : Int) (b : Int) (c : Int) (swaps : Nat) (h : Heap) (R : Value → Heap → Prop) : Prop :=
  CallsH Tryz.prog F.slices_order2Ordered_int #[.slice data_p data_l data_c, .int .i64 a, .int .i64 b, .pointer (some ⟨swaps, 0, none⟩)] h fun v h_1 =>
  ∃ (t16_0 : Int), ∃ (t16_1 : Int), v = .tuple #[.int .i64 t16_0, .int .i64 t16_1] ∧
  CallsH Tryz.prog F.slices_order2Ordered_int #[.slice data_p data_l data_c, .int .i64 t16_1, .int .i64 c, .pointer (some ⟨swaps, 0, none⟩)] h_1 fun v_1 h_2 =>
  ∃ (t24_0 : Int), ∃ (t24_1 : Int), v_1 = .tuple #[.int .i64 t24_0, .int .i64 t24_1] ∧
  CallsH Tryz.prog F.slices_order2Ordered_int #[.slice data_p data_l data_c, .int .i64 t16_0, .int .i64 t24_0, .pointer (some ⟨swaps, 0, none⟩)] h_2 fun v_2 h_3 =>
  ∃ (t32_0 : Int), ∃ (t32_1 : Int), v_2 = .tuple #[.int .i64 t32_0, .int .i64 t32_1] ∧
  R (.int .i64 t32_1) h_3
theorem slices_medianOrdered_int.den_eq (data_p : Option Addr) (data_l data_c : Nat) (a : Int) (b : Int) (c : Int) (swaps : Nat) (h : Heap) (R : Value → Heap → Prop) : slices_medianOrdered_int.vc data_p data_l data_c a b c swaps h R = den Tryz.prog Tryz.f242.ntmps (.seq .leaf (.seq .leaf (.seq .leaf (.seq .leaf (.seq .leaf .leaf))))) none (bodyOf Tryz.f242) (retK Tryz.prog Tryz.f242.results R) (argEnv [.slice data_p data_l data_c, .int .i64 a, .int .i64 b, .int .i64 c, .pointer (some ⟨swaps, 0, none⟩)]) h := by kernel_rfl
theorem slices_medianOrdered_int.walk {data_p : Option Addr} {data_l data_c : Nat} {a : Int} {b : Int} {c : Int} {swaps : Nat} {h : Heap} {R : Value → Heap → Prop} (hv : slices_medianOrdered_int.vc data_p data_l data_c a b c swaps h R) : CallsH Tryz.prog F.slices_medianOrdered_int #[.slice data_p data_l data_c, .int .i64 a, .int .i64 b, .int .i64 c, .pointer (some ⟨swaps, 0, none⟩)] h R :=
  callsH_of_body _ Tryz.func242 rfl rfl (Eq.mp (slices_medianOrdered_int.den_eq data_p data_l data_c a b c swaps h R) hv)

def slices_medianAdjacentOrdered_int.vc (data_p : Option Addr) (data_l data_c : Nat) (a : Int) (swaps : Nat) (h : Heap) (R : Value → Heap → Prop) : Prop :=
  CallsH Tryz.prog F.slices_medianOrdered_int #[.slice data_p data_l data_c, .int .i64 (IntKind.wrap .i64 (a - 1)), .int .i64 a, .int .i64 (IntKind.wrap .i64 (a + 1)), .pointer (some ⟨swaps, 0, none⟩)] h fun v h_1 =>
  ∃ (t14 : Int), v = .int .i64 t14 ∧
  R (.int .i64 t14) h_1
theorem slices_medianAdjacentOrdered_int.den_eq (data_p : Option Addr) (data_l data_c : Nat) (a : Int) (swaps : Nat) (h : Heap) (R : Value → Heap → Prop) : slices_medianAdjacentOrdered_int.vc data_p data_l data_c a swaps h R = den Tryz.prog Tryz.f241.ntmps (.seq .leaf (.seq .leaf .leaf)) none (bodyOf Tryz.f241) (retK Tryz.prog Tryz.f241.results R) (argEnv [.slice data_p data_l data_c, .int .i64 a, .pointer (some ⟨swaps, 0, none⟩)]) h := by kernel_rfl
theorem slices_medianAdjacentOrdered_int.walk {data_p : Option Addr} {data_l data_c : Nat} {a : Int} {swaps : Nat} {h : Heap} {R : Value → Heap → Prop} (hv : slices_medianAdjacentOrdered_int.vc data_p data_l data_c a swaps h R) : CallsH Tryz.prog F.slices_medianAdjacentOrdered_int #[.slice data_p data_l data_c, .int .i64 a, .pointer (some ⟨swaps, 0, none⟩)] h R :=
  callsH_of_body _ Tryz.func241 rfl rfl (Eq.mp (slices_medianAdjacentOrdered_int.den_eq data_p data_l data_c a swaps h R) hv)

def slices_choosePivotOrdered_int.vc (data_p : Option Addr) (data_l data_c : Nat) (a : Int) (b : Int) (h : Heap) (R : Value → Heap → Prop) : Prop :=
  NewP h (.cells #[.int .i64 0] T.int) fun b_1 h_1 =>
  JoinP (fun (j : Int) (h_2 : Heap) =>
    ∃ (t49 : Int), hcell h_2 ⟨b_1, 0, none⟩ = some (.int .i64 t49) ∧
    if (t49 == 0) = true then
      R (.tuple #[.int .i64 j, .int .i64 1]) h_2
    else
      if (t49 == 12) = true then
        R (.tuple #[.int .i64 j, .int .i64 2]) h_2
      else
        R (.tuple #[.int .i64 j, .int .i64 0]) h_2)
  (fun J =>
    if (decide ((IntKind.wrap .i64 (b - a)) ≥ 8)) = true then
      JoinP (fun (i : Int) (j_1 : Int) (k : Int) (h_3 : Heap) =>
        CallsH Tryz.prog F.slices_medianOrdered_int #[.slice data_p data_l data_c, .int .i64 i, .int .i64 j_1, .int .i64 k, .pointer (some ⟨b_1, 0, none⟩)] h_3 fun v h_4 =>
        ∃ (t48 : Int), v = .int .i64 t48 ∧
        J t48 h_4)
      (fun J_1 =>
        if (decide ((IntKind.wrap .i64 (b - a)) ≥ 50)) = true then
          CallsH Tryz.prog F.slices_medianAdjacentOrdered_int #[.slice data_p data_l data_c, .int .i64 (IntKind.wrap .i64 (a + (IntKind.wrap .i64 ((IntKind.wrap .i64 (Int.tdiv (IntKind.wrap .i64 (b - a)) 4)) * 1)))), .pointer (some ⟨b_1, 0, none⟩)] h_1 fun v_1 h_5 =>
          ∃ (t37 : Int), v_1 = .int .i64 t37 ∧
          CallsH Tryz.prog F.slices_medianAdjacentOrdered_int #[.slice data_p data_l data_c, .int .i64 (IntKind.wrap .i64 (a + (IntKind.wrap .i64 ((IntKind.wrap .i64 (Int.tdiv (IntKind.wrap .i64 (b - a)) 4)) * 2)))), .pointer (some ⟨b_1, 0, none⟩)] h_5 fun v_2 h_6 =>
          ∃ (t40 : Int), v_2 = .int .i64 t40 ∧
          CallsH Tryz.prog F.slices_medianAdjacentOrdered_int #[.slice data_p data_l data_c, .int .i64 (IntKind.wrap .i64 (a + (IntKind.wrap .i64 ((IntKind.wrap .i64 (Int.tdiv (IntKind.wrap .i64 (b - a)) 4)) * 3)))), .pointer (some ⟨b_1, 0, none⟩)] h_6 fun v_3 h_7 =>
          ∃ (t43 : Int), v_3 = .int .i64 t43 ∧
          J_1 t37 t40 t43 h_7
        else
          J_1 (IntKind.wrap .i64 (a + (IntKind.wrap .i64 ((IntKind.wrap .i64 (Int.tdiv (IntKind.wrap .i64 (b - a)) 4)) * 1)))) (IntKind.wrap .i64 (a + (IntKind.wrap .i64 ((IntKind.wrap .i64 (Int.tdiv (IntKind.wrap .i64 (b - a)) 4)) * 2)))) (IntKind.wrap .i64 (a + (IntKind.wrap .i64 ((IntKind.wrap .i64 (Int.tdiv (IntKind.wrap .i64 (b - a)) 4)) * 3)))) h_1)
    else
      J (IntKind.wrap .i64 (a + (IntKind.wrap .i64 ((IntKind.wrap .i64 (Int.tdiv (IntKind.wrap .i64 (b - a)) 4)) * 2)))) h_1)
theorem slices_choosePivotOrdered_int.den_eq (data_p : Option Addr) (data_l data_c : Nat) (a : Int) (b : Int) (h : Heap) (R : Value → Heap → Prop) : slices_choosePivotOrdered_int.vc data_p data_l data_c a b h R = den Tryz.prog Tryz.f207.ntmps (.seq .leaf (.seq .leaf (.seq .leaf (.seq .leaf (.seq .leaf (.seq .leaf (.seq (.seq .leaf (.join [(11, .one (.int .i64))] (.cond (.seq (.seq .leaf (.join [(10, .one (.int .i64)), (11, .one (.int .i64)), (12, .one (.int .i64))] (.cond (.seq .leaf (.seq .leaf .leaf)) .leaf))) .leaf) .leaf))) (.seq .leaf (.block (.seq .leaf (.cond (.seq .leaf .leaf) (.seq .leaf (.cond (.seq .leaf .leaf) (.seq .leaf .leaf)))))))))))))) none (bodyOf Tryz.f207) (retK Tryz.prog Tryz.f207.results R) (argEnv [.slice data_p data_l data_c, .int .i64 a, .int .i64 b]) h := by kernel_rfl
theorem slices_choosePivotOrdered_int.walk {data_p : Option Addr} {data_l data_c : Nat} {a : Int} {b : Int} {h : Heap} {R : Value → Heap → Prop} (hv : slices_choosePivotOrdered_int.vc data_p data_l data_c a b h R) : CallsH Tryz.prog F.slices_choosePivotOrdered_int #[.slice data_p data_l data_c, .int .i64 a, .int .i64 b] h R :=
  callsH_of_body _ Tryz.func207 rfl rfl (Eq.mp (slices_choosePivotOrdered_int.den_eq data_p data_l data_c a b h R) hv)

def slices_reverseRangeOrdered_int.vc (data_p : Option Addr) (data_l data_c : Nat) (a : Int) (b : Int) (h : Heap) (R : Value → Heap → Prop) : Prop :=
  ∃ (I : Int → Int → Heap → Prop) (mu : Int → Int → Heap → Nat), I a (IntKind.wrap .i64 (b - 1)) h ∧ ∀ (i : Int) (j : Int) (h_1 : Heap), I i j h_1 →
    if (decide (i < j)) = true then
      ((0 : Int) ≤ j ∧ j < ((data_l : Nat) : Int)) ∧
      onSome data_p fun a_1 =>
      ∃ (t21 : Int), hcell h_1 (a_1.add (Int.toNat j * 1)) = some (.int .i64 t21) ∧
      ((0 : Int) ≤ i ∧ i < ((data_l : Nat) : Int)) ∧
      onSome data_p fun a_2 =>
      ∃ (t25 : Int), hcell h_1 (a_2.add (Int.toNat i * 1)) = some (.int .i64 t25) ∧
      ((0 : Int) ≤ i ∧ i < ((data_l : Nat) : Int)) ∧
      onSome data_p fun a_3 =>
      StoreP h_1 (a_3.add (Int.toNat i * 1)) (.int .i64 t21) fun h_2 =>
      ((0 : Int) ≤ j ∧ j < ((data_l : Nat) : Int)) ∧
      onSome data_p fun a_4 =>
      StoreP h_2 (a_4.add (Int.toNat j * 1)) (.int .i64 t25) fun h_3 =>
      (I (IntKind.wrap .i64 (i + 1)) (IntKind.wrap .i64 (j - 1)) h_3 ∧ mu (IntKind.wrap .i64 (i + 1)) (IntKind.wrap .i64 (j - 1)) h_3 < mu i j h_1)
    else
      R (.tuple #[]) h_1
theorem slices_reverseRangeOrdered_int.den_eq (data_p : Option Addr) (data_l data_c : Nat) (a : Int) (b : Int) (h : Heap) (R : Value → Heap → Prop) : slices_reverseRangeOrdered_int.vc data_p data_l data_c a b h R = den Tryz.prog Tryz.f208.ntmps (.seq .leaf (.seq .leaf (.block (.loop [(6, .one (.int .i64)), (7, .one (.int .i64))] (.seq (.seq .leaf (.cond .leaf .leaf)) (.block (.seq (.plan (.op 0 (.op 1 (.op 2 (.op 3 (.op 4 (.op 5 (.op 6 (.op 7 (.op 8 (.op 9 (.op 10 (.op 11 (.op 12 (.op 13 (.op 14 (.op 15 .done))))))))))))))))) (.seq .leaf .leaf)))))))) none (bodyOf Tryz.f208) (retK Tryz.prog Tryz.f208.results R) (argEnv [.slice data_p data_l data_c, .int .i64 a, .int .i64 b]) h := by kernel_rfl
theorem slices_reverseRangeOrdered_int.walk {data_p : Option Addr} {data_l data_c : Nat} {a : Int} {b : Int} {h : Heap} {R : Value → Heap → Prop} (hv : slices_reverseRangeOrdered_int.vc data_p data_l data_c a b h R) : CallsH Tryz.prog F.slices_reverseRangeOrdered_int #[.slice data_p data_l data_c, .int .i64 a, .int .i64 b] h R :=
  callsH_of_body _ Tryz.func208 rfl rfl (Eq.mp (slices_reverseRangeOrdered_int.den_eq data_p data_l data_c a b h R) hv)

def slices_partialInsertionSortOrdered_int.vc (data_p : Option Addr) (data_l data_c : Nat) (a : Int) (b : Int) (h : Heap) (R : Value → Heap → Prop) : Prop :=
  ∃ (I : Int → Int → Heap → Prop) (mu : Int → Int → Heap → Nat), I (IntKind.wrap .i64 (a + 1)) 0 h ∧ ∀ (i : Int) (j : Int) (h_1 : Heap), I i j h_1 →
    if (decide (j < 5)) = true then
      JoinP (fun (i_1 : Int) (h_2 : Heap) =>
        (I i_1 (IntKind.wrap .i64 (j + 1)) h_2 ∧ mu i_1 (IntKind.wrap .i64 (j + 1)) h_2 < mu i j h_1))
      (fun J =>
        ∃ (I_1 : Int → Heap → Prop) (mu_1 : Int → Heap → Nat), I_1 i h_1 ∧ ∀ (i_2 : Int) (h_3 : Heap), I_1 i_2 h_3 →
          JoinP (fun (t32 : Bool) (h_4 : Heap) =>
            if t32 = true then
              (I_1 (IntKind.wrap .i64 (i_2 + 1)) h_4 ∧ mu_1 (IntKind.wrap .i64 (i_2 + 1)) h_4 < mu_1 i_2 h_3)
            else
              if (i_2 == b) = true then
                R (.bool true) h_4
              else
                if (decide ((IntKind.wrap .i64 (b - a)) < 50)) = true then
                  R (.bool false) h_4
                else
                  ((0 : Int) ≤ IntKind.wrap .i64 (i_2 - 1) ∧ IntKind.wrap .i64 (i_2 - 1) < ((data_l : Nat) : Int)) ∧
                  onSome data_p fun a_1 =>
                  ∃ (t51 : Int), hcell h_4 (a_1.add (Int.toNat (IntKind.wrap .i64 (i_2 - 1)) * 1)) = some (.int .i64 t51) ∧
                  ((0 : Int) ≤ i_2 ∧ i_2 < ((data_l : Nat) : Int)) ∧
                  onSome data_p fun a_2 =>
                  ∃ (t55 : Int), hcell h_4 (a_2.add (Int.toNat i_2 * 1)) = some (.int .i64 t55) ∧
                  ((0 : Int) ≤ i_2 ∧ i_2 < ((data_l : Nat) : Int)) ∧
                  onSome data_p fun a_3 =>
                  StoreP h_4 (a_3.add (Int.toNat i_2 * 1)) (.int .i64 t51) fun h_5 =>
                  ((0 : Int) ≤ IntKind.wrap .i64 (i_2 - 1) ∧ IntKind.wrap .i64 (i_2 - 1) < ((data_l : Nat) : Int)) ∧
                  onSome data_p fun a_4 =>
                  StoreP h_5 (a_4.add (Int.toNat (IntKind.wrap .i64 (i_2 - 1)) * 1)) (.int .i64 t55) fun h_6 =>
                  JoinP (fun (h_7 : Heap) =>
                    JoinP (fun (h_8 : Heap) =>
                      J i_2 h_8)
                    (fun J_3 =>
                      if (decide ((IntKind.wrap .i64 (b - i_2)) ≥ 2)) = true then
                        JoinP (fun (h_9 : Heap) =>
                          J_3 h_9)
                        (fun J_4 =>
                          ∃ (I_2 : Int → Heap → Prop) (mu_2 : Int → Heap → Nat), I_2 (IntKind.wrap .i64 (i_2 + 1)) h_7 ∧ ∀ (j_1 : Int) (h_10 : Heap), I_2 j_1 h_10 →
                            if (decide (j_1 < b)) = true then
                              ((0 : Int) ≤ j_1 ∧ j_1 < ((data_l : Nat) : Int)) ∧
                              onSome data_p fun a_5 =>
                              ∃ (t109 : Int), hcell h_10 (a_5.add (Int.toNat j_1 * 1)) = some (.int .i64 t109) ∧
                              ((0 : Int) ≤ IntKind.wrap .i64 (j_1 - 1) ∧ IntKind.wrap .i64 (j_1 - 1) < ((data_l : Nat) : Int)) ∧
                              onSome data_p fun a_6 =>
                              ∃ (t114 : Int), hcell h_10 (a_6.add (Int.toNat (IntKind.wrap .i64 (j_1 - 1)) * 1)) = some (.int .i64 t114) ∧
                              CallsH Tryz.prog F.cmp_Less_int #[.int .i64 t109, .int .i64 t114] h_10 fun v h_11 =>
                              ∃ (t115 : Bool), v = .bool t115 ∧
                              if (!t115) = true then
                                J_4 h_11
                              else
                                ((0 : Int) ≤ IntKind.wrap .i64 (j_1 - 1) ∧ IntKind.wrap .i64 (j_1 - 1) < ((data_l : Nat) : Int)) ∧
                                onSome data_p fun a_7 =>
                                ∃ (t126 : Int), hcell h_11 (a_7.add (Int.toNat (IntKind.wrap .i64 (j_1 - 1)) * 1)) = some (.int .i64 t126) ∧
                                ((0 : Int) ≤ j_1 ∧ j_1 < ((data_l : Nat) : Int)) ∧
                                onSome data_p fun a_8 =>
                                ∃ (t130 : Int), hcell h_11 (a_8.add (Int.toNat j_1 * 1)) = some (.int .i64 t130) ∧
                                ((0 : Int) ≤ j_1 ∧ j_1 < ((data_l : Nat) : Int)) ∧
                                onSome data_p fun a_9 =>
                                StoreP h_11 (a_9.add (Int.toNat j_1 * 1)) (.int .i64 t126) fun h_12 =>
                                ((0 : Int) ≤ IntKind.wrap .i64 (j_1 - 1) ∧ IntKind.wrap .i64 (j_1 - 1) < ((data_l : Nat) : Int)) ∧
                                onSome data_p fun a_10 =>
                                StoreP h_12 (a_10.add (Int.toNat (IntKind.wrap .i64 (j_1 - 1)) * 1)) (.int .i64 t130) fun h_13 =>
                                (I_2 (IntKind.wrap .i64 (j_1 + 1)) h_13 ∧ mu_2 (IntKind.wrap .i64 (j_1 + 1)) h_13 < mu_2 j_1 h_10)
                            else
                              J_4 h_10)
                      else
                        J_3 h_7))
                  (fun J_2 =>
                    if (decide ((IntKind.wrap .i64 (i_2 - a)) ≥ 2)) = true then
                      JoinP (fun (h_14 : Heap) =>
                        J_2 h_14)
                      (fun J_5 =>
                        ∃ (I_3 : Int → Heap → Prop) (mu_3 : Int → Heap → Nat), I_3 (IntKind.wrap .i64 (i_2 - 1)) h_6 ∧ ∀ (j_2 : Int) (h_15 : Heap), I_3 j_2 h_15 →
                          if (decide (j_2 ≥ 1)) = true then
                            ((0 : Int) ≤ j_2 ∧ j_2 < ((data_l : Nat) : Int)) ∧
                            onSome data_p fun a_11 =>
                            ∃ (t71 : Int), hcell h_15 (a_11.add (Int.toNat j_2 * 1)) = some (.int .i64 t71) ∧
                            ((0 : Int) ≤ IntKind.wrap .i64 (j_2 - 1) ∧ IntKind.wrap .i64 (j_2 - 1) < ((data_l : Nat) : Int)) ∧
                            onSome data_p fun a_12 =>
                            ∃ (t76 : Int), hcell h_15 (a_12.add (Int.toNat (IntKind.wrap .i64 (j_2 - 1)) * 1)) = some (.int .i64 t76) ∧
                            CallsH Tryz.prog F.cmp_Less_int #[.int .i64 t71, .int .i64 t76] h_15 fun v_1 h_16 =>
                            ∃ (t77 : Bool), v_1 = .bool t77 ∧
                            if (!t77) = true then
                              J_5 h_16
                            else
                              ((0 : Int) ≤ IntKind.wrap .i64 (j_2 - 1) ∧ IntKind.wrap .i64 (j_2 - 1) < ((data_l : Nat) : Int)) ∧
                              onSome data_p fun a_13 =>
                              ∃ (t88 : Int), hcell h_16 (a_13.add (Int.toNat (IntKind.wrap .i64 (j_2 - 1)) * 1)) = some (.int .i64 t88) ∧
                              ((0 : Int) ≤ j_2 ∧ j_2 < ((data_l : Nat) : Int)) ∧
                              onSome data_p fun a_14 =>
                              ∃ (t92 : Int), hcell h_16 (a_14.add (Int.toNat j_2 * 1)) = some (.int .i64 t92) ∧
                              ((0 : Int) ≤ j_2 ∧ j_2 < ((data_l : Nat) : Int)) ∧
                              onSome data_p fun a_15 =>
                              StoreP h_16 (a_15.add (Int.toNat j_2 * 1)) (.int .i64 t88) fun h_17 =>
                              ((0 : Int) ≤ IntKind.wrap .i64 (j_2 - 1) ∧ IntKind.wrap .i64 (j_2 - 1) < ((data_l : Nat) : Int)) ∧
                              onSome data_p fun a_16 =>
                              StoreP h_17 (a_16.add (Int.toNat (IntKind.wrap .i64 (j_2 - 1)) * 1)) (.int .i64 t92) fun h_18 =>
                              (I_3 (IntKind.wrap .i64 (j_2 - 1)) h_18 ∧ mu_3 (IntKind.wrap .i64 (j_2 - 1)) h_18 < mu_3 j_2 h_15)
                          else
                            J_5 h_15)
                    else
                      J_2 h_6))
          (fun J_1 =>
            if (decide (i_2 < b)) = true then
              ((0 : Int) ≤ i_2 ∧ i_2 < ((data_l : Nat) : Int)) ∧
              onSome data_p fun a_17 =>
              ∃ (t24 : Int), hcell h_3 (a_17.add (Int.toNat i_2 * 1)) = some (.int .i64 t24) ∧
              ((0 : Int) ≤ IntKind.wrap .i64 (i_2 - 1) ∧ IntKind.wrap .i64 (i_2 - 1) < ((data_l : Nat) : Int)) ∧
              onSome data_p fun a_18 =>
              ∃ (t29 : Int), hcell h_3 (a_18.add (Int.toNat (IntKind.wrap .i64 (i_2 - 1)) * 1)) = some (.int .i64 t29) ∧
              CallsH Tryz.prog F.cmp_Less_int #[.int .i64 t24, .int .i64 t29] h_3 fun v_2 h_19 =>
              ∃ (t30 : Bool), v_2 = .bool t30 ∧
              J_1 (!t30) h_19
            else
              J_1 false h_3))
    else
      R (.bool false) h_1
theorem slices_partialInsertionSortOrdered_int.den_eq (data_p : Option Addr) (data_l data_c : Nat) (a : Int) (b : Int) (h : Heap) (R : Value → Heap → Prop) : slices_partialInsertionSortOrdered_int.vc data_p data_l data_c a b h R = den Tryz.prog Tryz.f209.ntmps (.seq .leaf (.seq .leaf (.seq (.seq .leaf (.block (.loop [(7, .one (.int .i64)), (8, .one (.int .i64))] (.seq (.seq .leaf (.cond .leaf .leaf)) (.seq (.join [(7, .one (.int .i64))] (.block (.seq (.block (.loop [(7, .one (.int .i64))] (.seq (.seq (.join [(32, .one (.bool))] (.plan (.op 0 (.op 1 (.op 2 (.op 3 (.op 4 (.op 5 (.op 6 (.op 7 (.op 8 (.op 9 (.op 10 (.op 11 (.op 12 (.op 13 (.op 14 (.op 15 .done)))))))))))))))))) (.cond .leaf .leaf)) (.block .leaf)))) (.seq (.seq .leaf (.cond (.seq .leaf .leaf) .leaf)) (.seq (.seq .leaf (.cond (.seq .leaf .leaf) .leaf)) (.seq (.plan (.op 0 (.op 1 (.op 2 (.op 3 (.op 4 (.op 5 (.op 6 (.op 7 (.op 8 (.op 9 (.op 10 (.op 11 (.op 12 (.op 13 (.op 14 (.op 15 (.op 16 (.op 17 .done))))))))))))))))))) (.seq (.seq .leaf (.join [] (.cond (.seq .leaf (.join [] (.block (.loop [(9, .one (.int .i64))] (.seq (.seq .leaf (.cond .leaf .leaf)) (.seq (.block (.seq (.seq (.plan (.op 0 (.op 1 (.op 2 (.op 3 (.op 4 (.op 5 (.op 6 (.op 7 (.op 8 (.op 9 (.op 10 .done)))))))))))) (.cond .leaf .leaf)) (.plan (.op 0 (.op 1 (.op 2 (.op 3 (.op 4 (.op 5 (.op 6 (.op 7 (.op 8 (.op 9 (.op 10 (.op 11 (.op 12 (.op 13 (.op 14 (.op 15 (.op 16 (.op 17 .done))))))))))))))))))))) .leaf)))))) .leaf))) (.seq .leaf (.join [] (.cond (.seq .leaf (.join [] (.block (.loop [(10, .one (.int .i64))] (.seq (.seq .leaf (.cond .leaf .leaf)) (.seq (.block (.seq (.seq (.plan (.op 0 (.op 1 (.op 2 (.op 3 (.op 4 (.op 5 (.op 6 (.op 7 (.op 8 (.op 9 (.op 10 .done)))))))))))) (.cond .leaf .leaf)) (.plan (.op 0 (.op 1 (.op 2 (.op 3 (.op 4 (.op 5 (.op 6 (.op 7 (.op 8 (.op 9 (.op 10 (.op 11 (.op 12 (.op 13 (.op 14 (.op 15 (.op 16 (.op 17 .done))))))))))))))))))))) .leaf)))))) .leaf)))))))))) .leaf))))) (.seq .leaf .leaf)))) none (bodyOf Tryz.f209) (retK Tryz.prog Tryz.f209.results R) (argEnv [.slice data_p data_l data_c, .int .i64 a, .int .i64 b]) h := by kernel_rfl
theorem slices_partialInsertionSortOrdered_int.walk {data_p : Option Addr} {data_l data_c : Nat} {a : Int} {b : Int} {h : Heap} {R : Value → Heap → Prop} (hv : slices_partialInsertionSortOrdered_int.vc data_p data_l data_c a b h R) : CallsH Tryz.prog F.slices_partialInsertionSortOrdered_int #[.slice data_p data_l data_c, .int .i64 a, .int .i64 b] h R :=
  callsH_of_body _ Tryz.func209 rfl rfl (Eq.mp (slices_partialInsertionSortOrdered_int.den_eq data_p data_l data_c a b h R) hv)

def slices_partitionEqualOrdered_int.vc (data_p : Option Addr) (data_l data_c : Nat) (a : Int) (b : Int) (pivot : Int) (h : Heap) (R : Value → Heap → Prop) : Prop :=
  ((0 : Int) ≤ pivot ∧ pivot < ((data_l : Nat) : Int)) ∧
  onSome data_p fun a_1 =>
  ∃ (t18 : Int), hcell h (a_1.add (Int.toNat pivot * 1)) = some (.int .i64 t18) ∧
  ((0 : Int) ≤ a ∧ a < ((data_l : Nat) : Int)) ∧
  onSome data_p fun a_2 =>
  ∃ (t22 : Int), hcell h (a_2.add (Int.toNat a * 1)) = some (.int .i64 t22) ∧
  ((0 : Int) ≤ a ∧ a < ((data_l : Nat) : Int)) ∧
  onSome data_p fun a_3 =>
  StoreP h (a_3.add (Int.toNat a * 1)) (.int .i64 t18) fun h_1 =>
  ((0 : Int) ≤ pivot ∧ pivot < ((data_l : Nat) : Int)) ∧
  onSome data_p fun a_4 =>
  StoreP h_1 (a_4.add (Int.toNat pivot * 1)) (.int .i64 t22) fun h_2 =>
  ∃ (I : Int → Int → Heap → Prop) (mu : Int → Int → Heap → Nat), I (IntKind.wrap .i64 (a + 1)) (IntKind.wrap .i64 (b - 1)) h_2 ∧ ∀ (i : Int) (j : Int) (h_3 : Heap), I i j h_3 →
    ∃ (I_1 : Int → Heap → Prop) (mu_1 : Int → Heap → Nat), I_1 i h_3 ∧ ∀ (i_1 : Int) (h_4 : Heap), I_1 i_1 h_4 →
      JoinP (fun (t43 : Bool) (h_5 : Heap) =>
        if t43 = true then
          (I_1 (IntKind.wrap .i64 (i_1 + 1)) h_5 ∧ mu_1 (IntKind.wrap .i64 (i_1 + 1)) h_5 < mu_1 i_1 h_4)
        else
          ∃ (I_2 : Int → Heap → Prop) (mu_2 : Int → Heap → Nat), I_2 j h_5 ∧ ∀ (j_1 : Int) (h_6 : Heap), I_2 j_1 h_6 →
            JoinP (fun (t59 : Bool) (h_7 : Heap) =>
              if t59 = true then
                (I_2 (IntKind.wrap .i64 (j_1 - 1)) h_7 ∧ mu_2 (IntKind.wrap .i64 (j_1 - 1)) h_7 < mu_2 j_1 h_6)
              else
                if (decide (i_1 > j_1)) = true then
                  R (.int .i64 i_1) h_7
                else
                  ((0 : Int) ≤ j_1 ∧ j_1 < ((data_l : Nat) : Int)) ∧
                  onSome data_p fun a_5 =>
                  ∃ (t72 : Int), hcell h_7 (a_5.add (Int.toNat j_1 * 1)) = some (.int .i64 t72) ∧
                  ((0 : Int) ≤ i_1 ∧ i_1 < ((data_l : Nat) : Int)) ∧
                  onSome data_p fun a_6 =>
                  ∃ (t76 : Int), hcell h_7 (a_6.add (Int.toNat i_1 * 1)) = some (.int .i64 t76) ∧
                  ((0 : Int) ≤ i_1 ∧ i_1 < ((data_l : Nat) : Int)) ∧
                  onSome data_p fun a_7 =>
                  StoreP h_7 (a_7.add (Int.toNat i_1 * 1)) (.int .i64 t72) fun h_8 =>
                  ((0 : Int) ≤ j_1 ∧ j_1 < ((data_l : Nat) : Int)) ∧
                  onSome data_p fun a_8 =>
                  StoreP h_8 (a_8.add (Int.toNat j_1 * 1)) (.int .i64 t76) fun h_9 =>
                  (I (IntKind.wrap .i64 (i_1 + 1)) (IntKind.wrap .i64 (j_1 - 1)) h_9 ∧ mu (IntKind.wrap .i64 (i_1 + 1)) (IntKind.wrap .i64 (j_1 - 1)) h_9 < mu i j h_3))
            (fun J_1 =>
              if (decide (i_1 ≤ j_1)) = true then
                ((0 : Int) ≤ a ∧ a < ((data_l : Nat) : Int)) ∧
                onSome data_p fun a_9 =>
                ∃ (t53 : Int), hcell h_6 (a_9.add (Int.toNat a * 1)) = some (.int .i64 t53) ∧
                ((0 : Int) ≤ j_1 ∧ j_1 < ((data_l : Nat) : Int)) ∧
                onSome data_p fun a_10 =>
                ∃ (t57 : Int), hcell h_6 (a_10.add (Int.toNat j_1 * 1)) = some (.int .i64 t57) ∧
                CallsH Tryz.prog F.cmp_Less_int #[.int .i64 t53, .int .i64 t57] h_6 fun v h_10 =>
                ∃ (t58 : Bool), v = .bool t58 ∧
                J_1 t58 h_10
              else
                J_1 false h_6))
      (fun J =>
        if (decide (i_1 ≤ j)) = true then
          ((0 : Int) ≤ a ∧ a < ((data_l : Nat) : Int)) ∧
          onSome data_p fun a_11 =>
          ∃ (t36 : Int), hcell h_4 (a_11.add (Int.toNat a * 1)) = some (.int .i64 t36) ∧
          ((0 : Int) ≤ i_1 ∧ i_1 < ((data_l : Nat) : Int)) ∧
          onSome data_p fun a_12 =>
          ∃ (t40 : Int), hcell h_4 (a_12.add (Int.toNat i_1 * 1)) = some (.int .i64 t40) ∧
          CallsH Tryz.prog F.cmp_Less_int #[.int .i64 t36, .int .i64 t40] h_4 fun v_1 h_11 =>
          ∃ (t41 : Bool), v_1 = .bool t41 ∧
          J (!t41) h_11
        else
          J false h_4)
theorem slices_partitionEqualOrdered_int.den_eq (data_p : Option Addr) (data_l data_c : Nat) (a : Int) (b : Int) (pivot : Int) (h : Heap) (R : Value → Heap → Prop) : slices_partitionEqualOrdered_int.vc data_p data_l data_c a b pivot h R = den Tryz.prog Tryz.f211.ntmps (.seq .leaf (.seq (.plan (.op 0 (.op 1 (.op 2 (.op 3 (.op 4 (.op 5 (.op 6 (.op 7 (.op 8 (.op 9 (.op 10 (.op 11 (.op 12 (.op 13 (.op 14 (.op 15 .done))))))))))))))))) (.seq .leaf (.seq (.block (.loop [(9, .one (.int .i64)), (10, .one (.int .i64))] (.block (.seq (.block (.loop [(9, .one (.int .i64))] (.seq (.seq (.join [(43, .one (.bool))] (.plan (.op 0 (.op 1 (.op 2 (.op 3 (.op 4 (.op 5 (.op 6 (.op 7 (.op 8 (.op 9 (.op 10 (.op 11 (.op 12 (.op 13 (.op 14 .done))))))))))))))))) (.cond .leaf .leaf)) (.block .leaf)))) (.seq (.block (.loop [(10, .one (.int .i64))] (.seq (.seq (.join [(59, .one (.bool))] (.plan (.op 0 (.op 1 (.op 2 (.op 3 (.op 4 (.op 5 (.op 6 (.op 7 (.op 8 (.op 9 (.op 10 (.op 11 (.op 12 (.op 13 .done)))))))))))))))) (.cond .leaf .leaf)) (.block .leaf)))) (.seq (.seq .leaf (.cond .leaf .leaf)) (.seq (.plan (.op 0 (.op 1 (.op 2 (.op 3 (.op 4 (.op 5 (.op 6 (.op 7 (.op 8 (.op 9 (.op 10 (.op 11 (.op 12 (.op 13 (.op 14 (.op 15 .done))))))))))))))))) (.seq .leaf .leaf)))))))) (.seq .leaf .leaf))))) none (bodyOf Tryz.f211) (retK Tryz.prog Tryz.f211.results R) (argEnv [.slice data_p data_l data_c, .int .i64 a, .int .i64 b, .int .i64 pivot]) h := by kernel_rfl
theorem slices_partitionEqualOrdered_int.walk {data_p : Option Addr} {data_l data_c : Nat} {a : Int} {b : Int} {pivot : Int} {h : Heap} {R : Value → Heap → Prop} (hv : slices_partitionEqualOrdered_int.vc data_p data_l data_c a b pivot h R) : CallsH Tryz.prog F.slices_partitionEqualOrdered_int #[.slice data_p data_l data_c, .int .i64 a, .int .i64 b, .int .i64 pivot] h R :=
  callsH_of_body _ Tryz.func211 rfl rfl (Eq.mp (slices_partitionEqualOrdered_int.den_eq data_p data_l data_c a b pivot h R) hv)

def slices_partitionOrdered_int.vc (data_p : Option Addr) (data_l data_c : Nat) (a : Int) (b : Int) (pivot : Int) (h : Heap) (R : Value → Heap → Prop) : Prop :=
  ((0 : Int) ≤ pivot ∧ pivot < ((data_l : Nat) : Int)) ∧
  onSome data_p fun a_1 =>
  ∃ (t19 : Int), hcell h (a_1.add (Int.toNat pivot * 1)) = some (.int .i64 t19) ∧
  ((0 : Int) ≤ a ∧ a < ((data_l : Nat) : Int)) ∧
  onSome data_p fun a_2 =>
  ∃ (t23 : Int), hcell h (a_2.add (Int.toNat a * 1)) = some (.int .i64 t23) ∧
  ((0 : Int) ≤ a ∧ a < ((data_l : Nat) : Int)) ∧
  onSome data_p fun a_3 =>
  StoreP h (a_3.add (Int.toNat a * 1)) (.int .i64 t19) fun h_1 =>
  ((0 : Int) ≤ pivot ∧ pivot < ((data_l : Nat) : Int)) ∧
  onSome data_p fun a_4 =>
  StoreP h_1 (a_4.add (Int.toNat pivot * 1)) (.int .i64 t23) fun h_2 =>
  ∃ (I : Int → Heap → Prop) (mu : Int → Heap → Nat), I (IntKind.wrap .i64 (a + 1)) h_2 ∧ ∀ (i : Int) (h_3 : Heap), I i h_3 →
    JoinP (fun (t43 : Bool) (h_4 : Heap) =>
      if t43 = true then
        (I (IntKind.wrap .i64 (i + 1)) h_4 ∧ mu (IntKind.wrap .i64 (i + 1)) h_4 < mu i h_3)
      else
        ∃ (I_1 : Int → Heap → Prop) (mu_1 : Int → Heap → Nat), I_1 (IntKind.wrap .i64 (b - 1)) h_4 ∧ ∀ (j : Int) (h_5 : Heap), I_1 j h_5 →
          JoinP (fun (t60 : Bool) (h_6 : Heap) =>
            if t60 = true then
              (I_1 (IntKind.wrap .i64 (j - 1)) h_6 ∧ mu_1 (IntKind.wrap .i64 (j - 1)) h_6 < mu_1 j h_5)
            else
              if (decide (i > j)) = true then
                ((0 : Int) ≤ a ∧ a < ((data_l : Nat) : Int)) ∧
                onSome data_p fun a_5 =>
                ∃ (t73 : Int), hcell h_6 (a_5.add (Int.toNat a * 1)) = some (.int .i64 t73) ∧
                ((0 : Int) ≤ j ∧ j < ((data_l : Nat) : Int)) ∧
                onSome data_p fun a_6 =>
                ∃ (t77 : Int), hcell h_6 (a_6.add (Int.toNat j * 1)) = some (.int .i64 t77) ∧
                ((0 : Int) ≤ j ∧ j < ((data_l : Nat) : Int)) ∧
                onSome data_p fun a_7 =>
                StoreP h_6 (a_7.add (Int.toNat j * 1)) (.int .i64 t73) fun h_7 =>
                ((0 : Int) ≤ a ∧ a < ((data_l : Nat) : Int)) ∧
                onSome data_p fun a_8 =>
                StoreP h_7 (a_8.add (Int.toNat a * 1)) (.int .i64 t77) fun h_8 =>
                R (.tuple #[.int .i64 j, .bool true]) h_8
              else
                ((0 : Int) ≤ j ∧ j < ((data_l : Nat) : Int)) ∧
                onSome data_p fun a_9 =>
                ∃ (t88 : Int), hcell h_6 (a_9.add (Int.toNat j * 1)) = some (.int .i64 t88) ∧
                ((0 : Int) ≤ i ∧ i < ((data_l : Nat) : Int)) ∧
                onSome data_p fun a_10 =>
                ∃ (t92 : Int), hcell h_6 (a_10.add (Int.toNat i * 1)) = some (.int .i64 t92) ∧
                ((0 : Int) ≤ i ∧ i < ((data_l : Nat) : Int)) ∧
                onSome data_p fun a_11 =>
                StoreP h_6 (a_11.add (Int.toNat i * 1)) (.int .i64 t88) fun h_9 =>
                ((0 : Int) ≤ j ∧ j < ((data_l : Nat) : Int)) ∧
                onSome data_p fun a_12 =>
                StoreP h_9 (a_12.add (Int.toNat j * 1)) (.int .i64 t92) fun h_10 =>
                ∃ (I_2 : Int → Int → Heap → Prop) (mu_2 : Int → Int → Heap → Nat), I_2 (IntKind.wrap .i64 (i + 1)) (IntKind.wrap .i64 (j - 1)) h_10 ∧ ∀ (i_1 : Int) (j_1 : Int) (h_11 : Heap), I_2 i_1 j_1 h_11 →
                  ∃ (I_3 : Int → Heap → Prop) (mu_3 : Int → Heap → Nat), I_3 i_1 h_11 ∧ ∀ (i_2 : Int) (h_12 : Heap), I_3 i_2 h_12 →
                    JoinP (fun (t112 : Bool) (h_13 : Heap) =>
                      if t112 = true then
                        (I_3 (IntKind.wrap .i64 (i_2 + 1)) h_13 ∧ mu_3 (IntKind.wrap .i64 (i_2 + 1)) h_13 < mu_3 i_2 h_12)
                      else
                        ∃ (I_4 : Int → Heap → Prop) (mu_4 : Int → Heap → Nat), I_4 j_1 h_13 ∧ ∀ (j_2 : Int) (h_14 : Heap), I_4 j_2 h_14 →
                          JoinP (fun (t129 : Bool) (h_15 : Heap) =>
                            if t129 = true then
                              (I_4 (IntKind.wrap .i64 (j_2 - 1)) h_15 ∧ mu_4 (IntKind.wrap .i64 (j_2 - 1)) h_15 < mu_4 j_2 h_14)
                            else
                              if (decide (i_2 > j_2)) = true then
                                ((0 : Int) ≤ a ∧ a < ((data_l : Nat) : Int)) ∧
                                onSome data_p fun a_13 =>
                                ∃ (t160 : Int), hcell h_15 (a_13.add (Int.toNat a * 1)) = some (.int .i64 t160) ∧
                                ((0 : Int) ≤ j_2 ∧ j_2 < ((data_l : Nat) : Int)) ∧
                                onSome data_p fun a_14 =>
                                ∃ (t164 : Int), hcell h_15 (a_14.add (Int.toNat j_2 * 1)) = some (.int .i64 t164) ∧
                                ((0 : Int) ≤ j_2 ∧ j_2 < ((data_l : Nat) : Int)) ∧
                                onSome data_p fun a_15 =>
                                StoreP h_15 (a_15.add (Int.toNat j_2 * 1)) (.int .i64 t160) fun h_16 =>
                                ((0 : Int) ≤ a ∧ a < ((data_l : Nat) : Int)) ∧
                                onSome data_p fun a_16 =>
                                StoreP h_16 (a_16.add (Int.toNat a * 1)) (.int .i64 t164) fun h_17 =>
                                R (.tuple #[.int .i64 j_2, .bool false]) h_17
                              else
                                ((0 : Int) ≤ j_2 ∧ j_2 < ((data_l : Nat) : Int)) ∧
                                onSome data_p fun a_17 =>
                                ∃ (t142 : Int), hcell h_15 (a_17.add (Int.toNat j_2 * 1)) = some (.int .i64 t142) ∧
                                ((0 : Int) ≤ i_2 ∧ i_2 < ((data_l : Nat) : Int)) ∧
                                onSome data_p fun a_18 =>
                                ∃ (t146 : Int), hcell h_15 (a_18.add (Int.toNat i_2 * 1)) = some (.int .i64 t146) ∧
                                ((0 : Int) ≤ i_2 ∧ i_2 < ((data_l : Nat) : Int)) ∧
                                onSome data_p fun a_19 =>
                                StoreP h_15 (a_19.add (Int.toNat i_2 * 1)) (.int .i64 t142) fun h_18 =>
                                ((0 : Int) ≤ j_2 ∧ j_2 < ((data_l : Nat) : Int)) ∧
                                onSome data_p fun a_20 =>
                                StoreP h_18 (a_20.add (Int.toNat j_2 * 1)) (.int .i64 t146) fun h_19 =>
                                (I_2 (IntKind.wrap .i64 (i_2 + 1)) (IntKind.wrap .i64 (j_2 - 1)) h_19 ∧ mu_2 (IntKind.wrap .i64 (i_2 + 1)) (IntKind.wrap .i64 (j_2 - 1)) h_19 < mu_2 i_1 j_1 h_11))
                          (fun J_3 =>
                            if (decide (i_2 ≤ j_2)) = true then
                              ((0 : Int) ≤ j_2 ∧ j_2 < ((data_l : Nat) : Int)) ∧
                              onSome data_p fun a_21 =>
                              ∃ (t122 : Int), hcell h_14 (a_21.add (Int.toNat j_2 * 1)) = some (.int .i64 t122) ∧
                              ((0 : Int) ≤ a ∧ a < ((data_l : Nat) : Int)) ∧
                              onSome data_p fun a_22 =>
                              ∃ (t126 : Int), hcell h_14 (a_22.add (Int.toNat a * 1)) = some (.int .i64 t126) ∧
                              CallsH Tryz.prog F.cmp_Less_int #[.int .i64 t122, .int .i64 t126] h_14 fun v h_20 =>
                              ∃ (t127 : Bool), v = .bool t127 ∧
                              J_3 (!t127) h_20
                            else
                              J_3 false h_14))
                    (fun J_2 =>
                      if (decide (i_2 ≤ j_1)) = true then
                        ((0 : Int) ≤ i_2 ∧ i_2 < ((data_l : Nat) : Int)) ∧
                        onSome data_p fun a_23 =>
                        ∃ (t106 : Int), hcell h_12 (a_23.add (Int.toNat i_2 * 1)) = some (.int .i64 t106) ∧
                        ((0 : Int) ≤ a ∧ a < ((data_l : Nat) : Int)) ∧
                        onSome data_p fun a_24 =>
                        ∃ (t110 : Int), hcell h_12 (a_24.add (Int.toNat a * 1)) = some (.int .i64 t110) ∧
                        CallsH Tryz.prog F.cmp_Less_int #[.int .i64 t106, .int .i64 t110] h_12 fun v_1 h_21 =>
                        ∃ (t111 : Bool), v_1 = .bool t111 ∧
                        J_2 t111 h_21
                      else
                        J_2 false h_12))
          (fun J_1 =>
            if (decide (i ≤ j)) = true then
              ((0 : Int) ≤ j ∧ j < ((data_l : Nat) : Int)) ∧
              onSome data_p fun a_25 =>
              ∃ (t53 : Int), hcell h_5 (a_25.add (Int.toNat j * 1)) = some (.int .i64 t53) ∧
              ((0 : Int) ≤ a ∧ a < ((data_l : Nat) : Int)) ∧
              onSome data_p fun a_26 =>
              ∃ (t57 : Int), hcell h_5 (a_26.add (Int.toNat a * 1)) = some (.int .i64 t57) ∧
              CallsH Tryz.prog F.cmp_Less_int #[.int .i64 t53, .int .i64 t57] h_5 fun v_2 h_22 =>
              ∃ (t58 : Bool), v_2 = .bool t58 ∧
              J_1 (!t58) h_22
            else
              J_1 false h_5))
    (fun J =>
      if (decide (i ≤ (IntKind.wrap .i64 (b - 1)))) = true then
        ((0 : Int) ≤ i ∧ i < ((data_l : Nat) : Int)) ∧
        onSome data_p fun a_27 =>
        ∃ (t37 : Int), hcell h_3 (a_27.add (Int.toNat i * 1)) = some (.int .i64 t37) ∧
        ((0 : Int) ≤ a ∧ a < ((data_l : Nat) : Int)) ∧
        onSome data_p fun a_28 =>
        ∃ (t41 : Int), hcell h_3 (a_28.add (Int.toNat a * 1)) = some (.int .i64 t41) ∧
        CallsH Tryz.prog F.cmp_Less_int #[.int .i64 t37, .int .i64 t41] h_3 fun v_3 h_23 =>
        ∃ (t42 : Bool), v_3 = .bool t42 ∧
        J t42 h_23
      else
        J false h_3)
theorem slices_partitionOrdered_int.den_eq (data_p : Option Addr) (data_l data_c : Nat) (a : Int) (b : Int) (pivot : Int) (h : Heap) (R : Value → Heap → Prop) : slices_partitionOrdered_int.vc data_p data_l data_c a b pivot h R = den Tryz.prog Tryz.f212.ntmps (.seq .leaf (.seq (.plan (.op 0 (.op 1 (.op 2 (.op 3 (.op 4 (.op 5 (.op 6 (.op 7 (.op 8 (.op 9 (.op 10 (.op 11 (.op 12 (.op 13 (.op 14 (.op 15 .done))))))))))))))))) (.seq .leaf (.seq (.block (.loop [(10, .one (.int .i64))] (.seq (.seq (.join [(43, .one (.bool))] (.plan (.op 0 (.op 1 (.op 2 (.op 3 (.op 4 (.op 5 (.op 6 (.op 7 (.op 8 (.op 9 (.op 10 (.op 11 (.op 12 (.op 13 .done)))))))))))))))) (.cond .leaf .leaf)) (.block .leaf)))) (.seq (.block (.loop [(11, .one (.int .i64))] (.seq (.seq (.join [(60, .one (.bool))] (.plan (.op 0 (.op 1 (.op 2 (.op 3 (.op 4 (.op 5 (.op 6 (.op 7 (.op 8 (.op 9 (.op 10 (.op 11 (.op 12 (.op 13 (.op 14 .done))))))))))))))))) (.cond .leaf .leaf)) (.block .leaf)))) (.seq (.seq .leaf (.cond (.seq (.plan (.op 0 (.op 1 (.op 2 (.op 3 (.op 4 (.op 5 (.op 6 (.op 7 (.op 8 (.op 9 (.op 10 (.op 11 (.op 12 (.op 13 (.op 14 (.op 15 .done))))))))))))))))) (.seq .leaf .leaf)) .leaf)) (.seq (.plan (.op 0 (.op 1 (.op 2 (.op 3 (.op 4 (.op 5 (.op 6 (.op 7 (.op 8 (.op 9 (.op 10 (.op 11 (.op 12 (.op 13 (.op 14 (.op 15 .done))))))))))))))))) (.seq .leaf (.seq .leaf (.seq (.block (.loop [(10, .one (.int .i64)), (11, .one (.int .i64))] (.block (.seq (.block (.loop [(10, .one (.int .i64))] (.seq (.seq (.join [(112, .one (.bool))] (.plan (.op 0 (.op 1 (.op 2 (.op 3 (.op 4 (.op 5 (.op 6 (.op 7 (.op 8 (.op 9 (.op 10 (.op 11 (.op 12 (.op 13 .done)))))))))))))))) (.cond .leaf .leaf)) (.block .leaf)))) (.seq (.block (.loop [(11, .one (.int .i64))] (.seq (.seq (.join [(129, .one (.bool))] (.plan (.op 0 (.op 1 (.op 2 (.op 3 (.op 4 (.op 5 (.op 6 (.op 7 (.op 8 (.op 9 (.op 10 (.op 11 (.op 12 (.op 13 (.op 14 .done))))))))))))))))) (.cond .leaf .leaf)) (.block .leaf)))) (.seq (.seq .leaf (.cond .leaf .leaf)) (.seq (.plan (.op 0 (.op 1 (.op 2 (.op 3 (.op 4 (.op 5 (.op 6 (.op 7 (.op 8 (.op 9 (.op 10 (.op 11 (.op 12 (.op 13 (.op 14 (.op 15 .done))))))))))))))))) (.seq .leaf .leaf)))))))) (.seq (.plan (.op 0 (.op 1 (.op 2 (.op 3 (.op 4 (.op 5 (.op 6 (.op 7 (.op 8 (.op 9 (.op 10 (.op 11 (.op 12 (.op 13 (.op 14 (.op 15 .done))))))))))))))))) (.seq .leaf .leaf)))))))))))) none (bodyOf Tryz.f212) (retK Tryz.prog Tryz.f212.results R) (argEnv [.slice data_p data_l data_c, .int .i64 a, .int .i64 b, .int .i64 pivot]) h := by kernel_rfl
theorem slices_partitionOrdered_int.walk {data_p : Option Addr} {data_l data_c : Nat} {a : Int} {b : Int} {pivot : Int} {h : Heap} {R : Value → Heap → Prop} (hv : slices_partitionOrdered_int.vc data_p data_l data_c a b pivot h R) : CallsH Tryz.prog F.slices_partitionOrdered_int #[.slice data_p data_l data_c, .int .i64 a, .int .i64 b, .int .i64 pivot] h R :=
  callsH_of_body _ Tryz.func212 rfl rfl (Eq.mp (slices_partitionOrdered_int.den_eq data_p data_l data_c a b pivot h R) hv)

def slices_pdqsortOrdered_int.vc (data_p : Option Addr) (data_l data_c : Nat) (a : Int) (b : Int) (limit : Int) (h : Heap) (R : Value → Heap → Prop) : Prop :=
  ∃ (I : Int → Int → Int → Bool → Bool → Heap → Prop) (mu : Int → Int → Int → Bool → Bool → Heap → Nat), I a b limit true true h ∧ ∀ (a_1 : Int) (b_1 : Int) (limit_1 : Int) (wasBalanced : Bool) (wasPartitioned : Bool) (h_1 : Heap), I a_1 b_1 limit_1 wasBalanced wasPartitioned h_1 →
    JoinP (fun (a_2 : Int) (b_2 : Int) (limit_2 : Int) (wasBalanced_1 : Bool) (wasPartitioned_1 : Bool) (h_2 : Heap) =>
      (I a_2 b_2 limit_2 wasBalanced_1 wasPartitioned_1 h_2 ∧ mu a_2 b_2 limit_2 wasBalanced_1 wasPartitioned_1 h_2 < mu a_1 b_1 limit_1 wasBalanced wasPartitioned h_1))
    (fun J =>
      if (decide ((IntKind.wrap .i64 (b_1 - a_1)) ≤ 12)) = true then
        CallsH Tryz.prog F.slices_insertionSortOrdered_int #[.slice data_p data_l data_c, .int .i64 a_1, .int .i64 b_1] h_1 fun v h_3 =>
        v = .tuple #[] ∧
        R (.tuple #[]) h_3
      else
        if (limit_1 == 0) = true then
          CallsH Tryz.prog F.slices_heapSortOrdered_int #[.slice data_p data_l data_c, .int .i64 a_1, .int .i64 b_1] h_1 fun v_1 h_4 =>
          v_1 = .tuple #[] ∧
          R (.tuple #[]) h_4
        else
          JoinP (fun (limit_3 : Int) (h_5 : Heap) =>
            CallsH Tryz.prog F.slices_choosePivotOrdered_int #[.slice data_p data_l data_c, .int .i64 a_1, .int .i64 b_1] h_5 fun v_2 h_6 =>
            ∃ (t46_0 : Int), ∃ (t46_1 : Int), v_2 = .tuple #[.int .i64 t46_0, .int .i64 t46_1] ∧
            JoinP (fun (pivot : Int) (hint : Int) (h_7 : Heap) =>
              JoinP (fun (t68 : Bool) (h_8 : Heap) =>
                JoinP (fun (h_9 : Heap) =>
                  JoinP (fun (t87 : Bool) (h_10 : Heap) =>
                    if t87 = true then
                      CallsH Tryz.prog F.slices_partitionEqualOrdered_int #[.slice data_p data_l data_c, .int .i64 a_1, .int .i64 b_1, .int .i64 pivot] h_10 fun v_3 h_11 =>
                      ∃ (t92 : Int), v_3 = .int .i64 t92 ∧
                      J t92 b_1 limit_3 wasBalanced wasPartitioned h_11
                    else
                      CallsH Tryz.prog F.slices_partitionOrdered_int #[.slice data_p data_l data_c, .int .i64 a_1, .int .i64 b_1, .int .i64 pivot] h_10 fun v_4 h_12 =>
                      ∃ (t99_0 : Int), ∃ (t99_1 : Bool), v_4 = .tuple #[.int .i64 t99_0, .bool t99_1] ∧
                      JoinP (fun (a_3 : Int) (b_3 : Int) (wasBalanced_2 : Bool) (h_13 : Heap) =>
                        J a_3 b_3 limit_3 wasBalanced_2 t99_1 h_13)
                      (fun J_6 =>
                        if (decide ((IntKind.wrap .i64 (t99_0 - a_1)) < (IntKind.wrap .i64 (b_1 - t99_0)))) = true then
                          CallsH Tryz.prog F.slices_pdqsortOrdered_int #[.slice data_p data_l data_c, .int .i64 a_1, .int .i64 t99_0, .int .i64 limit_3] h_12 fun v_5 h_14 =>
                          v_5 = .tuple #[] ∧
                          J_6 (IntKind.wrap .i64 (t99_0 + 1)) b_1 (decide ((IntKind.wrap .i64 (t99_0 - a_1)) ≥ (IntKind.wrap .i64 (Int.tdiv (IntKind.wrap .i64 (b_1 - a_1)) 8)))) h_14
                        else
                          CallsH Tryz.prog F.slices_pdqsortOrdered_int #[.slice data_p data_l data_c, .int .i64 (IntKind.wrap .i64 (t99_0 + 1)), .int .i64 b_1, .int .i64 limit_3] h_12 fun v_6 h_15 =>
                          v_6 = .tuple #[] ∧
                          J_6 a_1 t99_0 (decide ((IntKind.wrap .i64 (b_1 - t99_0)) ≥ (IntKind.wrap .i64 (Int.tdiv (IntKind.wrap .i64 (b_1 - a_1)) 8)))) h_15))
                  (fun J_5 =>
                    if (decide (a_1 > 0)) = true then
                      ((0 : Int) ≤ IntKind.wrap .i64 (a_1 - 1) ∧ IntKind.wrap .i64 (a_1 - 1) < ((data_l : Nat) : Int)) ∧
                      onSome data_p fun a_4 =>
                      ∃ (t80 : Int), hcell h_9 (a_4.add (Int.toNat (IntKind.wrap .i64 (a_1 - 1)) * 1)) = some (.int .i64 t80) ∧
                      ((0 : Int) ≤ pivot ∧ pivot < ((data_l : Nat) : Int)) ∧
                      onSome data_p fun a_5 =>
                      ∃ (t84 : Int), hcell h_9 (a_5.add (Int.toNat pivot * 1)) = some (.int .i64 t84) ∧
                      CallsH Tryz.prog F.cmp_Less_int #[.int .i64 t80, .int .i64 t84] h_9 fun v_7 h_16 =>
                      ∃ (t85 : Bool), v_7 = .bool t85 ∧
                      J_5 (!t85) h_16
                    else
                      J_5 false h_9))
                (fun J_4 =>
                  if t68 = true then
                    CallsH Tryz.prog F.slices_partialInsertionSortOrdered_int #[.slice data_p data_l data_c, .int .i64 a_1, .int .i64 b_1] h_8 fun v_8 h_17 =>
                    ∃ (t72 : Bool), v_8 = .bool t72 ∧
                    if t72 = true then
                      R (.tuple #[]) h_17
                    else
                      J_4 h_17
                  else
                    J_4 h_8))
              (fun J_3 =>
                if wasBalanced = true then
                  if wasPartitioned = true then
                    J_3 (hint == 1) h_7
                  else
                    J_3 false h_7
                else
                  J_3 false h_7))
            (fun J_2 =>
              if (t46_1 == 2) = true then
                CallsH Tryz.prog F.slices_reverseRangeOrdered_int #[.slice data_p data_l data_c, .int .i64 a_1, .int .i64 b_1] h_6 fun v_9 h_18 =>
                v_9 = .tuple #[] ∧
                J_2 (IntKind.wrap .i64 ((IntKind.wrap .i64 (b_1 - 1)) - (IntKind.wrap .i64 (t46_0 - a_1)))) 1 h_18
              else
                J_2 t46_0 t46_1 h_6))
          (fun J_1 =>
            if (!wasBalanced) = true then
              CallsH Tryz.prog F.slices_breakPatternsOrdered_int #[.slice data_p data_l data_c, .int .i64 a_1, .int .i64 b_1] h_1 fun v_10 h_19 =>
              v_10 = .tuple #[] ∧
              J_1 (IntKind.wrap .i64 (limit_1 - 1)) h_19
            else
              J_1 limit_1 h_1))
theorem slices_pdqsortOrdered_int.den_eq (data_p : Option Addr) (data_l data_c : Nat) (a : Int) (b : Int) (limit : Int) (h : Heap) (R : Value → Heap → Prop) : slices_pdqsortOrdered_int.vc data_p data_l data_c a b limit h R = den Tryz.prog Tryz.f190.ntmps (.seq .leaf (.seq .leaf (.block (.loop [(1, .one (.int .i64)), (2, .one (.int .i64)), (3, .one (.int .i64)), (8, .one (.bool)), (9, .one (.bool))] (.join [(1, .one (.int .i64)), (2, .one (.int .i64)), (3, .one (.int .i64)), (8, .one (.bool)), (9, .one (.bool))] (.block (.seq .leaf (.seq (.seq .leaf (.cond (.seq .leaf .leaf) .leaf)) (.seq (.seq .leaf (.cond (.seq .leaf .leaf) .leaf)) (.seq (.seq .leaf (.join [(3, .one (.int .i64))] (.cond (.seq .leaf .leaf) .leaf))) (.seq .leaf (.seq (.seq .leaf (.join [(11, .one (.int .i64)), (12, .one (.int .i64))] (.cond (.seq .leaf (.seq .leaf .leaf)) .leaf))) (.seq (.seq (.join [(68, .one (.bool))] .leaf) (.join [] (.cond (.seq .leaf (.cond .leaf .leaf)) .leaf))) (.seq (.seq (.join [(87, .one (.bool))] (.plan (.op 0 (.op 1 (.op 2 (.op 3 (.op 4 (.op 5 (.op 6 (.op 7 (.op 8 (.op 9 (.op 10 (.op 11 (.op 12 (.op 13 (.op 14 .done))))))))))))))))) (.cond (.seq .leaf (.seq .leaf .leaf)) .leaf)) (.seq .leaf (.seq .leaf (.seq .leaf (.seq .leaf (.seq .leaf (.join [(1, .one (.int .i64)), (2, .one (.int .i64)), (8, .one (.bool))] (.cond (.seq .leaf (.seq .leaf .leaf)) (.seq .leaf (.seq .leaf .leaf))))))))))))))))))))))) none (bodyOf Tryz.f190) (retK Tryz.prog Tryz.f190.results R) (argEnv [.slice data_p data_l data_c, .int .i64 a, .int .i64 b, .int .i64 limit]) h := by kernel_rfl
theorem slices_pdqsortOrdered_int.walk {data_p : Option Addr} {data_l data_c : Nat} {a : Int} {b : Int} {limit : Int} {h : Heap} {R : Value → Heap → Prop} (hv : slices_pdqsortOrdered_int.vc data_p data_l data_c a b limit h R) : CallsH Tryz.prog F.slices_pdqsortOrdered_int #[.slice data_p data_l data_c, .int .i64 a, .int .i64 b, .int .i64 limit] h R :=
  callsH_of_body _ Tryz.func190 rfl rfl (Eq.mp (slices_pdqsortOrdered_int.den_eq data_p data_l data_c a b limit h R) hv)

def slices_Sort_s_int_int.vc (x_p : Option Addr) (x_l x_c : Nat) (h : Heap) (R : Value → Heap → Prop) : Prop :=
  CallsH Tryz.prog F.math_bits_Len #[.int .u64 (IntKind.wrap .u64 ((x_l : Nat) : Int))] h fun v h_1 =>
  ∃ (t9 : Int), v = .int .i64 t9 ∧
  CallsH Tryz.prog F.slices_pdqsortOrdered_int #[.slice x_p x_l x_c, .int .i64 0, .int .i64 ((x_l : Nat) : Int), .int .i64 t9] h_1 fun v_1 h_2 =>
  v_1 = .tuple #[] ∧
  R (.tuple #[]) h_2
theorem slices_Sort_s_int_int.den_eq (x_p : Option Addr) (x_l x_c : Nat) (h : Heap) (R : Value → Heap → Prop) : slices_Sort_s_int_int.vc x_p x_l x_c h R = den Tryz.prog Tryz.f150.ntmps (.seq .leaf .leaf) none (bodyOf Tryz.f150) (retK Tryz.prog Tryz.f150.results R) (argEnv [.slice x_p x_l x_c]) h := by kernel_rfl
theorem slices_Sort_s_int_int.walk {x_p : Option Addr} {x_l x_c : Nat} {h : Heap} {R : Value → Heap → Prop} (hv : slices_Sort_s_int_int.vc x_p x_l x_c h R) : CallsH Tryz.prog F.slices_Sort_s_int_int #[.slice x_p x_l x_c] h R :=
  callsH_of_body _ Tryz.func150 rfl rfl (Eq.mp (slices_Sort_s_int_int.den_eq x_p x_l x_c h R) hv)

end Go.Proofs.YtgccegnmggjkjaaGreatDoor

/-
  Printed by a program of this work (vc.py): the verification conditions of functions, and that each is enough for the call. No condition.
-/
set_option maxRecDepth 100000
set_option maxHeartbeats 4000000
namespace Go.Proofs.YtgccegnmggjkjaaGreatDoor
open Go.Den
def math_bits_Len.vc (x : Int) (h : Heap) (R : Value → Heap → Prop) : Prop :=
  CallsH Tryz.prog F.math_bits_Len64 #[.int .u64 x] h fun v h_1 =>
  ∃ (t7 : Int), v = .int .i64 t7 ∧
  R (.int .i64 t7) h_1
theorem math_bits_Len.den_eq (x : Int) (h : Heap) (R : Value → Heap → Prop) : math_bits_Len.vc x h R = den Tryz.prog Tryz.f191.ntmps (.seq .leaf (.seq (.cond (.seq .leaf .leaf) .leaf) (.seq .leaf .leaf))) none (bodyOf Tryz.f191) (retK Tryz.prog Tryz.f191.results R) (argEnv [.int .u64 x]) h := by kernel_rfl
theorem math_bits_Len.walk {x : Int} {h : Heap} {R : Value → Heap → Prop} (hv : math_bits_Len.vc x h R) : CallsH Tryz.prog F.math_bits_Len #[.int .u64 x] h R :=
  callsH_of_body _ Tryz.func191 rfl rfl (Eq.mp (math_bits_Len.den_eq x h R) hv)

def math_bits_Len64.vc (x : Int) (h : Heap) (R : Value → Heap → Prop) : Prop :=
  JoinP (fun (x_1 : Int) (n : Int) (h_1 : Heap) =>
    JoinP (fun (x_2 : Int) (n_1 : Int) (h_2 : Heap) =>
      JoinP (fun (x_3 : Int) (n_2 : Int) (h_3 : Heap) =>
        ((0 : Int) ≤ IntKind.wrap .u8 x_3 ∧ IntKind.wrap .u8 x_3 < (((⟨#[0, 1, 2, 2, 3, 3, 3, 3, 4, 4, 4, 4, 4, 4, 4, 4, 5, 5, 5, 5, 5, 5, 5, 5, 5, 5, 5, 5, 5, 5, 5, 5, 6, 6, 6, 6, 6, 6, 6, 6, 6, 6, 6, 6, 6, 6, 6, 6, 6, 6, 6, 6, 6, 6, 6, 6, 6, 6, 6, 6, 6, 6, 6, 6, 7, 7, 7, 7, 7, 7, 7, 7, 7, 7, 7, 7, 7, 7, 7, 7, 7, 7, 7, 7, 7, 7, 7, 7, 7, 7, 7, 7, 7, 7, 7, 7, 7, 7, 7, 7, 7, 7, 7, 7, 7, 7, 7, 7, 7, 7, 7, 7, 7, 7, 7, 7, 7, 7, 7, 7, 7, 7, 7, 7, 7, 7, 7, 7, 8, 8, 8, 8, 8, 8, 8, 8, 8, 8, 8, 8, 8, 8, 8, 8, 8, 8, 8, 8, 8, 8, 8, 8, 8, 8, 8, 8, 8, 8, 8, 8, 8, 8, 8, 8, 8, 8, 8, 8, 8, 8, 8, 8, 8, 8, 8, 8, 8, 8, 8, 8, 8, 8, 8, 8, 8, 8, 8, 8, 8, 8, 8, 8, 8, 8, 8, 8, 8, 8, 8, 8, 8, 8, 8, 8, 8, 8, 8, 8, 8, 8, 8, 8, 8, 8, 8, 8, 8, 8, 8, 8, 8, 8, 8, 8, 8, 8, 8, 8, 8, 8, 8, 8, 8, 8, 8, 8, 8, 8, 8, 8, 8, 8, 8, 8, 8, 8, 8, 8, 8, 8, 8, 8, 8, 8, 8, 8]⟩ : ByteArray).size : Nat) : Int)) ∧
        R (.int .i64 (IntKind.wrap .i64 (n_2 + (IntKind.wrap .i64 ((((⟨#[0, 1, 2, 2, 3, 3, 3, 3, 4, 4, 4, 4, 4, 4, 4, 4, 5, 5, 5, 5, 5, 5, 5, 5, 5, 5, 5, 5, 5, 5, 5, 5, 6, 6, 6, 6, 6, 6, 6, 6, 6, 6, 6, 6, 6, 6, 6, 6, 6, 6, 6, 6, 6, 6, 6, 6, 6, 6, 6, 6, 6, 6, 6, 6, 7, 7, 7, 7, 7, 7, 7, 7, 7, 7, 7, 7, 7, 7, 7, 7, 7, 7, 7, 7, 7, 7, 7, 7, 7, 7, 7, 7, 7, 7, 7, 7, 7, 7, 7, 7, 7, 7, 7, 7, 7, 7, 7, 7, 7, 7, 7, 7, 7, 7, 7, 7, 7, 7, 7, 7, 7, 7, 7, 7, 7, 7, 7, 7, 8, 8, 8, 8, 8, 8, 8, 8, 8, 8, 8, 8, 8, 8, 8, 8, 8, 8, 8, 8, 8, 8, 8, 8, 8, 8, 8, 8, 8, 8, 8, 8, 8, 8, 8, 8, 8, 8, 8, 8, 8, 8, 8, 8, 8, 8, 8, 8, 8, 8, 8, 8, 8, 8, 8, 8, 8, 8, 8, 8, 8, 8, 8, 8, 8, 8, 8, 8, 8, 8, 8, 8, 8, 8, 8, 8, 8, 8, 8, 8, 8, 8, 8, 8, 8, 8, 8, 8, 8, 8, 8, 8, 8, 8, 8, 8, 8, 8, 8, 8, 8, 8, 8, 8, 8, 8, 8, 8, 8, 8, 8, 8, 8, 8, 8, 8, 8, 8, 8, 8, 8, 8, 8, 8, 8, 8, 8, 8]⟩ : ByteArray).data.toList.getD (Int.toNat (IntKind.wrap .u8 x_3)) 0).toNat : Nat) : Int))))) h_3)
      (fun J_2 =>
        if (decide (x_2 ≥ 256)) = true then
          J_2 (Int.fdiv x_2 (2 ^ min (Int.toNat 8) (IntKind.bits .u64))) (IntKind.wrap .i64 (n_1 + 8)) h_2
        else
          J_2 x_2 n_1 h_2))
    (fun J_1 =>
      if (decide (x_1 ≥ 65536)) = true then
        J_1 (Int.fdiv x_1 (2 ^ min (Int.toNat 16) (IntKind.bits .u64))) (IntKind.wrap .i64 (n + 16)) h_1
      else
        J_1 x_1 n h_1))
  (fun J =>
    if (decide (x ≥ 4294967296)) = true then
      J (Int.fdiv x (2 ^ min (Int.toNat 32) (IntKind.bits .u64))) 32 h
    else
      J x 0 h)
theorem math_bits_Len64.den_eq (x : Int) (h : Heap) (R : Value → Heap → Prop) : math_bits_Len64.vc x h R = den Tryz.prog Tryz.f214.ntmps (.seq .leaf (.seq (.seq .leaf (.join [(0, .one (.int .u64)), (2, .one (.int .i64))] (.cond (.seq .leaf .leaf) .leaf))) (.seq (.seq .leaf (.join [(0, .one (.int .u64)), (2, .one (.int .i64))] (.cond (.seq .leaf .leaf) .leaf))) (.seq (.seq .leaf (.join [(0, .one (.int .u64)), (2, .one (.int .i64))] (.cond (.seq .leaf .leaf) .leaf))) (.seq .leaf .leaf))))) none (bodyOf Tryz.f214) (retK Tryz.prog Tryz.f214.results R) (argEnv [.int .u64 x]) h := by kernel_rfl
theorem math_bits_Len64.walk {x : Int} {h : Heap} {R : Value → Heap → Prop} (hv : math_bits_Len64.vc x h R) : CallsH Tryz.prog F.math_bits_Len64 #[.int .u64 x] h R :=
  callsH_of_body _ Tryz.func214 rfl rfl (Eq.mp (math_bits_Len64.den_eq x h R) hv)

end Go.Proofs.YtgccegnmggjkjaaGreatDoor

/-
  What is proved here: what the functions of package slices do that sort numbers: the small ones. No condition.
-/
set_option maxRecDepth 100000
namespace Go.Proofs.YtgccegnmggjkjaaGreatDoor
open Go.Den Go.Srt
namespace Srt
variable {h h0 g : Heap} {R : Value → Heap → Prop} {p : Option Addr} {n c a b i j : Nat} {xs ys : List Int} {I J : Int}
abbrev iv (x : Int) : Value := .int .i64 x
structure D (h0 h : Heap) (p : Option Addr) (n c : Nat) (xs : List Int) : Prop where
  own : Own h p n c 1 (xs.map iv)
  len : n = xs.length
  fr : Fr (inBlk p) h0 h
theorem D.on {h' : Heap} (d : D h0 g p n c xs) (f : Fr (fun _ => False) g h') : D h0 h' p n c xs := ⟨d.own.frame f (fun _ _ => id), d.len, d.fr.on f⟩
/-- another block, that is new, changes -/
theorem D.touch {h' : Heap} {s : Nat} (d : D h0 g p n c xs) (hs : h'.size = g.size) (ho : ∀ x, x ≠ s → h'[x]? = g[x]?) (hn : h0.size ≤ s) (hp : ¬ inBlk p s) : D h0 h' p n c xs := by
  have f : Fr (fun y => y = s) g h' := ⟨by omega, fun y _ hy => ho y hy⟩
  refine ⟨d.own.frame f (fun y hy e => hp (e ▸ hy)), d.len, ⟨by have := d.fr.1; omega, fun y hy hn2 => ?_⟩⟩
  rw [ho y (by omega)]; exact d.fr.2 y hy hn2
theorem D.at {K : Int → Prop} (d : D h0 g p n c xs) (hI : I = (i : Int)) (hi : i < n) (hk : K (V xs i)) :
    ((0 : Int) ≤ I ∧ I < ((n : Nat) : Int)) ∧ onSome p fun a => ∃ t : Int, hcell g (a.add (Int.toNat I * 1)) = some (.int .i64 t) ∧ K t := by
  subst hI
  obtain ⟨ab, ao, rfl⟩ := d.own.addr (by omega)
  have hl := d.len
  refine ⟨⟨by omega, by omega⟩, onSome_some.2 ⟨V xs i, ?_, hk⟩⟩
  rw [Int.toNat_natCast, Nat.mul_one]
  exact d.own.cell (by rw [List.getElem?_map, V_at (by omega)]; rfl)
theorem less_ok {x y : Int} (hk : R (.bool (decide (x < y))) h) : CallsH Tryz.prog F.cmp_Less_int #[.int .i64 x, .int .i64 y] h R := by
  refine cmp_Less_int.walk (cmp_isNaN_int.walk ⟨_, rfl, ?_⟩)
  rw [if_neg (by simp)]; exact hk
theorem D.cmp {K : Bool → Heap → Prop} (d : D h0 g p n c xs) (hI : I = (i : Int)) (hi : i < n) (hJ : J = (j : Int)) (hj : j < n) (hk : K (decide (V xs i < V xs j)) g) :
    ((0 : Int) ≤ I ∧ I < ((n : Nat) : Int)) ∧ onSome p fun a => ∃ t : Int, hcell g (a.add (Int.toNat I * 1)) = some (.int .i64 t) ∧
      ((0 : Int) ≤ J ∧ J < ((n : Nat) : Int)) ∧ onSome p fun a1 => ∃ u : Int, hcell g (a1.add (Int.toNat J * 1)) = some (.int .i64 u) ∧
        CallsH Tryz.prog F.cmp_Less_int #[.int .i64 t, .int .i64 u] g fun v g1 => ∃ q : Bool, v = .bool q ∧ K q g1 :=
  d.at hI hi (K := fun t => ((0 : Int) ≤ J ∧ J < ((n : Nat) : Int)) ∧ onSome p fun a1 => ∃ u : Int, hcell g (a1.add (Int.toNat J * 1)) = some (.int .i64 u) ∧ CallsH Tryz.prog F.cmp_Less_int #[.int .i64 t, .int .i64 u] g fun v g1 => ∃ q : Bool, v = .bool q ∧ K q g1)
    (d.at hJ hj (less_ok ⟨_, rfl, hk⟩))
theorem D.swap {K : Heap → Prop} (d : D h0 g p n c xs) (hI : I = (i : Int)) (hi : i < n) (hJ : J = (j : Int)) (hj : j < n) (hk : ∀ g', D h0 g' p n c (swp xs i j) → g'.size = g.size → (∀ x, ¬ inBlk p x → g'[x]? = g[x]?) → K g') :
    ((0 : Int) ≤ J ∧ J < ((n : Nat) : Int)) ∧ onSome p fun a => ∃ t : Int, hcell g (a.add (Int.toNat J * 1)) = some (.int .i64 t) ∧
      ((0 : Int) ≤ I ∧ I < ((n : Nat) : Int)) ∧ onSome p fun a1 => ∃ u : Int, hcell g (a1.add (Int.toNat I * 1)) = some (.int .i64 u) ∧
      ((0 : Int) ≤ I ∧ I < ((n : Nat) : Int)) ∧ onSome p fun a2 => StoreP g (a2.add (Int.toNat I * 1)) (.int .i64 t) fun g1 =>
      ((0 : Int) ≤ J ∧ J < ((n : Nat) : Int)) ∧ onSome p fun a3 => StoreP g1 (a3.add (Int.toNat J * 1)) (.int .i64 u) fun g2 => K g2 := by
  have hl := d.len
  refine d.at hJ hj (K := fun t => ((0 : Int) ≤ I ∧ I < ((n : Nat) : Int)) ∧ onSome p fun a1 => ∃ u : Int, hcell g (a1.add (Int.toNat I * 1)) = some (.int .i64 u) ∧
      ((0 : Int) ≤ I ∧ I < ((n : Nat) : Int)) ∧ onSome p fun a2 => StoreP g (a2.add (Int.toNat I * 1)) (.int .i64 t) fun g1 =>
      ((0 : Int) ≤ J ∧ J < ((n : Nat) : Int)) ∧ onSome p fun a3 => StoreP g1 (a3.add (Int.toNat J * 1)) (.int .i64 u) fun g2 => K g2) (d.at hI hi ?_)
  subst hI hJ
  obtain ⟨ab, ao, rfl⟩ := d.own.addr (by omega)
  simp only [Int.toNat_natCast, Nat.mul_one]
  refine ⟨⟨by omega, by omega⟩, onSome_some.2 (d.own.store (by rw [List.length_map]; omega) fun g1 o1 s1 q1 => ⟨⟨by omega, by omega⟩, onSome_some.2 (o1.store (by rw [List.length_set, List.length_map]; omega) fun g2 o2 s2 q2 => ?_)⟩)⟩
  have e : (((xs.map iv).set i (.int .i64 (V xs j))).set j (.int .i64 (V xs i))) = (swp xs i j).map iv := by
    rw [← swp_eq (V_at (by omega)) (V_at (by omega)), List.map_set, List.map_set]
  rw [e] at o2
  refine hk g2 ⟨o2, by rw [swp_len]; exact hl, ⟨by have := d.fr.1; omega, fun y hy hn => ?_⟩⟩ (by omega) (fun x hx => by rw [q2 x hx, q1 x hx])
  rw [q2 y hn, q1 y hn]; exact d.fr.2 y hy hn
theorem wS {x : Int} {k : Nat} (h : x = (k : Int)) (hk : k ≤ 1000000000) : IntKind.wrap .i64 x = (k : Int) := by rw [h]; exact wrap_id (by omega) (by omega)

/-! ### insertion -/
theorem ins_ok (d : D h0 h p n c xs) (nd : xs.Nodup) (hb : b ≤ n) (hn : n ≤ 100000) (ha : a ≤ n) (hk : ∀ h' ys, D h0 h' p n c ys → PermOn a b ys xs → SO ys a b → R (.tuple #[]) h') :
    CallsH Tryz.prog F.slices_insertionSortOrdered_int #[.slice p n c, .int .i64 (a : Int), .int .i64 (b : Int)] h R := by
  refine slices_insertionSortOrdered_int.walk ?_
  refine ⟨fun t g => ∃ (i : Nat) (ys : List Int), t = (i : Int) ∧ a + 1 ≤ i ∧ (i ≤ b ∨ i = a + 1) ∧ D h0 g p n c ys ∧ PermOn a b ys xs ∧ SO ys a i, fun t _ => b - t.toNat, ⟨a + 1, xs, wS (by omega) (by omega), Nat.le_refl _, .inr rfl, d, .refl, fun p q _ _ _ => by omega⟩, ?_⟩
  rintro _ g ⟨i, ys, rfl, h1, h2, dy, py, sy⟩
  have ly := dy.len
  by_cases hi : i < b
  · rw [if_pos (decide_eq_true (by omega))]
    refine ⟨fun t g' => ∃ (j : Nat) (zs : List Int), t = (j : Int) ∧ a ≤ j ∧ j ≤ i ∧ D h0 g' p n c zs ∧ InsI ys zs a i j, fun t _ => t.toNat, ⟨i, ys, rfl, by omega, Nat.le_refl _, dy, InsI.start sy⟩, ?_⟩
    rintro _ g2 ⟨j, zs, rfl, haj, hj, dz, Iz⟩
    have lz := dz.len
    have pz : PermOn a b zs xs := (Iz.perm.mono (Nat.le_refl _) (by omega)).trans py
    refine JoinP.of fun J hJ => ?_
    have stop : (j = a ∨ V zs (j - 1) < V zs j) → J false g2 := by
      intro he
      subst hJ
      simp only [Bool.false_eq_true, if_false]
      rw [wS (k := i + 1) (by omega) (by omega)]
      exact ⟨⟨i + 1, zs, rfl, by omega, .inl (by omega), dz, pz, Iz.stop haj hj he⟩, by show b - Int.toNat ((i + 1 : Nat) : Int) < b - i; omega⟩
    by_cases hja : a < j
    · rw [if_pos (decide_eq_true (by omega))]
      have e1 : IntKind.wrap .i64 ((j : Int) - 1) = ((j - 1 : Nat) : Int) := wS (by omega) (by omega)
      refine dz.cmp rfl (by omega) e1 (by omega) ?_
      by_cases hl : V zs j < V zs (j - 1)
      · rw [decide_eq_true hl]
        subst hJ
        simp only [if_true]
        refine dz.swap (i := j) (j := j - 1) rfl (by omega) e1 (by omega) fun g3 d3 _ _ => ?_
        rw [e1]
        exact ⟨⟨j - 1, _, rfl, by omega, by omega, d3, Iz.swap hja hj (by omega) hl⟩, by show Int.toNat ((j - 1 : Nat) : Int) < j; omega⟩
      · rw [decide_eq_false hl]
        have := nd_ne (pz.nd nd) (i := j - 1) (j := j) (by omega) (by omega) (by omega)
        exact stop (.inr (by omega))
    · rw [if_neg (by simp; omega)]
      exact stop (.inl (by omega))
  · rw [if_neg (by simp; omega)]
    refine hk g ys dy py ?_
    rcases h2 with h2 | h2
    · have : i = b := by omega
      rw [← this]; exact sy
    · intro p q _ _ _; omega

/-! ### a heap -/
theorem sift_ok {f lo hi : Nat} (d : D h0 h p n c xs) (nd : xs.Nodup) (hb : f + hi ≤ n) (hn : n ≤ 100000) (hlo : lo ≤ 100000) (H : HeapOn xs f (lo + 1) hi) (hk : ∀ h' ys, D h0 h' p n c ys → PermOn f (f + hi) ys xs → HeapOn ys f lo hi → R (.tuple #[]) h') :
    CallsH Tryz.prog F.slices_siftDownOrdered_int #[.slice p n c, .int .i64 (lo : Int), .int .i64 (hi : Int), .int .i64 (f : Int)] h R := by
  refine slices_siftDownOrdered_int.walk ?_
  refine ⟨fun t g => ∃ (r : Nat) (ys : List Int), t = (r : Int) ∧ lo ≤ r ∧ r ≤ lo + hi ∧ D h0 g p n c ys ∧ SiftI xs ys f lo hi r, fun t _ => lo + hi - t.toNat, ⟨lo, xs, rfl, Nat.le_refl _, by omega, d, SiftI.start H⟩, ?_⟩
  rintro _ g ⟨r, ys, rfl, h1, h2, dy, Sy⟩
  have ly := dy.len
  have ndy := Sy.perm.nd nd
  have w0 : IntKind.wrap .i64 (2 * (r : Int)) = ((2 * r : Nat) : Int) := wS (by omega) (by omega)
  have w1 : IntKind.wrap .i64 (((2 * r : Nat) : Int) + 1) = ((2 * r + 1 : Nat) : Int) := wS (by omega) (by omega)
  have w2 : IntKind.wrap .i64 (((2 * r + 1 : Nat) : Int) + 1) = ((2 * r + 2 : Nat) : Int) := wS (by omega) (by omega)
  simp only [w0, w1, w2]
  by_cases hc : 2 * r + 1 < hi
  · rw [if_neg (by simp; omega)]
    refine JoinP.of fun J hJ => ?_
    have w3 : IntKind.wrap .i64 ((f : Int) + (r : Int)) = ((f + r : Nat) : Int) := wS (by omega) (by omega)
    have w4 : IntKind.wrap .i64 ((f : Int) + ((2 * r + 1 : Nat) : Int)) = ((f + (2 * r + 1) : Nat) : Int) := wS (by omega) (by omega)
    -- the child is chosen
    have go : ∀ (q : Bool) (ch : Nat), ch = (if q = true then 2 * r + 2 else 2 * r + 1) → ch < hi → (ch = 2 * r + 2 → V ys (f + (2 * r + 1)) < V ys (f + ch)) → (ch = 2 * r + 1 → 2 * r + 2 < hi → V ys (f + (2 * r + 2)) < V ys (f + ch)) → J q g := by
      intro q ch ech hch k1 k2
      subst hJ
      refine JoinP.of fun J hJ => ?_
      have w5 : IntKind.wrap .i64 ((f : Int) + (ch : Int)) = ((f + ch : Nat) : Int) := wS (by omega) (by omega)
      have cc : ch = 2 * r + 1 ∨ ch = 2 * r + 2 := by cases q <;> simp at ech <;> omega
      have go2 : J (ch : Int) g := by
        subst hJ
        refine dy.cmp w3 (by omega) w5 (by omega) ?_
        by_cases hl : V ys (f + r) < V ys (f + ch)
        · rw [decide_eq_true hl, if_neg (by decide)]
          refine dy.swap (i := f + r) (j := f + ch) w3 (by omega) w5 (by omega) fun g3 d3 _ _ => ?_
          exact ⟨⟨ch, _, rfl, by omega, by omega, d3, Sy.swap (by omega) h1 cc hch hl k1 k2⟩, by show lo + hi - Int.toNat (ch : Int) < lo + hi - r; omega⟩
        · rw [decide_eq_false hl, if_pos (by decide)]
          have hne := nd_ne ndy (i := f + r) (j := f + ch) (by omega) (by omega) (by omega)
          have hlt : V ys (f + ch) < V ys (f + r) := by omega
          refine hk g ys dy Sy.perm (Sy.stop (fun _ => ?_) (fun g2 => ?_))
          · rcases cc with e | e
            · rw [← e]; exact hlt
            · exact Int.lt_trans (k1 e) hlt
          · rcases cc with e | e
            · exact Int.lt_trans (k2 e g2) hlt
            · rw [← e]; exact hlt
      cases q with
      | true => simp only [if_true] at ech ⊢; rw [ech] at go2; exact go2
      | false => simp only [Bool.false_eq_true, if_false] at ech ⊢; rw [ech] at go2; exact go2
    clear hJ
    by_cases hc2 : 2 * r + 2 < hi
    · rw [if_pos (decide_eq_true (by omega))]
      have w6 : IntKind.wrap .i64 (((f + (2 * r + 1) : Nat) : Int) + 1) = ((f + (2 * r + 2) : Nat) : Int) := wS (by omega) (by omega)
      rw [w4, w6]
      refine dy.cmp rfl (by omega) rfl (by omega) ?_
      by_cases hl : V ys (f + (2 * r + 1)) < V ys (f + (2 * r + 2))
      · rw [decide_eq_true hl]
        exact go true (2 * r + 2) rfl hc2 (fun _ => hl) (fun e => by omega)
      · rw [decide_eq_false hl]
        have hne := nd_ne ndy (i := f + (2 * r + 1)) (j := f + (2 * r + 2)) (by omega) (by omega) (by omega)
        exact go false (2 * r + 1) rfl hc (fun e => by omega) (fun _ _ => by omega)
    · rw [if_neg (by simp; omega)]
      exact go false (2 * r + 1) rfl hc (fun e => by omega) (fun _ e => by omega)
  · rw [if_pos (decide_eq_true (by omega))]
    exact hk g ys dy Sy.perm (Sy.stop (fun e => by omega) (fun e => by omega))
theorem heap_ok (d : D h0 h p n c xs) (nd : xs.Nodup) (hab : a < b) (hb : b ≤ n) (hn : n ≤ 100000) (hk : ∀ h' ys, D h0 h' p n c ys → PermOn a b ys xs → SO ys a b → R (.tuple #[]) h') :
    CallsH Tryz.prog F.slices_heapSortOrdered_int #[.slice p n c, .int .i64 (a : Int), .int .i64 (b : Int)] h R := by
  refine slices_heapSortOrdered_int.walk ?_
  have wh : IntKind.wrap .i64 ((b : Int) - (a : Int)) = ((b - a : Nat) : Int) := wS (by omega) (by omega)
  have w1 : IntKind.wrap .i64 (((b - a : Nat) : Int) - 1) = ((b - a - 1 : Nat) : Int) := wS (by omega) (by omega)
  have w2 : IntKind.wrap .i64 (Int.tdiv ((b - a - 1 : Nat) : Int) 2) = (((b - a - 1) / 2 : Nat) : Int) := wS (by rw [Int.tdiv_eq_ediv_of_nonneg (by omega)]; omega) (by omega)
  unfold slices_heapSortOrdered_int.vc
  rw [wh, w1, w2]
  have eb : a + (b - a) = b := by omega
  refine ⟨fun t g => ∃ (k : Nat) (ys : List Int), t = (k : Int) - 1 ∧ k ≤ (b - a - 1) / 2 + 1 ∧ D h0 g p n c ys ∧ PermOn a b ys xs ∧ HeapOn ys a k (b - a), fun t _ => (t + 1).toNat, ⟨(b - a - 1) / 2 + 1, xs, by omega, Nat.le_refl _, d, .refl, fun i hi => ⟨fun _ => by omega, fun _ => by omega⟩⟩, ?_⟩
  rintro _ g ⟨k, ys, rfl, hk1, dy, py, Hy⟩
  have ly := dy.len
  by_cases hk0 : 0 < k
  · rw [if_pos (decide_eq_true (by omega))]
    have e1 : ((k : Int) - 1) = ((k - 1 : Nat) : Int) := by omega
    rw [e1]
    refine sift_ok dy (py.nd nd) (by omega) hn (by omega) (by rw [show k - 1 + 1 = k by omega]; exact Hy) fun g2 zs d2 p2 H2 => ⟨rfl, ?_⟩
    rw [eb] at p2
    have e2 : IntKind.wrap .i64 (((k - 1 : Nat) : Int) - 1) = ((k - 1 : Nat) : Int) - 1 := wrap_id (by omega) (by omega)
    rw [e2]
    exact ⟨⟨k - 1, zs, rfl, by omega, d2, p2.trans py, H2⟩, by show Int.toNat (((k - 1 : Nat) : Int) - 1 + 1) < Int.toNat (((k - 1 : Nat) : Int) + 1); omega⟩
  · obtain rfl : k = 0 := by omega
    rw [if_neg (by simp)]
    refine ⟨fun t g => ∃ (k : Nat) (ys : List Int), t = (k : Int) - 1 ∧ k ≤ b - a ∧ D h0 g p n c ys ∧ PermOn a b ys xs ∧ HeapOn ys a 0 k ∧ But ys a b a (a + k), fun t _ => (t + 1).toNat, ⟨b - a, ys, by omega, Nat.le_refl _, dy, py, Hy, by rw [eb]; exact But.all⟩, ?_⟩
    rintro _ g2 ⟨k, zs, rfl, hk2, dz, pz, Hz, Bz⟩
    have lz := dz.len
    by_cases hk0 : 0 < k
    · rw [if_pos (decide_eq_true (by omega))]
      have e1 : ((k : Int) - 1) = ((k - 1 : Nat) : Int) := by omega
      rw [e1]
      have w3 : IntKind.wrap .i64 ((a : Int) + ((k - 1 : Nat) : Int)) = ((a + (k - 1) : Nat) : Int) := wS (by omega) (by omega)
      refine dz.swap (i := a) (j := a + (k - 1)) rfl (by omega) w3 (by omega) fun g3 d3 _ _ => ?_
      have at_ : ∀ x : Nat, V (swp zs a (a + (k - 1))) x = if x = a + (k - 1) then V zs a else if x = a then V zs (a + (k - 1)) else V zs x := V_swp (by omega) (by omega)
      have p3 : PermOn a (a + k) (swp zs a (a + (k - 1))) zs := PermOn.swp (by omega) (by omega) (by omega) (by omega) (by omega)
      have H3 : HeapOn (swp zs a (a + (k - 1))) a (0 + 1) (k - 1) := fun i hi => by
        have := Hz i (by omega)
        rw [at_, at_, at_, if_neg (by omega : ¬ a + (2 * i + 1) = a), if_neg (by omega : ¬ a + (2 * i + 2) = a), if_neg (by omega : ¬ a + i = a)]
        refine ⟨fun g => ?_, fun g => ?_⟩
        · rw [if_neg (by omega), if_neg (by omega)]; exact this.1 (by omega)
        · rw [if_neg (by omega), if_neg (by omega)]; exact this.2 (by omega)
      have B3 : But (swp zs a (a + (k - 1))) a b a (a + k) := Bz.perm (Nat.le_refl _) (by omega) p3 (by omega)
      have l3 : (swp zs a (a + (k - 1))).length = zs.length := swp_len _ _ _
      have mx : ∀ x, a ≤ x → x < a + (k - 1) → V (swp zs a (a + (k - 1))) x < V (swp zs a (a + (k - 1))) (a + (k - 1)) := by
        intro x x1 x2
        rw [at_, at_, if_pos rfl, if_neg (by omega)]
        by_cases e : x = a
        · rw [if_pos e]; exact Hz.root (k - 1) (by omega) (by omega)
        · rw [if_neg e]
          have := Hz.root (x - a) (by omega) (by omega)
          rwa [show a + (x - a) = x by omega] at this
      have B4 : But (swp zs a (a + (k - 1))) a b a (a + (k - 1)) := fun p q p1 pq q1 hno => by
        by_cases hin : a ≤ p ∧ q < a + k
        · have : q = a + (k - 1) := by omega
          rw [this]; exact mx p hin.1 (by omega)
        · exact B3 p q p1 pq q1 hin
      have pall : PermOn a b (swp zs a (a + (k - 1))) xs := (p3.mono (Nat.le_refl _) (by omega)).trans pz
      refine sift_ok (lo := 0) d3 (pall.nd nd) (by omega) hn (by omega) H3 fun g4 ws d4 p4 H4 => ⟨rfl, ?_⟩
      have e2 : IntKind.wrap .i64 (((k - 1 : Nat) : Int) - 1) = ((k - 1 : Nat) : Int) - 1 := wrap_id (by omega) (by omega)
      rw [e2]
      exact ⟨⟨k - 1, ws, rfl, by omega, d4, (p4.mono (Nat.le_refl _) (by omega)).trans pall, H4, B4.perm (Nat.le_refl _) (by omega) p4 (by omega)⟩, by show Int.toNat (((k - 1 : Nat) : Int) - 1 + 1) < Int.toNat (((k - 1 : Nat) : Int) + 1); omega⟩
    · obtain rfl : k = 0 := by omega
      rw [if_neg (by simp)]
      exact hk g2 zs dz pz (Bz.done (fun p q _ _ _ => by omega))
/-! ### the other way round -/
theorem rev_ok (d : D h0 h p n c xs) (hab : a < b) (hb : b ≤ n) (hn : n ≤ 100000) (hk : ∀ h' ys, D h0 h' p n c ys → PermOn a b ys xs → R (.tuple #[]) h') :
    CallsH Tryz.prog F.slices_reverseRangeOrdered_int #[.slice p n c, .int .i64 (a : Int), .int .i64 (b : Int)] h R := by
  refine slices_reverseRangeOrdered_int.walk ?_
  refine ⟨fun t u g => ∃ (i j : Nat) (ys : List Int), t = (i : Int) ∧ u = (j : Int) - 1 ∧ a ≤ i ∧ j ≤ b ∧ i ≤ j + 1 ∧ D h0 g p n c ys ∧ PermOn a b ys xs, fun t u _ => (u - t).toNat, ⟨a, b, xs, rfl, by rw [wrap_id (by omega) (by omega)], Nat.le_refl _, Nat.le_refl _, by omega, d, .refl⟩, ?_⟩
  rintro _ _ g ⟨i, j, ys, rfl, rfl, h1, h2, h3, dy, py⟩
  have ly := dy.len
  by_cases hij : i + 1 < j
  · rw [if_pos (decide_eq_true (by omega))]
    refine dy.swap (i := i) (j := j - 1) rfl (by omega) (by omega) (by omega) fun g2 d2 _ _ => ?_
    rw [wS (k := i + 1) (by omega) (by omega), wrap_id (n := (j : Int) - 1 - 1) (by omega) (by omega)]
    exact ⟨⟨i + 1, j - 1, _, rfl, by omega, by omega, by omega, by omega, d2, (PermOn.swp (by omega) (by omega) (by omega) (by omega) (by omega)).trans py⟩, by show Int.toNat ((j : Int) - 1 - 1 - ((i + 1 : Nat) : Int)) < Int.toNat ((j : Int) - 1 - (i : Int)); omega⟩
  · rw [if_neg (by simp; omega)]
    exact hk g ys dy py
end Srt
end Go.Proofs.YtgccegnmggjkjaaGreatDoor

/-
  What is proved here: what the functions of package slices do that sort numbers: pivots, partitions. No condition.
-/
set_option maxRecDepth 100000
namespace Go.Proofs.YtgccegnmggjkjaaGreatDoor
open Go.Den Go.Srt
namespace Srt
variable {h h0 g : Heap} {R : Value → Heap → Prop} {p : Option Addr} {n c a b i j s : Nat} {xs ys : List Int} {I J : Int}
/-- a number in a block of its own -/
def Cel (h : Heap) (s : Nat) (t : TypeId) (k : IntKind) : Prop := ∃ x : Int, h[s]? = some (.cells #[.int k x] t (0, 0))
theorem order2_ok (d : D h0 h p n c xs) (hs : Cel h s T.int .i64) (hn : h0.size ≤ s) (hp : ¬ inBlk p s) (ha : a < n) (hb : b < n)
    (hk : ∀ h' (x y : Nat), (x = a ∧ y = b) ∨ (x = b ∧ y = a) → D h0 h' p n c xs → Cel h' s T.int .i64 → R (.tuple #[.int .i64 (x : Int), .int .i64 (y : Int)]) h') :
    CallsH Tryz.prog F.slices_order2Ordered_int #[.slice p n c, .int .i64 (a : Int), .int .i64 (b : Int), .pointer (some ⟨s, 0, none⟩)] h R := by
  refine slices_order2Ordered_int.walk (d.cmp rfl hb rfl ha ?_)
  by_cases hl : V xs b < V xs a
  · rw [decide_eq_true hl, if_pos rfl]
    obtain ⟨x, hx⟩ := hs
    refine ⟨_, cell_at hx rfl, storeP_blk hx (by simp) fun h1 a1 s1 o1 => ?_⟩
    exact hk h1 b a (.inr ⟨rfl, rfl⟩) (d.touch s1 o1 hn hp) ⟨_, a1⟩
  · rw [decide_eq_false hl, if_neg (by simp)]
    exact hk h a b (.inl ⟨rfl, rfl⟩) d hs
theorem median_ok {e : Nat} (d : D h0 h p n c xs) (hs : Cel h s T.int .i64) (hn : h0.size ≤ s) (hp : ¬ inBlk p s) (ha : a < n) (hb : b < n) (he : e < n)
    (hk : ∀ h' (x : Nat), x = a ∨ x = b ∨ x = e → D h0 h' p n c xs → Cel h' s T.int .i64 → R (.int .i64 (x : Int)) h') :
    CallsH Tryz.prog F.slices_medianOrdered_int #[.slice p n c, .int .i64 (a : Int), .int .i64 (b : Int), .int .i64 (e : Int), .pointer (some ⟨s, 0, none⟩)] h R := by
  refine slices_medianOrdered_int.walk (order2_ok d hs hn hp ha hb fun h1 x1 y1 e1 d1 s1 => ⟨_, _, rfl, ?_⟩)
  refine order2_ok d1 s1 hn hp (a := y1) (b := e) (by omega) he fun h2 x2 y2 e2 d2 s2 => ⟨_, _, rfl, ?_⟩
  refine order2_ok d2 s2 hn hp (a := x1) (b := x2) (by omega) (by omega) fun h3 x3 y3 e3 d3 s3 => ⟨_, _, rfl, ?_⟩
  exact hk h3 y3 (by omega) d3 s3
theorem adj_ok (d : D h0 h p n c xs) (hs : Cel h s T.int .i64) (hn : h0.size ≤ s) (hp : ¬ inBlk p s) (ha : 1 ≤ a) (hb : a + 1 < n) (hn2 : n ≤ 100000)
    (hk : ∀ h' (x : Nat), a ≤ x + 1 → x ≤ a + 1 → D h0 h' p n c xs → Cel h' s T.int .i64 → R (.int .i64 (x : Int)) h') :
    CallsH Tryz.prog F.slices_medianAdjacentOrdered_int #[.slice p n c, .int .i64 (a : Int), .pointer (some ⟨s, 0, none⟩)] h R := by
  refine slices_medianAdjacentOrdered_int.walk ?_
  unfold slices_medianAdjacentOrdered_int.vc
  rw [wS (k := a - 1) (by omega) (by omega), wS (k := a + 1) (by omega) (by omega)]
  exact median_ok d hs hn hp (by omega) (by omega) (by omega) fun h' x hx d' s' => ⟨_, rfl, hk h' x (by omega) (by omega) d' s'⟩
theorem pivot_ok (d : D h0 h p n c xs) (hb : b ≤ n) (hab : a + 8 ≤ b) (hn : n ≤ 100000)
    (hk : ∀ h' (x : Nat) (hint : Int), a ≤ x → x < b → D h0 h' p n c xs → R (.tuple #[.int .i64 (x : Int), .int .i64 hint]) h') :
    CallsH Tryz.prog F.slices_choosePivotOrdered_int #[.slice p n c, .int .i64 (a : Int), .int .i64 (b : Int)] h R := by
  refine slices_choosePivotOrdered_int.walk (newP_of ?_)
  have f1 : Fr (fun _ => False) h (h.push (.cells #[.int .i64 0] T.int)) := Fr.push _ _
  have c1 : Cel (h.push (.cells #[.int .i64 0] T.int)) h.size T.int .i64 := ⟨0, push_new⟩
  generalize h.push (.cells #[.int .i64 0] T.int) = h1 at f1 c1 ⊢
  have hs : h0.size ≤ h.size := d.fr.1
  have hp : ¬ inBlk p h.size := fun hx => by have := d.own.blk_lt hx; omega
  have d1 := d.on f1
  have wl : IntKind.wrap .i64 ((b : Int) - (a : Int)) = ((b - a : Nat) : Int) := wS (by omega) (by omega)
  have w4 : IntKind.wrap .i64 (Int.tdiv ((b - a : Nat) : Int) 4) = (((b - a) / 4 : Nat) : Int) := wS (by rw [Int.tdiv_eq_ediv_of_nonneg (by omega)]; omega) (by omega)
  have q1 : IntKind.wrap .i64 ((((b - a) / 4 : Nat) : Int) * 1) = (((b - a) / 4 : Nat) : Int) := wS (by omega) (by omega)
  have q2 : IntKind.wrap .i64 ((((b - a) / 4 : Nat) : Int) * 2) = (((b - a) / 4 * 2 : Nat) : Int) := wS (by omega) (by omega)
  have q3 : IntKind.wrap .i64 ((((b - a) / 4 : Nat) : Int) * 3) = (((b - a) / 4 * 3 : Nat) : Int) := wS (by omega) (by omega)
  have r1 : IntKind.wrap .i64 ((a : Int) + (((b - a) / 4 : Nat) : Int)) = ((a + (b - a) / 4 : Nat) : Int) := wS (by omega) (by omega)
  have r2 : IntKind.wrap .i64 ((a : Int) + (((b - a) / 4 * 2 : Nat) : Int)) = ((a + (b - a) / 4 * 2 : Nat) : Int) := wS (by omega) (by omega)
  have r3 : IntKind.wrap .i64 ((a : Int) + (((b - a) / 4 * 3 : Nat) : Int)) = ((a + (b - a) / 4 * 3 : Nat) : Int) := wS (by omega) (by omega)
  simp only [wl, w4, q1, q2, q3, r1, r2, r3]
  refine JoinP.of fun J hJ => ?_
  have go : ∀ g (x : Nat), a ≤ x → x < b → D h0 g p n c xs → Cel g h.size T.int .i64 → J (x : Int) g := by
    intro g x x1 x2 dg cg
    subst hJ
    obtain ⟨t, ht⟩ := cg
    refine ⟨_, cell_at ht rfl, ?_⟩
    split
    · exact hk g x 1 x1 x2 dg
    · split
      · exact hk g x 2 x1 x2 dg
      · exact hk g x 0 x1 x2 dg
  clear hJ
  rw [if_pos (decide_eq_true (by omega))]
  refine JoinP.of fun J1 hJ1 => ?_
  have go1 : ∀ g (x y z : Nat), a ≤ x → x < b → a ≤ y → y < b → a ≤ z → z < b → D h0 g p n c xs → Cel g h.size T.int .i64 → J1 (x : Int) (y : Int) (z : Int) g := by
    intro g x y z x1 x2 y1 y2 z1 z2 dg cg
    subst hJ1
    exact median_ok dg cg hs hp (by omega) (by omega) (by omega) fun g2 m hm d2 c2 => ⟨_, rfl, go g2 m (by omega) (by omega) d2 c2⟩
  clear hJ1
  by_cases h50 : 50 ≤ b - a
  · rw [if_pos (decide_eq_true (by omega))]
    refine adj_ok d1 c1 hs hp (by omega) (by omega) hn fun g2 x x1 x2 d2 c2 => ⟨_, rfl, ?_⟩
    refine adj_ok d2 c2 hs hp (by omega) (by omega) hn fun g3 y y1 y2 d3 c3 => ⟨_, rfl, ?_⟩
    refine adj_ok d3 c3 hs hp (by omega) (by omega) hn fun g4 z z1 z2 d4 c4 => ⟨_, rfl, ?_⟩
    exact go1 g4 x y z (by omega) (by omega) (by omega) (by omega) (by omega) (by omega) d4 c4
  · rw [if_neg (by simp; omega)]
    exact go1 h1 _ _ _ (by omega) (by omega) (by omega) (by omega) (by omega) (by omega) d1 c1

/-! ### what breaks patterns -/
theorem next_ok (hs : Cel h s T.slices_xorshift .u64) (hk : ∀ h' (t : Int), Cel h' s T.slices_xorshift .u64 → h'.size = h.size → (∀ x, x ≠ s → h'[x]? = h[x]?) → R (.int .u64 t) h') :
    CallsH Tryz.prog F.slices_xorshift_Next #[.pointer (some ⟨s, 0, none⟩)] h R := by
  obtain ⟨x, hx⟩ := hs
  refine slices_xorshift_Next.walk ⟨_, cell_at hx rfl, _, cell_at hx rfl, storeP_blk hx (by simp) fun h1 a1 s1 o1 => ⟨_, cell_at a1 rfl, _, cell_at a1 rfl, storeP_blk a1 (by simp) fun h2 a2 s2 o2 => ⟨_, cell_at a2 rfl, _, cell_at a2 rfl, storeP_blk a2 (by simp) fun h3 a3 s3 o3 => ⟨_, cell_at a3 rfl, ?_⟩⟩⟩⟩
  exact hk h3 _ ⟨_, a3⟩ (by omega) (fun y hy => by rw [o3 y hy, o2 y hy, o1 y hy])
def tab8 : ByteArray := ⟨#[0, 1, 2, 2, 3, 3, 3, 3, 4, 4, 4, 4, 4, 4, 4, 4, 5, 5, 5, 5, 5, 5, 5, 5, 5, 5, 5, 5, 5, 5, 5, 5, 6, 6, 6, 6, 6, 6, 6, 6, 6, 6, 6, 6, 6, 6, 6, 6, 6, 6, 6, 6, 6, 6, 6, 6, 6, 6, 6, 6, 6, 6, 6, 6, 7, 7, 7, 7, 7, 7, 7, 7, 7, 7, 7, 7, 7, 7, 7, 7, 7, 7, 7, 7, 7, 7, 7, 7, 7, 7, 7, 7, 7, 7, 7, 7, 7, 7, 7, 7, 7, 7, 7, 7, 7, 7, 7, 7, 7, 7, 7, 7, 7, 7, 7, 7, 7, 7, 7, 7, 7, 7, 7, 7, 7, 7, 7, 7, 8, 8, 8, 8, 8, 8, 8, 8, 8, 8, 8, 8, 8, 8, 8, 8, 8, 8, 8, 8, 8, 8, 8, 8, 8, 8, 8, 8, 8, 8, 8, 8, 8, 8, 8, 8, 8, 8, 8, 8, 8, 8, 8, 8, 8, 8, 8, 8, 8, 8, 8, 8, 8, 8, 8, 8, 8, 8, 8, 8, 8, 8, 8, 8, 8, 8, 8, 8, 8, 8, 8, 8, 8, 8, 8, 8, 8, 8, 8, 8, 8, 8, 8, 8, 8, 8, 8, 8, 8, 8, 8, 8, 8, 8, 8, 8, 8, 8, 8, 8, 8, 8, 8, 8, 8, 8, 8, 8, 8, 8, 8, 8, 8, 8, 8, 8, 8, 8, 8, 8, 8, 8, 8, 8, 8, 8, 8, 8]⟩
def len8 (y : Nat) : Nat := (tab8.data.toList.getD y 0).toNat
theorem len8_all : (List.range 256).all (fun y => y == 0 || (decide (2 ^ len8 y ≤ 2 * y) && decide (y < 2 ^ len8 y) && decide (len8 y ≤ 8))) = true := by decide +kernel
theorem len8_ok {y : Nat} (h0 : 0 < y) (h1 : y < 256) : 2 ^ len8 y ≤ 2 * y ∧ y < 2 ^ len8 y ∧ len8 y ≤ 8 := by
  have := List.all_eq_true.1 len8_all y (List.mem_range.2 h1)
  simp only [Bool.or_eq_true, beq_iff_eq, Bool.and_eq_true, decide_eq_true_eq] at this
  rcases this with e | ⟨⟨e1, e2⟩, e3⟩
  · omega
  · exact ⟨e1, e2, e3⟩
theorem bits_ok {x : Nat} (h0 : 0 < x) (h1 : x < 65536) (hk : ∀ L : Nat, L ≤ 16 → 2 ^ L ≤ 2 * x → x < 2 ^ L → R (.int .i64 (L : Int)) h) : CallsH Tryz.prog F.math_bits_Len #[.int .u64 (x : Int)] h R := by
  refine math_bits_Len.walk (math_bits_Len64.walk (JoinP.of fun J hJ => ?_))
  rw [if_neg (by simp; omega)]
  subst hJ
  refine JoinP.of fun J hJ => ?_
  rw [if_neg (by simp; omega)]
  subst hJ
  refine JoinP.of fun J hJ => ?_
  have fin : ∀ (y m : Nat), y < 256 → m ≤ 100 → len8 y ≤ 8 → R (.int .i64 ((m + len8 y : Nat) : Int)) h → J (y : Int) (m : Int) h := by
    intro y m hy hm hl hr
    subst hJ
    have e1 : IntKind.wrap .u8 (y : Int) = (y : Int) := wrap_u8 (by omega) (by omega)
    refine ⟨⟨by rw [e1]; omega, ?_⟩, _, rfl, ?_⟩
    · show IntKind.wrap .u8 (y : Int) < 256
      rw [e1]; omega
    · have e3 : IntKind.wrap .i64 ((m : Int) + IntKind.wrap .i64 (((tab8.data.toList.getD (Int.toNat (IntKind.wrap .u8 (y : Int))) 0).toNat : Nat) : Int)) = ((m + len8 y : Nat) : Int) := by
        rw [e1, Int.toNat_natCast]
        show IntKind.wrap .i64 ((m : Int) + IntKind.wrap .i64 ((len8 y : Nat) : Int)) = _
        rw [wrap_id (n := ((len8 y : Nat) : Int)) (by omega) (by omega), wrap_id (by omega) (by omega)]; omega
      rw [← e3] at hr
      exact hr
  clear hJ
  by_cases h8 : 256 ≤ x
  · rw [if_pos (decide_eq_true (by omega))]
    have e0 : Int.fdiv (x : Int) (2 ^ min (Int.toNat 8) (IntKind.bits .u64)) = ((x / 256 : Nat) : Int) := by
      show Int.fdiv (x : Int) 256 = _
      rw [Int.fdiv_eq_ediv_of_nonneg _ (by omega)]; omega
    have hl := len8_ok (y := x / 256) (by omega) (by omega)
    rw [e0, wS (k := 8) (by omega) (by omega)]
    exact fin _ _ (by omega) (by omega) (by omega) (hk (8 + len8 (x / 256)) (by omega) (by rw [Nat.pow_add]; omega) (by rw [Nat.pow_add]; omega))
  · rw [if_neg (by simp; omega)]
    have hl := len8_ok (y := x) (by omega) (by omega)
    refine fin x 0 (by omega) (by omega) (by omega) ?_
    rw [Nat.zero_add]
    exact hk (len8 x) (by omega) hl.1 hl.2.1
theorem pow_ok {x : Nat} (h0 : 0 < x) (h1 : x < 65536) (hk : ∀ m : Nat, 0 < m → m ≤ 2 * x → R (.int .u64 (m : Int)) h) : CallsH Tryz.prog F.slices_nextPowerOfTwo #[.int .i64 (x : Int)] h R := by
  refine slices_nextPowerOfTwo.walk ?_
  unfold slices_nextPowerOfTwo.vc
  rw [wrap_u64 (by omega) (by omega)]
  refine bits_ok h0 h1 fun L hL h2 h3 => ⟨_, rfl, ?_⟩
  rw [if_neg (by omega)]
  have e : IntKind.wrap .u64 (1 * 2 ^ min (Int.toNat (L : Int)) (IntKind.bits .u64)) = ((2 ^ L : Nat) : Int) := by
    rw [Int.toNat_natCast, show min L (IntKind.bits .u64) = L from Nat.min_eq_left (by show L ≤ 64; omega), Int.one_mul, wrap_u64]
    · rw [Int.natCast_pow]; rfl
    · exact Int.le_of_lt (Int.pow_pos (by omega))
    · have : ((2 : Int) ^ L) = ((2 ^ L : Nat) : Int) := by rw [Int.natCast_pow]; rfl
      rw [this]; omega
  rw [e]
  exact hk (2 ^ L) (Nat.pow_pos (by omega)) h2
theorem break_ok (d : D h0 h p n c xs) (hb : b ≤ n) (hab : a + 8 ≤ b) (hn : n ≤ 60000) (hk : ∀ h' ys, D h0 h' p n c ys → PermOn a b ys xs → R (.tuple #[]) h') :
    CallsH Tryz.prog F.slices_breakPatternsOrdered_int #[.slice p n c, .int .i64 (a : Int), .int .i64 (b : Int)] h R := by
  refine slices_breakPatternsOrdered_int.walk ?_
  unfold slices_breakPatternsOrdered_int.vc
  have wl : IntKind.wrap .i64 ((b : Int) - (a : Int)) = ((b - a : Nat) : Int) := wS (by omega) (by omega)
  have w4 : IntKind.wrap .i64 (Int.tdiv ((b - a : Nat) : Int) 4) = (((b - a) / 4 : Nat) : Int) := wS (by rw [Int.tdiv_eq_ediv_of_nonneg (by omega)]; omega) (by omega)
  have q2 : IntKind.wrap .i64 ((((b - a) / 4 : Nat) : Int) * 2) = (((b - a) / 4 * 2 : Nat) : Int) := wS (by omega) (by omega)
  have r2 : IntKind.wrap .i64 ((a : Int) + (((b - a) / 4 * 2 : Nat) : Int)) = ((a + (b - a) / 4 * 2 : Nat) : Int) := wS (by omega) (by omega)
  have r3 : IntKind.wrap .i64 (((a + (b - a) / 4 * 2 : Nat) : Int) - 1) = ((a + (b - a) / 4 * 2 - 1 : Nat) : Int) := wS (by omega) (by omega)
  have r4 : IntKind.wrap .i64 (((a + (b - a) / 4 * 2 : Nat) : Int) + 1) = ((a + (b - a) / 4 * 2 + 1 : Nat) : Int) := wS (by omega) (by omega)
  simp only [wl, w4, q2, r2, r3, r4]
  rw [if_pos (decide_eq_true (by omega))]
  refine newP_of (storeP_push (by simp) ?_)
  have f1 : Fr (fun _ => False) h (h.push (.cells (#[.int .u64 0].setIfInBounds 0 (.int .u64 (IntKind.wrap .u64 ((b - a : Nat) : Int)))) T.slices_xorshift)) := Fr.push _ _
  have c1 : Cel (h.push (.cells (#[.int .u64 0].setIfInBounds 0 (.int .u64 (IntKind.wrap .u64 ((b - a : Nat) : Int)))) T.slices_xorshift)) h.size T.slices_xorshift .u64 := ⟨_, push_new⟩
  generalize h.push (.cells (#[.int .u64 0].setIfInBounds 0 (.int .u64 (IntKind.wrap .u64 ((b - a : Nat) : Int)))) T.slices_xorshift) = h1 at f1 c1 ⊢
  have hs : h0.size ≤ h.size := d.fr.1
  have hp : ¬ inBlk p h.size := fun hx => by have := d.own.blk_lt hx; omega
  refine pow_ok (by omega) (by omega) fun m m0 m2 => ⟨_, rfl, ?_⟩
  refine ⟨fun t g => ∃ (k : Nat) (ys : List Int), t = (k : Int) ∧ a ≤ k ∧ k ≤ a + (b - a) / 4 * 2 + 2 ∧ D h0 g p n c ys ∧ Cel g h.size T.slices_xorshift .u64 ∧ PermOn a b ys xs, fun t _ => a + (b - a) / 4 * 2 + 2 - t.toNat, ⟨_, xs, rfl, by omega, by omega, d.on f1, c1, .refl⟩, ?_⟩
  rintro _ g ⟨k, ys, rfl, k1, k2, dy, cy, py⟩
  have ly := dy.len
  by_cases hlt : k ≤ a + (b - a) / 4 * 2 + 1
  · rw [if_pos (decide_eq_true (by omega))]
    refine next_ok cy fun g2 t c2 s2 o2 => ⟨_, rfl, JoinP.of fun J hJ => ?_⟩
    have d2 := dy.touch s2 o2 hs hp
    have go : ∀ x : Nat, x < b - a → J (x : Int) g2 := by
      intro x hx
      subst hJ
      dsimp only
      have w5 : IntKind.wrap .i64 ((a : Int) + (x : Int)) = ((a + x : Nat) : Int) := wS (by omega) (by omega)
      rw [w5]
      refine d2.swap (i := k) (j := a + x) rfl (by omega) rfl (by omega) fun g3 d3 s3 o3 => ?_
      rw [wS (k := k + 1) (by omega) (by omega)]
      have c3 : Cel g3 h.size T.slices_xorshift .u64 := by
        obtain ⟨y, hy⟩ := c2
        exact ⟨y, by rw [o3 _ hp]; exact hy⟩
      exact ⟨⟨k + 1, _, rfl, by omega, by omega, d3, c3, (PermOn.swp (by omega) (by omega) (by omega) (by omega) (by omega)).trans py⟩, by show a + (b - a) / 4 * 2 + 2 - Int.toNat ((k + 1 : Nat) : Int) < a + (b - a) / 4 * 2 + 2 - k; omega⟩
    clear hJ
    have wm : IntKind.wrap .u64 ((m : Int) - 1) = ((m - 1 : Nat) : Int) := by rw [wrap_u64 (by omega) (by omega)]; omega
    rw [wm]
    have hand : (BitVec.ofInt (IntKind.bits .u64) t &&& BitVec.ofInt (IntKind.bits .u64) ((m - 1 : Nat) : Int)).toNat ≤ m - 1 := by
      rw [BitVec.toNat_and]
      refine Nat.le_trans Nat.and_le_right ?_
      rw [BitVec.toNat_ofInt]
      have : (((m - 1 : Nat) : Int) % ((2 ^ (IntKind.bits .u64) : Nat) : Int)) = ((m - 1 : Nat) : Int) := by
        show ((m - 1 : Nat) : Int) % 18446744073709551616 = _
        omega
      rw [this]; omega
    generalize (BitVec.ofInt (IntKind.bits .u64) t &&& BitVec.ofInt (IntKind.bits .u64) ((m - 1 : Nat) : Int)).toNat = o at hand ⊢
    have wo : IntKind.wrap .i64 (IntKind.wrap .u64 (o : Int)) = (o : Int) := by rw [wrap_u64 (by omega) (by omega)]; exact wS rfl (by omega)
    rw [wo]
    by_cases ho : b - a ≤ o
    · rw [if_pos (decide_eq_true (by omega)), wS (k := o - (b - a)) (by omega) (by omega)]
      exact go _ (by omega)
    · rw [if_neg (by simp; omega)]
      exact go _ (by omega)
  · rw [if_neg (by simp; omega)]
    exact hk g ys dy py
end Srt
end Go.Proofs.YtgccegnmggjkjaaGreatDoor

/-
  What is proved here: 'slices.Sort' of numbers that are apart sorts them. No condition.
-/
set_option maxRecDepth 100000
namespace Go.Proofs.YtgccegnmggjkjaaGreatDoor
open Go.Den Go.Srt
namespace Srt
variable {h h0 g : Heap} {R : Value → Heap → Prop} {p : Option Addr} {n c a b i j s : Nat} {xs ys ws : List Int} {I J : Int}
theorem scan_up {CONT : Int → Heap → Prop} {A JJ i0 : Int} (d : D h0 h p n c ws) (hn : n ≤ 100000) (hA : A = (a : Int)) (hJJ : JJ = (j : Int)) (hI : i0 = (i : Int)) (h1 : a < i) (h2 : i ≤ j + 1) (h3 : j < n) (lo : ∀ k, a < k → k < i → V ws k < V ws a)
    (hk : ∀ i', i ≤ i' → i' ≤ j + 1 → (∀ k, a < k → k < i' → V ws k < V ws a) → (i' ≤ j → ¬ V ws i' < V ws a) → CONT (i' : Int) h) :
    ∃ (I : Int → Heap → Prop) (mu : Int → Heap → Nat), I i0 h ∧ ∀ (ii : Int) (g : Heap), I ii g →
      JoinP (fun (t : Bool) (g4 : Heap) => if t = true then (I (IntKind.wrap .i64 (ii + 1)) g4 ∧ mu (IntKind.wrap .i64 (ii + 1)) g4 < mu ii g) else CONT ii g4)
      (fun J => if (decide (ii ≤ JJ)) = true then
          ((0 : Int) ≤ ii ∧ ii < ((n : Nat) : Int)) ∧ onSome p fun x => ∃ (t : Int), hcell g (x.add (Int.toNat ii * 1)) = some (.int .i64 t) ∧
          ((0 : Int) ≤ A ∧ A < ((n : Nat) : Int)) ∧ onSome p fun y => ∃ (u : Int), hcell g (y.add (Int.toNat A * 1)) = some (.int .i64 u) ∧
          CallsH Tryz.prog F.cmp_Less_int #[.int .i64 t, .int .i64 u] g fun v g2 => ∃ (q : Bool), v = .bool q ∧ J q g2
        else J false g) := by
  refine ⟨fun t g => g = h ∧ ∃ k : Nat, t = (k : Int) ∧ i ≤ k ∧ k ≤ j + 1 ∧ ∀ x, a < x → x < k → V ws x < V ws a, fun t _ => j + 1 - t.toNat, ⟨rfl, i, hI, Nat.le_refl _, h2, lo⟩, ?_⟩
  rintro _ g ⟨rfl, k, rfl, k1, k2, lok⟩
  refine JoinP.of fun J hJ => ?_
  by_cases hkj : k ≤ j
  · rw [if_pos (decide_eq_true (by omega))]
    refine d.cmp rfl (by omega) hA (by omega) ?_
    by_cases hl : V ws k < V ws a
    · rw [decide_eq_true hl]
      subst hJ
      simp only [if_true]
      rw [wS (k := k + 1) (by omega) (by omega)]
      refine ⟨⟨by first | trivial | rfl, k + 1, rfl, by omega, by omega, fun x x1 x2 => ?_⟩, by show j + 1 - Int.toNat ((k + 1 : Nat) : Int) < j + 1 - k; omega⟩
      by_cases e : x = k
      · rw [e]; exact hl
      · exact lok x x1 (by omega)
    · rw [decide_eq_false hl]
      subst hJ
      simp only [Bool.false_eq_true, if_false]
      exact hk k k1 k2 lok (fun _ => hl)
  · rw [if_neg (by simp; omega)]
    subst hJ
    simp only [Bool.false_eq_true, if_false]
    exact hk k k1 k2 lok (fun e => by omega)
theorem scan_down {CONT : Int → Heap → Prop} {A II j0 : Int} (d : D h0 h p n c ws) (hn : n ≤ 100000) (hA : A = (a : Int)) (hII : II = (i : Int)) (hj0 : j0 = (j : Int)) (h1 : a < i) (h2 : i ≤ j + 1) (h3 : j < b) (hb : b ≤ n) (hi : ∀ k, j < k → k < b → V ws a < V ws k) (nd : ws.Nodup)
    (hk : ∀ j', j' ≤ j → i ≤ j' + 1 → (∀ k, j' < k → k < b → V ws a < V ws k) → (i ≤ j' → V ws j' < V ws a) → CONT (j' : Int) h) :
    ∃ (I : Int → Heap → Prop) (mu : Int → Heap → Nat), I j0 h ∧ ∀ (jj : Int) (g : Heap), I jj g →
      JoinP (fun (t : Bool) (g4 : Heap) => if t = true then (I (IntKind.wrap .i64 (jj - 1)) g4 ∧ mu (IntKind.wrap .i64 (jj - 1)) g4 < mu jj g) else CONT jj g4)
      (fun J => if (decide (II ≤ jj)) = true then
          ((0 : Int) ≤ jj ∧ jj < ((n : Nat) : Int)) ∧ onSome p fun x => ∃ (t : Int), hcell g (x.add (Int.toNat jj * 1)) = some (.int .i64 t) ∧
          ((0 : Int) ≤ A ∧ A < ((n : Nat) : Int)) ∧ onSome p fun y => ∃ (u : Int), hcell g (y.add (Int.toNat A * 1)) = some (.int .i64 u) ∧
          CallsH Tryz.prog F.cmp_Less_int #[.int .i64 t, .int .i64 u] g fun v g2 => ∃ (q : Bool), v = .bool q ∧ J (!q) g2
        else J false g) := by
  have ln := d.len
  refine ⟨fun t g => g = h ∧ ∃ k : Nat, t = (k : Int) ∧ k ≤ j ∧ i ≤ k + 1 ∧ ∀ x, k < x → x < b → V ws a < V ws x, fun t _ => t.toNat, ⟨rfl, j, hj0, Nat.le_refl _, h2, hi⟩, ?_⟩
  rintro _ g ⟨rfl, k, rfl, k1, k2, hik⟩
  refine JoinP.of fun J hJ => ?_
  by_cases hkj : i ≤ k
  · rw [if_pos (decide_eq_true (by omega))]
    refine d.cmp (K := fun q g2 => J (!q) g2) rfl (by omega) hA (by omega) ?_
    by_cases hl : V ws k < V ws a
    · rw [decide_eq_true hl]
      subst hJ
      simp only [Bool.not_true, Bool.false_eq_true, if_false]
      exact hk k k1 k2 hik (fun _ => hl)
    · rw [decide_eq_false hl]
      subst hJ
      simp only [Bool.not_false, if_true]
      rw [wS (k := k - 1) (by omega) (by omega)]
      refine ⟨⟨by first | trivial | rfl, k - 1, rfl, by omega, by omega, fun x x1 x2 => ?_⟩, by show Int.toNat ((k - 1 : Nat) : Int) < k; omega⟩
      by_cases e : x = k
      · rw [e]
        have := nd_ne nd (i := a) (j := k) (by omega) (by omega) (by omega)
        omega
      · exact hik x (by omega) x2
  · rw [if_neg (by simp; omega)]
    subst hJ
    simp only [Bool.false_eq_true, if_false]
    exact hk k k1 k2 hik (fun e => by omega)
theorem part_ok {piv : Nat} (d : D h0 h p n c xs) (nd : xs.Nodup) (h1 : a ≤ piv) (h2 : piv < b) (hb : b ≤ n) (hn : n ≤ 60000)
    (hk : ∀ h' zs (m : Nat) (q : Bool), a ≤ m → m < b → D h0 h' p n c zs → PermOn a b zs xs → Part zs a b m → R (.tuple #[.int .i64 (m : Int), .bool q]) h') :
    CallsH Tryz.prog F.slices_partitionOrdered_int #[.slice p n c, .int .i64 (a : Int), .int .i64 (b : Int), .int .i64 (piv : Int)] h R := by
  have ln := d.len
  refine slices_partitionOrdered_int.walk (d.swap (i := a) (j := piv) rfl (by omega) rfl (by omega) fun g1 d1 _ _ => ?_)
  have P0 : PI xs (swp xs a piv) a b (a + 1) (b - 1) := ⟨PermOn.swp (by omega) (by omega) (by omega) (by omega) (by omega), fun k _ _ => by omega, fun k _ _ => by omega⟩
  generalize swp xs a piv = ws at d1 P0
  have lw := d1.len
  have ndw := P0.perm.nd nd
  have wb : IntKind.wrap .i64 ((b : Int) - 1) = ((b - 1 : Nat) : Int) := wS (by omega) (by omega)
  rw [wb]
  refine scan_up d1 (by omega) rfl rfl (i := a + 1) (wS (by omega) (by omega)) (by omega) (by omega) (by omega) P0.lo fun i i1 i2 lo1 hi1 => ?_
  refine scan_down d1 (b := b) (by omega) rfl rfl rfl (by omega) (by omega) (by omega) (by omega) P0.hi ndw fun j j1 j2 hi2 lo2 => ?_
  have PIj : PI xs ws a b i j := ⟨P0.perm, lo1, hi2⟩
  by_cases hij : j < i
  · rw [if_pos (decide_eq_true (by omega))]
    refine d1.swap (i := j) (j := a) rfl (by omega) rfl (by omega) fun g2 d2 _ _ => ?_
    obtain ⟨q1, q2⟩ := PIj.stop (by omega) (by omega) (by omega) (by omega)
    exact hk g2 _ j true (by omega) (by omega) d2 q2 q1
  · rw [if_neg (by simp; omega)]
    have l2 := lo2 (by omega)
    have l1 := hi1 (by omega)
    have hne := nd_ne ndw (i := a) (j := i) (by omega) (by omega) (by omega)
    have hij2 : i ≠ j := fun e => by rw [e] at l1; exact l1 l2
    refine d1.swap (i := i) (j := j) rfl (by omega) rfl (by omega) fun g2 d2 _ _ => ?_
    have P2 := PIj.swap (by omega) (by omega) (by omega) (by omega) (by omega) l2
    refine ⟨fun t u g => ∃ (i j : Nat) (ws : List Int), t = (i : Int) ∧ u = (j : Int) ∧ a < i ∧ i ≤ j + 1 ∧ j < b ∧ D h0 g p n c ws ∧ PI xs ws a b i j, fun t u _ => (u + 1 - t).toNat, ⟨i + 1, j - 1, _, wS (by omega) (by omega), wS (by omega) (by omega), by omega, by omega, by omega, d2, P2⟩, ?_⟩
    clear P2 d2 PIj l1 l2 hne lo2 hi2 lo1 hi1 P0 d1 ndw lw
    rintro _ _ g3 ⟨i, j, ws, rfl, rfl, h4, h5, h6, d3, P3⟩
    have lw := d3.len
    have ndw := P3.perm.nd nd
    refine scan_up d3 (by omega) rfl rfl rfl (by omega) (by omega) (by omega) P3.lo fun i' i1 i2 lo1 hi1 => ?_
    refine scan_down d3 (b := b) (by omega) rfl rfl rfl (by omega) (by omega) (by omega) (by omega) P3.hi ndw fun j' j1 j2 hi2 lo2 => ?_
    have PIj : PI xs ws a b i' j' := ⟨P3.perm, lo1, hi2⟩
    by_cases hij : j' < i'
    · rw [if_pos (decide_eq_true (by omega))]
      refine d3.swap (i := j') (j := a) rfl (by omega) rfl (by omega) fun g4 d4 _ _ => ?_
      obtain ⟨q1, q2⟩ := PIj.stop (by omega) (by omega) (by omega) (by omega)
      exact hk g4 _ j' false (by omega) (by omega) d4 q2 q1
    · rw [if_neg (by simp; omega)]
      have l2 := lo2 (by omega)
      have l1 := hi1 (by omega)
      have hne := nd_ne ndw (i := a) (j := i') (by omega) (by omega) (by omega)
      have hij2 : i' ≠ j' := fun e => by rw [e] at l1; exact l1 l2
      refine d3.swap (i := i') (j := j') rfl (by omega) rfl (by omega) fun g4 d4 _ _ => ?_
      have P4 := PIj.swap (by omega) (by omega) (by omega) (by omega) (by omega) l2
      rw [wS (k := i' + 1) (by omega) (by omega), wS (k := j' - 1) (by omega) (by omega)]
      exact ⟨⟨i' + 1, j' - 1, _, rfl, rfl, by omega, by omega, by omega, d4, P4⟩, by show Int.toNat (((j' - 1 : Nat) : Int) + 1 - ((i' + 1 : Nat) : Int)) < Int.toNat ((j : Int) + 1 - (i : Int)); omega⟩

/-! ### a few steps of insertion -/
theorem partial_ok (d : D h0 h p n c xs) (nd : xs.Nodup) (lb : LB xs a b) (hab : a < b) (hb : b ≤ n) (hn : n ≤ 60000)
    (hk : ∀ h' zs (q : Bool), D h0 h' p n c zs → PermOn a b zs xs → (q = true → SO zs a b) → R (.bool q) h') :
    CallsH Tryz.prog F.slices_partialInsertionSortOrdered_int #[.slice p n c, .int .i64 (a : Int), .int .i64 (b : Int)] h R := by
  have ln := d.len
  refine slices_partialInsertionSortOrdered_int.walk ?_
  refine ⟨fun t u g => ∃ (i k : Nat) (ys : List Int), t = (i : Int) ∧ u = (k : Int) ∧ a + 1 ≤ i ∧ i ≤ b ∧ k ≤ 5 ∧ D h0 g p n c ys ∧ PermOn a b ys xs ∧ SO ys a i, fun _ u _ => 5 - u.toNat, ⟨a + 1, 0, xs, wS (by omega) (by omega), rfl, by omega, by omega, by omega, d, .refl, fun p q _ _ _ => by omega⟩, ?_⟩
  rintro _ _ g ⟨i, k, ys, rfl, rfl, h1, h2, h3, dy, py, sy⟩
  have ly := dy.len
  by_cases hk5 : k < 5
  · rw [if_pos (decide_eq_true (by omega))]
    refine JoinP.of fun J hJ => ?_
    have goJ : ∀ g (i : Nat) zs, a + 1 ≤ i → i ≤ b → D h0 g p n c zs → PermOn a b zs xs → SO zs a i → J (i : Int) g := by
      intro g i zs i1 i2 dz pz sz
      subst hJ
      dsimp only
      rw [wS (k := k + 1) (by omega) (by omega)]
      exact ⟨⟨i, k + 1, zs, rfl, rfl, i1, i2, by omega, dz, pz, sz⟩, by show 5 - Int.toNat ((k + 1 : Nat) : Int) < 5 - k; omega⟩
    clear hJ
    refine ⟨fun t g' => g' = g ∧ ∃ i : Nat, t = (i : Int) ∧ a + 1 ≤ i ∧ i ≤ b ∧ SO ys a i, fun t _ => b - t.toNat, ⟨rfl, i, rfl, h1, h2, sy⟩, ?_⟩
    clear h1 h2 sy
    rintro _ g ⟨rfl, i, rfl, h1, h2, sy⟩
    have ndy := py.nd nd
    have w1 : IntKind.wrap .i64 ((i : Int) - 1) = ((i - 1 : Nat) : Int) := wS (by omega) (by omega)
    refine JoinP.of fun J1 hJ1 => ?_
    have stop : (i = b ∨ V ys i < V ys (i - 1)) → J1 false g := by
      intro he
      subst hJ1
      simp only [Bool.false_eq_true, if_false]
      by_cases hib : i = b
      · rw [if_pos (by simp [hib])]
        exact hk g ys true dy py (fun _ => by rw [← hib]; exact sy)
      · rw [if_neg (by simp; omega)]
        by_cases h50 : b - a < 50
        · rw [if_pos (decide_eq_true (by rw [wS (k := b - a) (by omega) (by omega)]; omega))]
          exact hk g ys false dy py (fun e => by cases e)
        · rw [if_neg (by rw [wS (k := b - a) (by omega) (by omega)]; simp; omega), w1]
          refine dy.swap (i := i) (j := i - 1) rfl (by omega) rfl (by omega) fun g2 d2 _ _ => ?_
          have at_ : ∀ x : Nat, V (swp ys i (i - 1)) x = if x = i - 1 then V ys i else if x = i then V ys (i - 1) else V ys x := V_swp (by omega) (by omega)
          have p2 : PermOn a b (swp ys i (i - 1)) xs := (PermOn.swp (by omega) (by omega) (by omega) (by omega) (by omega)).trans py
          have s2 : SO (swp ys i (i - 1)) a (i - 1) := fun p q a1 a2 a3 => by
            rw [at_, at_, if_neg (by omega), if_neg (by omega), if_neg (by omega), if_neg (by omega)]
            exact sy p q a1 a2 (by omega)
          generalize swp ys i (i - 1) = zs at d2 p2 s2
          have lz := d2.len
          refine JoinP.of fun J2 hJ2 => ?_
          have go2 : ∀ g ws, D h0 g p n c ws → PermOn a b ws xs → SO ws a i → J2 g := by
            intro g ws dw pw sw
            have lw := dw.len
            subst hJ2
            refine JoinP.of fun J3 hJ3 => ?_
            have go3 : ∀ g ws, D h0 g p n c ws → PermOn a b ws xs → SO ws a i → J3 g := by
              intro g ws dw pw sw
              subst hJ3
              exact goJ g i ws h1 h2 dw pw sw
            clear hJ3
            by_cases hbi : 2 ≤ b - i
            · rw [if_pos (decide_eq_true (by rw [wS (k := b - i) (by omega) (by omega)]; omega))]
              refine JoinP.of fun J4 hJ4 => ?_
              have go4 : ∀ g ws, D h0 g p n c ws → PermOn a b ws xs → SO ws a i → J4 g := by
                intro g ws dw pw sw
                subst hJ4
                exact go3 g ws dw pw sw
              clear hJ4
              refine ⟨fun t g => ∃ (j : Nat) (vs : List Int), t = (j : Int) ∧ i + 1 ≤ j ∧ j ≤ b ∧ D h0 g p n c vs ∧ PermOn a b vs xs ∧ SO vs a i, fun t _ => b - t.toNat, ⟨i + 1, ws, wS (by omega) (by omega), by omega, by omega, dw, pw, sw⟩, ?_⟩
              rintro _ g5 ⟨j, vs, rfl, j1, j2, dv, pv, sv⟩
              have lv := dv.len
              by_cases hjb : j < b
              · rw [if_pos (decide_eq_true (by omega)), wS (x := (j : Int) - 1) (k := j - 1) (by omega) (by omega)]
                refine dv.cmp rfl (by omega) rfl (by omega) ?_
                by_cases hl : V vs j < V vs (j - 1)
                · rw [decide_eq_true hl, if_neg (by decide)]
                  refine dv.swap (i := j) (j := j - 1) rfl (by omega) rfl (by omega) fun g6 d6 _ _ => ?_
                  rw [wS (k := j + 1) (by omega) (by omega)]
                  have at6 : ∀ x : Nat, V (swp vs j (j - 1)) x = if x = j - 1 then V vs j else if x = j then V vs (j - 1) else V vs x := V_swp (by omega) (by omega)
                  exact ⟨⟨j + 1, _, rfl, by omega, by omega, d6, (PermOn.swp (by omega) (by omega) (by omega) (by omega) (by omega)).trans pv, fun p q a1 a2 a3 => by
                    rw [at6, at6, if_neg (by omega), if_neg (by omega), if_neg (by omega), if_neg (by omega)]
                    exact sv p q a1 a2 a3⟩, by show b - Int.toNat ((j + 1 : Nat) : Int) < b - j; omega⟩
                · rw [decide_eq_false hl, if_pos (by decide)]
                  exact go4 g5 vs dv pv sv
              · rw [if_neg (by simp; omega)]
                exact go4 g5 vs dv pv sv
            · rw [if_neg (by rw [wS (k := b - i) (by omega) (by omega)]; simp; omega)]
              exact go3 g ws dw pw sw
          clear hJ2
          by_cases hia : 2 ≤ i - a
          · rw [if_pos (decide_eq_true (by rw [wS (k := i - a) (by omega) (by omega)]; omega))]
            refine JoinP.of fun J5 hJ5 => ?_
            have go5 : ∀ g ws, D h0 g p n c ws → PermOn a b ws xs → SO ws a i → J5 g := by
              intro g ws dw pw sw
              subst hJ5
              exact go2 g ws dw pw sw
            clear hJ5
            refine ⟨fun t g => ∃ (j : Nat) (vs : List Int), t = (j : Int) ∧ a ≤ j ∧ j ≤ i - 1 ∧ D h0 g p n c vs ∧ InsI zs vs a (i - 1) j, fun t _ => t.toNat, ⟨i - 1, zs, rfl, by omega, by omega, d2, InsI.start s2⟩, ?_⟩
            rintro _ g5 ⟨j, vs, rfl, j1, j2, dv, Iv⟩
            have lv := dv.len
            have pv : PermOn a b vs xs := (Iv.perm.mono (Nat.le_refl _) (by omega)).trans p2
            have ndv := pv.nd nd
            have ei : i - 1 + 1 = i := by omega
            by_cases hj1 : 1 ≤ j
            · rw [if_pos (decide_eq_true (by omega)), wS (x := (j : Int) - 1) (k := j - 1) (by omega) (by omega)]
              refine dv.cmp rfl (by omega) rfl (by omega) ?_
              by_cases hl : V vs j < V vs (j - 1)
              · rw [decide_eq_true hl, if_neg (by decide)]
                have haj : a < j := by
                  by_cases e : a < j
                  · exact e
                  · have e : j = a := by omega
                    subst e
                    have := lb.perm pv (by omega)
                    rcases this with e | e
                    · omega
                    · have := e j (Nat.le_refl _) (by omega); omega
                refine dv.swap (i := j) (j := j - 1) rfl (by omega) rfl (by omega) fun g6 d6 _ _ => ?_
                exact ⟨⟨j - 1, _, rfl, by omega, by omega, d6, Iv.swap haj (by omega) (by omega) hl⟩, by show Int.toNat ((j - 1 : Nat) : Int) < j; omega⟩
              · rw [decide_eq_false hl, if_pos (by decide)]
                have hne := nd_ne ndv (i := j - 1) (j := j) (by omega) (by omega) (by omega)
                have := Iv.stop j1 j2 (.inr (by omega))
                rw [ei] at this
                exact go5 g5 vs dv pv this
            · rw [if_neg (by simp; omega)]
              have := Iv.stop j1 j2 (.inl (by omega))
              rw [ei] at this
              exact go5 g5 vs dv pv this
          · rw [if_neg (by rw [wS (k := i - a) (by omega) (by omega)]; simp; omega)]
            exact go2 g2 zs d2 p2 (fun p q _ _ _ => by omega)
    by_cases hib : i < b
    · rw [if_pos (decide_eq_true (by omega)), w1]
      refine dy.cmp (K := fun q g2 => J1 (!q) g2) rfl (by omega) rfl (by omega) ?_
      by_cases hl : V ys i < V ys (i - 1)
      · rw [decide_eq_true hl]
        exact stop (.inr hl)
      · rw [decide_eq_false hl]
        subst hJ1
        simp only [Bool.not_false, if_true]
        rw [wS (k := i + 1) (by omega) (by omega)]
        have hne := nd_ne ndy (i := i - 1) (j := i) (by omega) (by omega) (by omega)
        refine ⟨⟨by first | trivial | rfl, i + 1, rfl, by omega, by omega, fun p q a1 a2 a3 => ?_⟩, by show b - Int.toNat ((i + 1 : Nat) : Int) < b - i; omega⟩
        by_cases hq : q < i
        · exact sy p q a1 a2 hq
        · have eq : q = i := by omega
          subst eq
          by_cases hp : p = q - 1
          · rw [hp]; omega
          · have := sy p (q - 1) a1 (by omega) (by omega); omega
    · rw [if_neg (by simp; omega)]
      exact stop (.inl (by omega))
  · rw [if_neg (by simp; omega)]
    exact hk g ys false dy py (fun e => by cases e)

/-! ### all of it -/
theorem pdq_ok : ∀ (m : Nat) {a b : Nat} {limit : Int} {h : Heap} {xs : List Int} {R : Value → Heap → Prop}, b - a ≤ m → D h0 h p n c xs → xs.Nodup → a ≤ b → b ≤ n → n ≤ 60000 → LB xs a b →
    (∀ h' zs, D h0 h' p n c zs → PermOn a b zs xs → SO zs a b → R (.tuple #[]) h') →
    CallsH Tryz.prog F.slices_pdqsortOrdered_int #[.slice p n c, .int .i64 (a : Int), .int .i64 (b : Int), .int .i64 limit] h R := by
  intro m
  induction m using Nat.strongRecOn with
  | _ m ih =>
  intro a b limit h xs R hm d nd hab hb hn lb hk
  have ln := d.len
  refine slices_pdqsortOrdered_int.walk ?_
  refine ⟨fun t u _ _ _ g => ∃ (a' b' : Nat) (ys : List Int), t = (a' : Int) ∧ u = (b' : Int) ∧ a ≤ a' ∧ a' ≤ b' ∧ b' ≤ b ∧ D h0 g p n c ys ∧ PermOn a b ys xs ∧ But ys a b a' b' ∧ LB ys a' b', fun t u _ _ _ _ => (u - t).toNat, ⟨a, b, xs, rfl, rfl, Nat.le_refl _, hab, Nat.le_refl _, d, .refl, But.all, lb⟩, ?_⟩
  rintro _ _ lim wb wp g ⟨a', b', ys, rfl, rfl, h1, h2, h3, dy, py, By, Ly⟩
  have ly := dy.len
  have ndy := py.nd nd
  have wl : IntKind.wrap .i64 ((b' : Int) - (a' : Int)) = ((b' - a' : Nat) : Int) := wS (by omega) (by omega)
  refine JoinP.of fun J hJ => ?_
  have fin : ∀ g zs, D h0 g p n c zs → PermOn a' b' zs ys → SO zs a' b' → R (.tuple #[]) g := fun g zs dz pz sz =>
    hk g zs dz ((pz.mono h1 h3).trans py) ((By.perm h1 h3 pz (by omega)).done sz)
  rw [wl]
  by_cases h12 : b' - a' ≤ 12
  · rw [if_pos (decide_eq_true (by omega))]
    exact ins_ok dy ndy (by omega) (by omega) (by omega) fun g2 zs d2 p2 s2 => ⟨rfl, fin g2 zs d2 p2 s2⟩
  · rw [if_neg (by simp; omega)]
    by_cases hl0 : lim = 0
    · rw [if_pos (by simpa using hl0)]
      exact heap_ok dy ndy (by omega) (by omega) (by omega) fun g2 zs d2 p2 s2 => ⟨rfl, fin g2 zs d2 p2 s2⟩
    · rw [if_neg (by simpa using hl0)]
      refine JoinP.of fun J1 hJ1 => ?_
      have go1 : ∀ l g zs, D h0 g p n c zs → PermOn a' b' zs ys → J1 l g := by
        intro l g zs dz pz
        subst hJ1
        refine pivot_ok dz (by omega) (by omega) (by omega) fun g2 x hint x1 x2 d2 => ⟨_, _, rfl, JoinP.of fun J2 hJ2 => ?_⟩
        have go2 : ∀ (x : Nat) hint g zs, a' ≤ x → x < b' → D h0 g p n c zs → PermOn a' b' zs ys → J2 (x : Int) hint g := by
          intro x hint g zs x1 x2 dz pz
          subst hJ2
          refine JoinP.of fun J3 hJ3 => ?_
          have go3 : ∀ q, J3 q g := by
            intro q
            subst hJ3
            refine JoinP.of fun J4 hJ4 => ?_
            have go4 : ∀ g zs, D h0 g p n c zs → PermOn a' b' zs ys → J4 g := by
              intro g zs dz pz
              have lz := dz.len
              have Lz := Ly.perm pz (by omega)
              have Bz := By.perm h1 h3 pz (by omega)
              have pzx := (pz.mono h1 h3).trans py
              subst hJ4
              refine JoinP.of fun J5 hJ5 => ?_
              have go5 : J5 false g := by
                subst hJ5
                simp only [Bool.false_eq_true, if_false]
                refine part_ok dz (pz.nd ndy) x1 x2 (by omega) hn fun g3 ws mid q m1 m2 d3 p3 P3 => ⟨_, _, rfl, JoinP.of fun J6 hJ6 => ?_⟩
                have lw := d3.len
                have B3 := Bz.perm h1 h3 p3 (by omega)
                have L3 := Lz.perm p3 (by omega)
                have p3x := (p3.mono h1 h3).trans pzx
                have go6 : ∀ g (a2 b2 : Nat) q2 vs, a' ≤ a2 → a2 ≤ b2 → b2 ≤ b' → b2 - a2 < b' - a' → D h0 g p n c vs → PermOn a b vs xs → But vs a b a2 b2 → LB vs a2 b2 → J6 (a2 : Int) (b2 : Int) q2 g := by
                  intro g a2 b2 q2 vs e1 e2 e3 e4 dv pv Bv Lv
                  subst hJ6
                  subst hJ
                  exact ⟨⟨a2, b2, vs, rfl, rfl, by omega, e2, by omega, dv, pv, Bv, Lv⟩, by show Int.toNat ((b2 : Int) - (a2 : Int)) < Int.toNat ((b' : Int) - (a' : Int)); omega⟩
                have w1 : IntKind.wrap .i64 ((mid : Int) + 1) = ((mid + 1 : Nat) : Int) := wS (by omega) (by omega)
                split
                · refine ih (mid - a') (by omega) (Nat.le_refl _) d3 (p3x.nd nd) m1 (by omega) hn ?_ fun g4 vs d4 p4 s4 => ⟨rfl, ?_⟩
                  · rcases L3 with e | e
                    · exact .inl e
                    · exact .inr fun k k1 k2 => e k k1 (by omega)
                  · obtain ⟨B4, P4⟩ := B3.left h1 h3 P3 m1 m2 (by omega) p4 s4
                    rw [w1]
                    exact go6 g4 _ _ _ vs (by omega) (by omega) (by omega) (by omega) d4 ((p4.mono h1 (by omega)).trans p3x) B4 (.inr fun k k1 k2 => by rw [Nat.add_sub_cancel]; exact P4.hi k (by omega) k2)
                · rw [w1]
                  refine ih (b' - (mid + 1)) (by omega) (Nat.le_refl _) d3 (p3x.nd nd) (by omega) (by omega) hn (.inr fun k k1 k2 => by rw [Nat.add_sub_cancel]; exact P3.hi k (by omega) k2) fun g4 vs d4 p4 s4 => ⟨rfl, ?_⟩
                  obtain ⟨B4, P4⟩ := B3.right h1 h3 P3 m1 m2 (by omega) p4 s4
                  refine go6 g4 _ _ _ vs (by omega) m1 (by omega) (by omega) d4 ((p4.mono (by omega) h3).trans p3x) B4 ?_
                  have L4 := L3.perm (p4.mono (by omega) (Nat.le_refl _)) (by omega)
                  rcases L4 with e | e
                  · exact .inl e
                  · exact .inr fun k k1 k2 => e k k1 (by omega)
              by_cases ha0 : 0 < a'
              · rw [if_pos (decide_eq_true (by omega)), wS (x := (a' : Int) - 1) (k := a' - 1) (by omega) (by omega)]
                refine dz.cmp (K := fun q g2 => J5 (!q) g2) rfl (by omega) rfl (by omega) ?_
                have : V zs (a' - 1) < V zs x := by
                  rcases Lz with e | e
                  · omega
                  · exact e x x1 x2
                rw [decide_eq_true this]
                exact go5
              · rw [if_neg (by simp; omega)]
                exact go5
            split
            · refine partial_ok dz (pz.nd ndy) (Ly.perm pz (by omega)) (by omega) (by omega) hn fun g3 ws q d3 p3 s3 => ⟨_, rfl, ?_⟩
              cases q with
              | true => rw [if_pos rfl]; exact fin g3 ws d3 (p3.trans pz) (s3 rfl)
              | false => rw [if_neg (by simp)]; exact go4 g3 ws d3 (p3.trans pz)
            · exact go4 g zs dz pz
          split
          · split
            · exact go3 _
            · exact go3 _
          · exact go3 _
        clear hJ2
        split
        · refine rev_ok d2 (by omega) (by omega) (by omega) fun g3 ws d3 p3 => ⟨rfl, ?_⟩
          have e : IntKind.wrap .i64 (IntKind.wrap .i64 ((b' : Int) - 1) - IntKind.wrap .i64 ((x : Int) - (a' : Int))) = ((b' - 1 - (x - a') : Nat) : Int) := by
            rw [wS (x := (b' : Int) - 1) (k := b' - 1) (by omega) (by omega), wS (x := (x : Int) - (a' : Int)) (k := x - a') (by omega) (by omega), wS (k := b' - 1 - (x - a')) (by omega) (by omega)]
          rw [e]
          exact go2 _ _ g3 ws (by omega) (by omega) d3 (p3.trans pz)
        · exact go2 _ _ g2 zs x1 x2 d2 pz
      clear hJ1
      split
      · exact break_ok dy (by omega) (by omega) hn fun g2 zs d2 p2 => ⟨rfl, go1 _ g2 zs d2 p2⟩
      · exact go1 _ g ys dy .refl
theorem len_any {x : Int} (hk : ∀ n : Int, R (.int .i64 n) h) : CallsH Tryz.prog F.math_bits_Len #[.int .u64 x] h R := by
  refine math_bits_Len.walk (math_bits_Len64.walk (JoinP.of fun J hJ => ?_))
  have w8 : ∀ n : Int, 0 ≤ IntKind.wrap .u8 n ∧ IntKind.wrap .u8 n < 256 := fun n => by rw [IntKind.wrap_u8]; omega
  have k1 : ∀ y n, J y n h := by
    intro y n
    subst hJ
    refine JoinP.of fun J hJ => ?_
    have k2 : ∀ y n, J y n h := by
      intro y n
      subst hJ
      refine JoinP.of fun J hJ => ?_
      have k3 : ∀ y n, J y n h := by
        intro y n
        subst hJ
        exact ⟨w8 y, _, rfl, hk _⟩
      split
      · exact k3 _ _
      · exact k3 _ _
    split
    · exact k2 _ _
    · exact k2 _ _
  split
  · exact k1 _ _
  · exact k1 _ _
theorem sort_ok (o : Own h p n c 1 (xs.map iv)) (hl : n = xs.length) (nd : xs.Nodup) (hn : n ≤ 60000) (hk : ∀ h' (zs : List Int), Own h' p n c 1 (zs.map iv) → zs.Perm xs → zs.Pairwise (· < ·) → Fr (inBlk p) h h' → R (.tuple #[]) h') :
    CallsH Tryz.prog F.slices_Sort_s_int_int #[.slice p n c] h R := by
  refine slices_Sort_s_int_int.walk ?_
  unfold slices_Sort_s_int_int.vc
  have d : D h h p n c xs := ⟨o, hl, Fr.refl _ _⟩
  have go : ∀ L : Int, CallsH Tryz.prog F.slices_pdqsortOrdered_int #[.slice p n c, .int .i64 0, .int .i64 ((n : Nat) : Int), .int .i64 L] h fun v_1 h_2 => v_1 = .tuple #[] ∧ R (.tuple #[]) h_2 := fun L =>
    pdq_ok (a := 0) (b := n) n (by omega) d nd (Nat.zero_le _) (Nat.le_refl _) hn (.inl rfl) fun h' zs dz pz sz => ⟨rfl, hk h' zs dz.own pz.perm (SO.pair (by rw [← dz.len]; exact sz)) dz.fr⟩
  exact len_any fun L => ⟨_, rfl, go _⟩
end Srt
end Go.Proofs.YtgccegnmggjkjaaGreatDoor

/-
  What is proved here: what 'numbers' and 'of' of package copies do. No condition.
-/
set_option maxRecDepth 100000
namespace Go.Proofs.YtgccegnmggjkjaaGreatDoor
open Go.Den Go.Heapq
namespace Cps
open Eid Alarm
variable {h h' : Heap} {R : Value → Heap → Prop} {t : Nat} {X : Ft} {s s' : CF} {m a1 a2 : Nat} {xs : List CV} {S1 S2 S1' S2' : Nat → Prop} {lab : Nat → Option Nat} {p : Option Addr} {n c : Nat}

theorem uSI : Tryz.prog.underlying T.s_int = some (.slice T.int) := by kernel_rfl
theorem made_ok (H : Cm h t X s m xs a1 S1 a2 S2 lab) (hk : R (.bool true) h) : CallsH Tryz.prog F.copies_Table_made #[.pointer (some ⟨t, 0, none⟩)] h R := copies_Table_made.walk ⟨_, cell_at H.blk rfl, hk⟩
def nums (xs : List CV) : List Int := xs.map (fun x => (x.num : Int))
theorem nums_so (H : Cm h t X s m xs a1 S1 a2 S2 lab) : (nums xs).Pairwise (· < ·) := by
  have := H.so
  rw [List.pairwise_map] at this
  unfold nums
  rw [List.pairwise_map]
  exact this.imp (fun h => by omega)
theorem numbers_ok (H : Cm h t X s m xs a1 S1 a2 S2 lab) (hl : xs.length ≤ 60000) (hk : ∀ h' p' c', Own h' p' xs.length c' 1 ((nums xs).map ienc) → (∀ y, inBlk p' y → h.size ≤ y) → Fr (fun _ => False) h h' → R (.slice p' xs.length c') h') :
    CallsH Tryz.prog F.copies_Table_numbers #[.pointer (some ⟨t, 0, none⟩)] h R := by
  refine copies_Table_numbers.walk (made_ok H ⟨_, rfl, JoinP.of fun J hJ => ?_⟩)
  rw [if_pos rfl]
  refine ⟨_, cell_at H.blk rfl, den_rangeP mapTy H.map fun it h1 e1 I1 f1 => ⟨_, rfl, ?_⟩⟩
  refine ⟨fun op ol oc g => ∃ ds : List (Int × Value), ol = ds.length ∧ Own g op ol oc 1 ((ds.map (·.1)).map ienc) ∧ (∀ y, inBlk op y → h.size ≤ y ∧ y ≠ it) ∧ Iter g it m ienc (xs.map CV.pair) ds ∧ Fr (fun _ => False) h g, fun _ ol _ _ => xs.length - ol,
    ⟨[], rfl, .nil rfl rfl rfl rfl, (fun y ⟨a, e, _⟩ => by cases e), I1, f1⟩, ?_⟩
  rintro op ol oc g ⟨ds, rfl, oy, gy, Iy, fy⟩
  have hle := Iy.le
  rw [List.length_map] at hle
  refine den_nextP Iy (fun hp => .inl ⟨rfl, ?_⟩) (fun a v g1 hm hnm I1 s1 o1 => .inr ⟨_, _, rfl, ?_⟩)
  · subst hJ
    dsimp only
    have hperm : (ds.map (·.1)).Perm (nums xs) := by
      have := hp.map (·.1)
      rw [List.map_map] at this
      exact this
    have so := nums_so H
    have nd : (ds.map (·.1)).Nodup := hperm.nodup_iff.2 (so.imp (fun h => by omega))
    have hlen : ds.length = xs.length := by rw [hp.length_eq, List.length_map]
    refine Srt.sort_ok oy (by rw [List.length_map]) nd (by omega) fun h3 zs o3 p3 s3 f3 => ⟨rfl, ?_⟩
    have : zs = nums xs := List.Perm.eq_of_pairwise (le := (· < ·)) (fun a b _ _ h1 h2 => by omega) s3 so (p3.trans hperm)
    subst this
    rw [hlen] at o3 ⊢
    exact hk h3 op oc o3 (fun y hy => (gy y hy).1) (fy.fresh f3 (fun y hy => (gy y hy).1))
  · refine den_entryP I1 ⟨_, _, rfl, _, rfl, newP_of ?_⟩
    have f3 : Fr (fun _ => False) g1 (g1.push (.cells #[.int .i64 a] T.int)) := Fr.push _ _
    have r3 : Row (g1.push (.cells #[.int .i64 a] T.int)) (some ⟨g1.size, 0, none⟩) [ienc a] := row_new (cs := [ienc a])
    have z3 : (g1.push (.cells #[.int .i64 a] T.int)).size = g1.size + 1 := Array.size_push _
    generalize g1.push (.cells #[.int .i64 a] T.int) = g3 at f3 r3 z3 ⊢
    have fit : Fr (fun y => y = it) g g1 := ⟨by omega, fun y _ hn => o1 y hn⟩
    have oy1 := (oy.frame fit (fun y hy e => (gy y hy).2 e)).frame f3 (fun _ _ => id)
    have zf := f1.1
    have F1 : Fr (fun _ => False) h g1 := fy.fresh fit (fun y e => by omega)
    have F3 := F1.tt f3
    have itlt : it < g1.size := by
      obtain ⟨_, _, _, _, _, _, hr, _⟩ := I1
      exact lt_of_get hr
    refine den_append (cs := (ds.map (·.1)).map ienc) (ds := [ienc a]) tI uSI oy1 r3 rfl (fun v hv => by simp at hv; subst hv; rfl) (by omega) (by omega) fun p4 c4 g4 o4 _ f4 k4 => ⟨_, _, _, rfl, ?_⟩
    have hp4 : ∀ y, inBlk p4 y → h.size ≤ y ∧ y ≠ it := by
      intro y hy
      rcases k4 y hy with h5 | h5
      · exact gy y h5
      · have := F1.1; exact ⟨by omega, by omega⟩
    refine ⟨⟨ds ++ [(a, v)], by simp, ?_, hp4, ?_, F3.fresh f4 (fun y hy => (gy y hy).1)⟩, ?_⟩
    · rw [List.map_append, List.map_append]; exact o4
    · have hmb : m < h.size := H.map.lt
      exact (I1.frame f3 id id).frame f4 (fun hy => (gy it hy).2 rfl) (fun hy => by have := (gy m hy).1; omega)
    · have := I1.le
      rw [List.length_append, List.length_map, List.length_singleton] at this
      show xs.length - (ds.length + 1) < xs.length - ds.length
      omega
theorem look (H : Cm h t X s m xs a1 S1 a2 S2 lab) {x : CV} (hx : x ∈ xs) : LookV Tryz.prog T.m_int_p_copies_Copy (.map (some m)) (.int .i64 (x.num : Int)) false h (.pointer (some ⟨x.b, 0, none⟩)) := by
  have := lookV_P mapTy H.map (x.num : Int)
  have e : gget (xs.map CV.pair) (x.num : Int) = some (.pointer (some ⟨x.b, 0, none⟩)) := (gget_some H.map.nodup).2 (List.mem_map.2 ⟨x, hx, rfl⟩)
  rw [e] at this
  exact this
theorem look_no (H : Cm h t X s m xs a1 S1 a2 S2 lab) {n : Int} (hn : ∀ x ∈ xs, (x.num : Int) ≠ n) : LookV Tryz.prog T.m_int_p_copies_Copy (.map (some m)) (.int .i64 n) false h (.pointer none) := by
  have := lookV_P mapTy H.map n
  have e : gget (xs.map CV.pair) n = none := gget_none.2 (fun e he => by obtain ⟨x, hx, rfl⟩ := List.mem_map.1 he; exact hn x hx)
  rw [e] at this
  exact this
/-! ### those of an endpoint -/
/-- what a test of 'of' needs of the heap -/
structure Env (h : Heap) (t : Nat) (m : Nat) (xs : List CV) (c0 c1 : Nat) (x : Ev) : Prop where
  b0 : h[c0]? = some (.cells #[.pointer (some ⟨t, 0, none⟩)] T.p_copies_Table (0, 0))
  b1 : Ev.at h c1 x
  cm : ∃ X s a1 S1 a2 S2 lab, Cm h t X s m xs a1 S1 a2 S2 lab
variable {c0 c1 : Nat} {x : Ev}
theorem of1_ok (V : Env h t m xs c0 c1 x) {y : CV} (hy : y ∈ xs) (hk : R (.bool (!decide (y.e = x))) h) : CallsH Tryz.prog F.copies_Table_of_1 #[.int .i64 (y.num : Int), .pointer (some ⟨c0, 0, none⟩), .pointer (some ⟨c1, 0, none⟩)] h R := by
  obtain ⟨X, s, a1, S1, a2, S2, lab, H⟩ := V.cm
  have ca := H.cps y hy
  refine copies_Table_of_1.walk ⟨_, cell_at V.b0 rfl, onSome_some.2 ⟨_, cell_at H.blk rfl, _, look H hy, onSome_some.2 ⟨_, cell_at ca rfl, _, cell_at ca rfl, _, cell_at ca rfl, _, cell_at ca rfl, _, cell_at ca rfl, ?_⟩⟩⟩
  exact eid_Eid.ld V.b1 ⟨_, eqv' (x := y.e) (y := x) rfl rfl, hk⟩
def keepN (xs : List CV) (x : Ev) (n : Int) : Bool := xs.any (fun y => decide ((y.num : Int) = n) && decide (y.e = x))
theorem keepN_mem (so : (nums xs).Pairwise (· < ·)) {y : CV} (hy : y ∈ xs) : keepN xs x (y.num : Int) = decide (y.e = x) := by
  unfold keepN
  by_cases e : y.e = x
  · rw [decide_eq_true e, List.any_eq_true]; exact ⟨y, hy, by simp [e]⟩
  · rw [decide_eq_false e, List.any_eq_false]
    intro z hz
    simp only [Bool.and_eq_true, decide_eq_true_eq, not_and]
    intro hn
    have : z = y := by
      obtain ⟨i, hi⟩ := List.getElem?_of_mem hz
      obtain ⟨j, hj⟩ := List.getElem?_of_mem hy
      have hnd : (nums xs).Nodup := so.imp (fun h => by omega)
      have hil := (List.getElem?_eq_some_iff.1 hi).1
      have := (List.getElem?_inj (l := nums xs) (i := i) (j := j) (by simpa [nums] using hil) hnd).1 (by unfold nums; rw [List.getElem?_map, List.getElem?_map, hi, hj]; simp [hn])
      subst this
      rw [hi] at hj; exact Option.some.inj hj
    rw [this]; exact e
theorem idx_ok {ns : List Int} (V : Env h t m xs c0 c1 x) (o : Own h p n c 1 (ns.map ienc)) (hn : n = ns.length) (hb : n ≤ 60000) (hs : ∀ k ∈ ns, ∃ y ∈ xs, k = (y.num : Int))
    (k1 : ∀ i, i < n → (∀ j, j < i → ∀ k, ns[j]? = some k → keepN xs x k = true) → (∀ k, ns[i]? = some k → keepN xs x k = false) → R (.int .i64 (i : Int)) h) (k2 : (∀ k ∈ ns, keepN xs x k = true) → R (.int .i64 (-1)) h) :
    CallsH Tryz.prog F.slices_IndexFunc_s_int_int #[.slice p n c, .func (.func F.copies_Table_of_1) #[] #[.pointer (some ⟨c0, 0, none⟩), .pointer (some ⟨c1, 0, none⟩)]] h R := by
  subst hn
  have so : (nums xs).Pairwise (· < ·) := by obtain ⟨X, s, a1, S1, a2, S2, lab, H⟩ := V.cm; exact nums_so H
  refine slices_IndexFunc_s_int_int.of.walk ?_
  refine ⟨fun u g => g = h ∧ ∃ i : Nat, u = (i : Int) ∧ i ≤ ns.length ∧ ∀ j, j < i → ∀ k, ns[j]? = some k → keepN xs x k = true, fun u _ => ns.length - u.toNat, ⟨rfl, 0, rfl, Nat.zero_le _, fun j hj => by omega⟩, ?_⟩
  rintro _ g ⟨rfl, i, rfl, hi, hall⟩
  by_cases hlt : i < ns.length
  · rw [if_pos (decide_eq_true (by omega))]
    have hk : ns[i]? = some ns[i] := List.getElem?_eq_getElem hlt
    generalize ns[i] = k at hk
    obtain ⟨y, hy, rfl⟩ := hs k (List.mem_of_getElem? hk)
    obtain ⟨ab, ao, rfl⟩ := o.addr (by omega)
    have cc := o.cell (j := i) (v := ienc (y.num : Int)) (by rw [List.getElem?_map, hk]; rfl)
    simp only [Int.toNat_natCast, Nat.mul_one]
    refine ⟨⟨by omega, by omega⟩, onSome_some.2 ⟨_, cc, of1_ok V hy ⟨_, rfl, ?_⟩⟩⟩
    have kn := keepN_mem (x := x) so hy
    by_cases e : y.e = x
    · rw [decide_eq_true e, if_neg (by decide), wrap_id (by omega) (by omega)]
      rw [decide_eq_true e] at kn
      refine ⟨⟨rfl, i + 1, by omega, by omega, fun j hj k hk2 => ?_⟩, by show ns.length - Int.toNat ((i : Int) + 1) < ns.length - i; omega⟩
      by_cases ej : j = i
      · subst ej; rw [hk] at hk2; cases hk2; exact kn
      · exact hall j (by omega) k hk2
    · rw [decide_eq_false e, if_pos (by decide)]
      rw [decide_eq_false e] at kn
      exact k1 i hlt hall (fun k hk2 => by rw [hk] at hk2; cases hk2; exact kn)
  · rw [if_neg (by simp; omega)]
    exact k2 (fun k hk => by
      obtain ⟨j, hj⟩ := List.getElem?_of_mem hk
      exact hall j (by have := (List.getElem?_eq_some_iff.1 hj).1; omega) k hj)
theorem Env.frame {Q : Nat → Prop} (V : Env h t m xs c0 c1 x) (f : Fr Q h h') (h0 : ¬ Q c0) (h1 : ¬ Q c1) (hq : ∀ X s a1 S1 a2 S2 lab, Cm h t X s m xs a1 S1 a2 S2 lab → Cm h' t X s m xs a1 S1 a2 S2 lab) : Env h' t m xs c0 c1 x := by
  obtain ⟨X, s, a1, S1, a2, S2, lab, H⟩ := V.cm
  exact ⟨f.get V.b0 h0, f.get V.b1 h1, X, s, a1, S1, a2, S2, lab, hq _ _ _ _ _ _ _ H⟩
theorem del_ok {ns : List Int} (V : Env h t m xs c0 c1 x) (o : Own h p n c 1 (ns.map ienc)) (hn : n = ns.length) (hb : n ≤ 60000) (hs : ∀ k ∈ ns, ∃ y ∈ xs, k = (y.num : Int))
    (hV : ∀ g, Fr (inBlk p) h g → Env g t m xs c0 c1 x)
    (hk : ∀ h' c', Own h' p (ns.filter (keepN xs x)).length c' 1 ((ns.filter (keepN xs x)).map ienc) → Fr (inBlk p) h h' → R (.slice p (ns.filter (keepN xs x)).length c') h') :
    CallsH Tryz.prog F.slices_DeleteFunc_s_int_int #[.slice p n c, .func (.func F.copies_Table_of_1) #[] #[.pointer (some ⟨c0, 0, none⟩), .pointer (some ⟨c1, 0, none⟩)]] h R := by
  subst hn
  have so : (nums xs).Pairwise (· < ·) := by obtain ⟨X, s, a1, S1, a2, S2, lab, H⟩ := V.cm; exact nums_so H
  have one : ∀ v ∈ ((.int .i64 0 : Value)).cells.toList, oneCell v = true := fun v hv => by
    have : v = .int .i64 0 := by simpa [Value.cells] using hv
    subst this; rfl
  refine slices_DeleteFunc_s_int_int.of.walk (idx_ok V o rfl hb hs (fun i hi hall hno => ⟨_, rfl, ?_⟩) (fun hall => ⟨_, rfl, ?_⟩))
  · rw [if_neg (by intro h; have h := eq_of_beq h; omega), wrap_id (by omega) (by omega)]
    have take_all : (ns.take i).filter (keepN xs x) = ns.take i := by
      rw [List.filter_eq_self]
      intro k hk2
      obtain ⟨j, hj⟩ := List.getElem?_of_mem hk2
      rw [List.getElem?_take] at hj
      split at hj
      · rename_i hji; exact hall j hji k hj
      · cases hj
    have step0 : (ns.take (i + 1)).filter (keepN xs x) = ns.take i := by
      have hk : ns[i]? = some ns[i] := List.getElem?_eq_getElem hi
      rw [List.take_add_one, hk, List.filter_append, take_all]
      simp [hno _ hk]
    refine ⟨fun u w g => ∃ (i j : Nat) (vs : List Int), u = (i : Int) ∧ w = (j : Int) ∧ i ≤ j ∧ j ≤ ns.length ∧ vs.length = ns.length ∧ Own g p ns.length c 1 (vs.map ienc) ∧ vs.take i = (ns.take j).filter (keepN xs x) ∧ (∀ q, j ≤ q → vs[q]? = ns[q]?) ∧ Fr (inBlk p) h g, fun _ w _ => ns.length - w.toNat,
      ⟨i, i + 1, ns, rfl, by omega, by omega, by omega, rfl, o, step0.symm, fun _ _ => rfl, Fr.refl _ _⟩, ?_⟩
    clear take_all step0 hall hno
    rintro _ _ g ⟨i, j, vs, rfl, rfl, hij, hj, hl, ov, hta, hdr, fg⟩
    have hil : ((ns.take j).filter (keepN xs x)).length = i := by rw [← hta, List.length_take]; omega
    by_cases hlt : j < ns.length
    · rw [if_pos (decide_eq_true (by omega))]
      refine JoinP.of fun J hJ => ?_
      have hnj : ns[j]? = some ns[j] := List.getElem?_eq_getElem hlt
      generalize ns[j] = k at hnj
      obtain ⟨y, hy, rfl⟩ := hs k (List.mem_of_getElem? hnj)
      obtain ⟨ab, ao, rfl⟩ := ov.addr (by omega)
      have hkv : vs[j]? = some (y.num : Int) := by rw [hdr j (Nat.le_refl _)]; exact hnj
      have cc := ov.cell (j := j) (v := ienc (y.num : Int)) (by rw [List.getElem?_map, hkv]; rfl)
      simp only [Int.toNat_natCast, Nat.mul_one]
      have kn := keepN_mem (x := x) so hy
      have tk : (ns.take (j + 1)).filter (keepN xs x) = (ns.take j).filter (keepN xs x) ++ (if y.e = x then [(y.num : Int)] else []) := by
        rw [List.take_add_one, hnj, List.filter_append]
        congr 1
        show [(y.num : Int)].filter (keepN xs x) = _
        rw [List.filter_cons, kn]
        by_cases e : y.e = x <;> simp [e]
      refine ⟨⟨by omega, by omega⟩, onSome_some.2 ⟨_, cc, of1_ok (hV g fg) hy ⟨_, rfl, JoinP.of fun J1 hJ1 => ?_⟩⟩⟩
      by_cases e : y.e = x
      · rw [decide_eq_true e, if_pos (by decide)]
        rw [if_pos e] at tk
        refine ⟨⟨by omega, by omega⟩, onSome_some.2 (ov.store (by rw [List.length_map]; omega) fun g2 o2 s2 q2 => ?_)⟩
        subst hJ1
        subst hJ
        have e2 : (vs.map ienc).set i (.int .i64 (y.num : Int)) = (vs.set i (y.num : Int)).map ienc := by rw [List.map_set]
        rw [e2] at o2
        dsimp only
        rw [wrap_id (n := (i : Int) + 1) (by omega) (by omega), wrap_id (n := (j : Int) + 1) (by omega) (by omega)]
        refine ⟨⟨i + 1, j + 1, _, by omega, by omega, by omega, by omega, by rw [List.length_set]; exact hl, o2, ?_, fun q hq => ?_, fg.tt ⟨by omega, fun z _ hn => q2 z hn⟩⟩, by show ns.length - Int.toNat ((j : Int) + 1) < ns.length - j; omega⟩
        · rw [tk, ← hta, List.take_add_one, List.getElem?_set_self (by omega)]
          congr 1
          apply List.ext_getElem?
          intro q
          rw [List.getElem?_take, List.getElem?_take]
          split
          · rw [List.getElem?_set_ne (by omega)]
          · rfl
        · rw [List.getElem?_set_ne (by omega)]; exact hdr q (by omega)
      · rw [decide_eq_false e, if_neg (by decide)]
        rw [if_neg e, List.append_nil] at tk
        subst hJ1
        subst hJ
        dsimp only
        rw [wrap_id (n := (j : Int) + 1) (by omega) (by omega)]
        exact ⟨⟨i, j + 1, vs, rfl, by omega, by omega, by omega, hl, ov, by rw [tk, hta], fun q hq => hdr q (by omega), fg⟩, by show ns.length - Int.toNat ((j : Int) + 1) < ns.length - j; omega⟩
    · rw [if_neg (by simp; omega)]
      obtain rfl : j = ns.length := by omega
      rw [List.take_length] at hta hil
      simp only [Int.toNat_natCast, Nat.sub_zero]
      refine ⟨⟨by omega, by omega⟩, den_clear tI one ov (by omega) fun g2 o2 f2 => ⟨rfl, ⟨by omega, by have := ov.le; omega⟩, ?_⟩⟩
      rw [slBase_zero]
      rw [Nat.mul_one, ← List.map_take, hta] at o2
      have := hk g2 c (by rw [hil]; exact o2) (fg.tt f2)
      rw [hil] at this
      exact this
  · rw [if_pos (by rfl)]
    have e : ns.filter (keepN xs x) = ns := by rw [List.filter_eq_self]; exact hall
    have := hk h c (by rw [e]; exact o) (Fr.refl _ _)
    rw [e] at this
    exact this
theorem keep_nums (so : (nums xs).Pairwise (· < ·)) : (nums xs).filter (keepN xs x) = nums (xs.filter (fun y => decide (y.e = x))) := by
  unfold nums
  rw [List.filter_map]
  congr 1
  exact List.filter_congr (fun y hy => keepN_mem so hy)
theorem of_ok (H : Cm h t X s m xs a1 S1 a2 S2 lab) (x : Ev) (hl : xs.length ≤ 60000) (hk : ∀ h' p' c', Own h' p' (xs.filter (fun y => decide (y.e = x))).length c' 1 ((nums (xs.filter (fun y => decide (y.e = x)))).map ienc) → (∀ y, inBlk p' y → h.size ≤ y) → Fr (fun _ => False) h h' → R (.slice p' (xs.filter (fun y => decide (y.e = x))).length c') h') :
    CallsH Tryz.prog F.copies_Table_of #[.pointer (some ⟨t, 0, none⟩), ev5 x] h R := by
  refine copies_Table_of.walk (newP_of ?_)
  have f1 : Fr (fun _ => False) h (h.push (.cells #[.pointer (some ⟨t, 0, none⟩)] T.p_copies_Table)) := Fr.push _ _
  have b1 : (h.push (.cells #[.pointer (some ⟨t, 0, none⟩)] T.p_copies_Table))[h.size]? = some (.cells #[.pointer (some ⟨t, 0, none⟩)] T.p_copies_Table (0, 0)) := push_new
  have z1 : (h.push (.cells #[.pointer (some ⟨t, 0, none⟩)] T.p_copies_Table)).size = h.size + 1 := Array.size_push _
  generalize h.push (.cells #[.pointer (some ⟨t, 0, none⟩)] T.p_copies_Table) = h1 at f1 b1 z1 ⊢
  refine eid_Eid.box fun c1 h2 e2 hb2 f2 => ⟨_, cell_at (f2.get b1 id) rfl, ?_⟩
  have z2 := lt_of_get hb2
  refine numbers_ok (H.on (f1.tt f2)) hl fun h3 p3 l3 o3 g3 f3 => ⟨_, _, _, rfl, ?_⟩
  have F3 := f1.tt (f2.tt f3)
  have H3 := H.on F3
  have zf := f2.1
  have V3 : Env h3 t m xs h.size c1 x := ⟨(f2.tt f3).get b1 id, f3.get hb2 id, X, s, a1, S1, a2, S2, lab, H3⟩
  have hV : ∀ g, Fr (inBlk p3) h3 g → Env g t m xs h.size c1 x := fun g fg =>
    ⟨fg.get V3.b0 (fun hy => by have := g3 _ hy; omega), fg.get V3.b1 (fun hy => by have := g3 _ hy; omega), X, s, a1, S1, a2, S2, lab, H3.frame fg (fun y hy hin => by
      have h1 := g3 y hin
      have h2 : y < h.size := (Ct.lt (s := s) ⟨m, xs, a1, S1, a2, S2, lab, H⟩ y hy)
      omega)⟩
  have nl : (nums xs).length = xs.length := by unfold nums; rw [List.length_map]
  refine del_ok V3 o3 nl.symm hl (fun k hk2 => by
    obtain ⟨y, hy, rfl⟩ := List.mem_map.1 hk2
    exact ⟨y, hy, rfl⟩) hV fun h4 c4 o4 f4 => ⟨_, _, _, rfl, ?_⟩
  have en := keep_nums (x := x) (nums_so H)
  have el : ((nums xs).filter (keepN xs x)).length = (xs.filter (fun y => decide (y.e = x))).length := by rw [en]; unfold nums; rw [List.length_map]
  rw [el] at o4 ⊢
  rw [en] at o4
  exact hk h4 p3 c4 o4 (fun y hy => by have := g3 y hy; omega) (F3.fresh f4 (fun y hy => by have := g3 y hy; omega))
end Cps
end Go.Proofs.YtgccegnmggjkjaaGreatDoor

/-
  Printed by a program of this work (vc.py): the verification conditions of functions, and that each is enough for the call. No condition.
-/
set_option maxRecDepth 100000
set_option maxHeartbeats 4000000
namespace Go.Proofs.YtgccegnmggjkjaaGreatDoor
open Go.Den
def slices_Clone_s_byte_byte.vc (s_p : Option Addr) (s_l s_c : Nat) (h : Heap) (R : Value → Heap → Prop) : Prop :=
  if s_p.isNone = true then
    R (.slice none 0 0) h
  else
    NewP h (.cells #[] T.uint8) fun b h_1 =>
    denSem Tryz.prog (Builtin.append_ #[T.s_uint8, T.s_uint8] T.s_uint8 #[.slice (some ⟨b, 0, none⟩) 0 0, .slice s_p s_l s_c]) h_1 fun v h_2 =>
    ∃ (t7_p : Option Addr) (t7_l t7_c : Nat), v = .slice t7_p t7_l t7_c ∧
    R (.slice t7_p t7_l t7_c) h_2
theorem slices_Clone_s_byte_byte.den_eq (s_p : Option Addr) (s_l s_c : Nat) (h : Heap) (R : Value → Heap → Prop) : slices_Clone_s_byte_byte.vc s_p s_l s_c h R = den Tryz.prog Tryz.f71.ntmps (.seq .leaf (.seq (.seq .leaf (.cond (.seq .leaf .leaf) .leaf)) (.seq .leaf .leaf))) none (bodyOf Tryz.f71) (retK Tryz.prog Tryz.f71.results R) (argEnv [.slice s_p s_l s_c]) h := by kernel_rfl
theorem slices_Clone_s_byte_byte.walk {s_p : Option Addr} {s_l s_c : Nat} {h : Heap} {R : Value → Heap → Prop} (hv : slices_Clone_s_byte_byte.vc s_p s_l s_c h R) : CallsH Tryz.prog F.slices_Clone_s_byte_byte #[.slice s_p s_l s_c] h R :=
  callsH_of_body _ Tryz.func71 rfl rfl (Eq.mp (slices_Clone_s_byte_byte.den_eq s_p s_l s_c h R) hv)

def fields_New.vc  (h : Heap) (R : Value → Heap → Prop) : Prop :=
  NewP h (.cells #[.bool true, .slice none 0 0] T.fields_Writer) fun b h_1 =>
  R (.pointer (some ⟨b, 0, none⟩)) h_1
theorem fields_New.den_eq  (h : Heap) (R : Value → Heap → Prop) : fields_New.vc h R = den Tryz.prog Tryz.f74.ntmps (.seq .leaf (.seq .leaf .leaf)) none (bodyOf Tryz.f74) (retK Tryz.prog Tryz.f74.results R) (argEnv []) h := by kernel_rfl
theorem fields_New.walk  {h : Heap} {R : Value → Heap → Prop} (hv : fields_New.vc h R) : CallsH Tryz.prog F.fields_New #[] h R :=
  callsH_of_body _ Tryz.func74 rfl rfl (Eq.mp (fields_New.den_eq h R) hv)

def fields_Writer_Num.vc (w : Nat) (n : Int) (h : Heap) (R : Value → Heap → Prop) : Prop :=
  JoinP (fun (t13 : Bool) (h_1 : Heap) =>
    if t13 = true then
      R (.pointer (some ⟨w, 0, none⟩)) h_1
    else
      ∃ (I : Int → Heap → Prop) (mu : Int → Heap → Nat), I n h_1 ∧ ∀ (n_1 : Int) (h_2 : Heap), I n_1 h_2 →
        if (decide (n_1 > 127)) = true then
          ∃ (t21_p : Option Addr) (t21_l t21_c : Nat), hcell h_2 ⟨w, 1, none⟩ = some (.slice t21_p t21_l t21_c) ∧
          NewP h_2 (.cells #[.int .u8 (IntKind.wrap .u8 ((BitVec.ofInt (IntKind.bits .u8) (IntKind.wrap .u8 n_1) ||| BitVec.ofInt (IntKind.bits .u8) 128).toNat : Int))] T.uint8) fun b h_3 =>
          denSem Tryz.prog (Builtin.append_ #[T.s_uint8, T.s_uint8] T.s_uint8 #[.slice t21_p t21_l t21_c, .slice (some ⟨b, 0, none⟩) 1 1]) h_3 fun v h_4 =>
          ∃ (t26_p : Option Addr) (t26_l t26_c : Nat), v = .slice t26_p t26_l t26_c ∧
          StoreP h_4 ⟨w, 1, none⟩ (.slice t26_p t26_l t26_c) fun h_5 =>
          (I (Int.fdiv n_1 (2 ^ min (Int.toNat 7) (IntKind.bits .u64))) h_5 ∧ mu (Int.fdiv n_1 (2 ^ min (Int.toNat 7) (IntKind.bits .u64))) h_5 < mu n_1 h_2)
        else
          ∃ (t35_p : Option Addr) (t35_l t35_c : Nat), hcell h_2 ⟨w, 1, none⟩ = some (.slice t35_p t35_l t35_c) ∧
          NewP h_2 (.cells #[.int .u8 (IntKind.wrap .u8 n_1)] T.uint8) fun b_1 h_6 =>
          denSem Tryz.prog (Builtin.append_ #[T.s_uint8, T.s_uint8] T.s_uint8 #[.slice t35_p t35_l t35_c, .slice (some ⟨b_1, 0, none⟩) 1 1]) h_6 fun v_1 h_7 =>
          ∃ (t39_p : Option Addr) (t39_l t39_c : Nat), v_1 = .slice t39_p t39_l t39_c ∧
          StoreP h_7 ⟨w, 1, none⟩ (.slice t39_p t39_l t39_c) fun h_8 =>
          R (.pointer (some ⟨w, 0, none⟩)) h_8)
  (fun J =>
    ∃ (t11 : Bool), hcell h ⟨w, 0, none⟩ = some (.bool t11) ∧
    J (!t11) h)
theorem fields_Writer_Num.den_eq (w : Nat) (n : Int) (h : Heap) (R : Value → Heap → Prop) : fields_Writer_Num.vc w n h R = den Tryz.prog Tryz.f134.ntmps (.seq .leaf (.seq (.seq (.join [(13, .one (.bool))] .leaf) (.cond (.seq .leaf .leaf) .leaf)) (.seq (.block (.loop [(1, .one (.int .u64))] (.seq (.seq .leaf (.cond .leaf .leaf)) (.block (.seq .leaf .leaf))))) (.seq .leaf (.seq .leaf .leaf))))) none (bodyOf Tryz.f134) (retK Tryz.prog Tryz.f134.results R) (argEnv [.pointer (some ⟨w, 0, none⟩), .int .u64 n]) h := by kernel_rfl
theorem fields_Writer_Num.walk {w : Nat} {n : Int} {h : Heap} {R : Value → Heap → Prop} (hv : fields_Writer_Num.vc w n h R) : CallsH Tryz.prog F.fields_Writer_Num #[.pointer (some ⟨w, 0, none⟩), .int .u64 n] h R :=
  callsH_of_body _ Tryz.func134 rfl rfl (Eq.mp (fields_Writer_Num.den_eq w n h R) hv)

def fields_Writer_Num.nil.vc (n : Int) (h : Heap) (R : Value → Heap → Prop) : Prop :=
  JoinP (fun (t13 : Bool) (h_1 : Heap) =>
    if t13 = true then
      R (.pointer none) h_1
    else
      ∃ (I : Int → Heap → Prop) (mu : Int → Heap → Nat), I n h_1 ∧ ∀ (n_1 : Int) (h_2 : Heap), I n_1 h_2 →
        if (decide (n_1 > 127)) = true then
          False
        else
          False)
  (fun J =>
    J true h)
theorem fields_Writer_Num.nil.den_eq (n : Int) (h : Heap) (R : Value → Heap → Prop) : fields_Writer_Num.nil.vc n h R = den Tryz.prog Tryz.f134.ntmps (.seq .leaf (.seq (.seq (.join [(13, .one (.bool))] .leaf) (.cond (.seq .leaf .leaf) .leaf)) (.seq (.block (.loop [(1, .one (.int .u64))] (.seq (.seq .leaf (.cond .leaf .leaf)) (.block (.seq .leaf .leaf))))) (.seq .leaf (.seq .leaf .leaf))))) none (bodyOf Tryz.f134) (retK Tryz.prog Tryz.f134.results R) (argEnv [.pointer none, .int .u64 n]) h := by kernel_rfl
theorem fields_Writer_Num.nil.walk {n : Int} {h : Heap} {R : Value → Heap → Prop} (hv : fields_Writer_Num.nil.vc n h R) : CallsH Tryz.prog F.fields_Writer_Num #[.pointer none, .int .u64 n] h R :=
  callsH_of_body _ Tryz.func134 rfl rfl (Eq.mp (fields_Writer_Num.nil.den_eq n h R) hv)

def fields_Writer_Int.vc (w : Nat) (n : Int) (h : Heap) (R : Value → Heap → Prop) : Prop :=
  CallsH Tryz.prog F.fields_Writer_Num #[.pointer (some ⟨w, 0, none⟩), .int .u64 (IntKind.wrap .u64 (if 0 > n then 0 else n))] h fun v h_1 =>
  ∃ (t9 : Option Addr), v = .pointer t9 ∧
  R (.pointer t9) h_1
theorem fields_Writer_Int.den_eq (w : Nat) (n : Int) (h : Heap) (R : Value → Heap → Prop) : fields_Writer_Int.vc w n h R = den Tryz.prog Tryz.f75.ntmps (.seq .leaf (.seq .leaf .leaf)) none (bodyOf Tryz.f75) (retK Tryz.prog Tryz.f75.results R) (argEnv [.pointer (some ⟨w, 0, none⟩), .int .i64 n]) h := by kernel_rfl
theorem fields_Writer_Int.walk {w : Nat} {n : Int} {h : Heap} {R : Value → Heap → Prop} (hv : fields_Writer_Int.vc w n h R) : CallsH Tryz.prog F.fields_Writer_Int #[.pointer (some ⟨w, 0, none⟩), .int .i64 n] h R :=
  callsH_of_body _ Tryz.func75 rfl rfl (Eq.mp (fields_Writer_Int.den_eq w n h R) hv)

def fields_Writer_Int.nil.vc (n : Int) (h : Heap) (R : Value → Heap → Prop) : Prop :=
  CallsH Tryz.prog F.fields_Writer_Num #[.pointer none, .int .u64 (IntKind.wrap .u64 (if 0 > n then 0 else n))] h fun v h_1 =>
  ∃ (t9 : Option Addr), v = .pointer t9 ∧
  R (.pointer t9) h_1
theorem fields_Writer_Int.nil.den_eq (n : Int) (h : Heap) (R : Value → Heap → Prop) : fields_Writer_Int.nil.vc n h R = den Tryz.prog Tryz.f75.ntmps (.seq .leaf (.seq .leaf .leaf)) none (bodyOf Tryz.f75) (retK Tryz.prog Tryz.f75.results R) (argEnv [.pointer none, .int .i64 n]) h := by kernel_rfl
theorem fields_Writer_Int.nil.walk {n : Int} {h : Heap} {R : Value → Heap → Prop} (hv : fields_Writer_Int.nil.vc n h R) : CallsH Tryz.prog F.fields_Writer_Int #[.pointer none, .int .i64 n] h R :=
  callsH_of_body _ Tryz.func75 rfl rfl (Eq.mp (fields_Writer_Int.nil.den_eq n h R) hv)

def fields_Writer_Bool.vc (w : Nat) (is : Bool) (h : Heap) (R : Value → Heap → Prop) : Prop :=
  if is = true then
    CallsH Tryz.prog F.fields_Writer_Num #[.pointer (some ⟨w, 0, none⟩), .int .u64 1] h fun v h_1 =>
    ∃ (t7 : Option Addr), v = .pointer t7 ∧
    R (.pointer t7) h_1
  else
    CallsH Tryz.prog F.fields_Writer_Num #[.pointer (some ⟨w, 0, none⟩), .int .u64 0] h fun v_1 h_2 =>
    ∃ (t9 : Option Addr), v_1 = .pointer t9 ∧
    R (.pointer t9) h_2
theorem fields_Writer_Bool.den_eq (w : Nat) (is : Bool) (h : Heap) (R : Value → Heap → Prop) : fields_Writer_Bool.vc w is h R = den Tryz.prog Tryz.f179.ntmps (.seq .leaf (.seq (.seq .leaf (.cond (.seq .leaf .leaf) .leaf)) (.seq .leaf .leaf))) none (bodyOf Tryz.f179) (retK Tryz.prog Tryz.f179.results R) (argEnv [.pointer (some ⟨w, 0, none⟩), .bool is]) h := by kernel_rfl
theorem fields_Writer_Bool.walk {w : Nat} {is : Bool} {h : Heap} {R : Value → Heap → Prop} (hv : fields_Writer_Bool.vc w is h R) : CallsH Tryz.prog F.fields_Writer_Bool #[.pointer (some ⟨w, 0, none⟩), .bool is] h R :=
  callsH_of_body _ Tryz.func179 rfl rfl (Eq.mp (fields_Writer_Bool.den_eq w is h R) hv)

def fields_Writer_Bool.nil.vc (is : Bool) (h : Heap) (R : Value → Heap → Prop) : Prop :=
  if is = true then
    CallsH Tryz.prog F.fields_Writer_Num #[.pointer none, .int .u64 1] h fun v h_1 =>
    ∃ (t7 : Option Addr), v = .pointer t7 ∧
    R (.pointer t7) h_1
  else
    CallsH Tryz.prog F.fields_Writer_Num #[.pointer none, .int .u64 0] h fun v_1 h_2 =>
    ∃ (t9 : Option Addr), v_1 = .pointer t9 ∧
    R (.pointer t9) h_2
theorem fields_Writer_Bool.nil.den_eq (is : Bool) (h : Heap) (R : Value → Heap → Prop) : fields_Writer_Bool.nil.vc is h R = den Tryz.prog Tryz.f179.ntmps (.seq .leaf (.seq (.seq .leaf (.cond (.seq .leaf .leaf) .leaf)) (.seq .leaf .leaf))) none (bodyOf Tryz.f179) (retK Tryz.prog Tryz.f179.results R) (argEnv [.pointer none, .bool is]) h := by kernel_rfl
theorem fields_Writer_Bool.nil.walk {is : Bool} {h : Heap} {R : Value → Heap → Prop} (hv : fields_Writer_Bool.nil.vc is h R) : CallsH Tryz.prog F.fields_Writer_Bool #[.pointer none, .bool is] h R :=
  callsH_of_body _ Tryz.func179 rfl rfl (Eq.mp (fields_Writer_Bool.nil.den_eq is h R) hv)

def fields_Writer_Text.vc (w : Nat) (b_p : Option Addr) (b_l b_c : Nat) (h : Heap) (R : Value → Heap → Prop) : Prop :=
  CallsH Tryz.prog F.fields_Writer_Num #[.pointer (some ⟨w, 0, none⟩), .int .u64 (IntKind.wrap .u64 ((b_l : Nat) : Int))] h fun v h_1 =>
  ∃ (t9 : Option Addr), v = .pointer t9 ∧
  JoinP (fun (t17 : Bool) (h_2 : Heap) =>
    JoinP (fun (h_3 : Heap) =>
      R (.pointer (some ⟨w, 0, none⟩)) h_3)
    (fun J_1 =>
      if t17 = true then
        ∃ (t22_p : Option Addr) (t22_l t22_c : Nat), hcell h_2 ⟨w, 1, none⟩ = some (.slice t22_p t22_l t22_c) ∧
        denSem Tryz.prog (Builtin.append_ #[T.s_uint8, T.s_uint8] T.s_uint8 #[.slice t22_p t22_l t22_c, .slice b_p b_l b_c]) h_2 fun v_1 h_4 =>
        ∃ (t24_p : Option Addr) (t24_l t24_c : Nat), v_1 = .slice t24_p t24_l t24_c ∧
        StoreP h_4 ⟨w, 1, none⟩ (.slice t24_p t24_l t24_c) fun h_5 =>
        J_1 h_5
      else
        J_1 h_2))
  (fun J =>
    ∃ (t16 : Bool), hcell h_1 ⟨w, 0, none⟩ = some (.bool t16) ∧
    J t16 h_1)
theorem fields_Writer_Text.den_eq (w : Nat) (b_p : Option Addr) (b_l b_c : Nat) (h : Heap) (R : Value → Heap → Prop) : fields_Writer_Text.vc w b_p b_l b_c h R = den Tryz.prog Tryz.f133.ntmps (.seq .leaf (.seq .leaf (.seq (.seq (.join [(17, .one (.bool))] .leaf) (.join [] (.cond .leaf .leaf))) (.seq .leaf .leaf)))) none (bodyOf Tryz.f133) (retK Tryz.prog Tryz.f133.results R) (argEnv [.pointer (some ⟨w, 0, none⟩), .slice b_p b_l b_c]) h := by kernel_rfl
theorem fields_Writer_Text.walk {w : Nat} {b_p : Option Addr} {b_l b_c : Nat} {h : Heap} {R : Value → Heap → Prop} (hv : fields_Writer_Text.vc w b_p b_l b_c h R) : CallsH Tryz.prog F.fields_Writer_Text #[.pointer (some ⟨w, 0, none⟩), .slice b_p b_l b_c] h R :=
  callsH_of_body _ Tryz.func133 rfl rfl (Eq.mp (fields_Writer_Text.den_eq w b_p b_l b_c h R) hv)

def fields_Writer_Text.nil.vc (b_p : Option Addr) (b_l b_c : Nat) (h : Heap) (R : Value → Heap → Prop) : Prop :=
  CallsH Tryz.prog F.fields_Writer_Num #[.pointer none, .int .u64 (IntKind.wrap .u64 ((b_l : Nat) : Int))] h fun v h_1 =>
  ∃ (t9 : Option Addr), v = .pointer t9 ∧
  JoinP (fun (t17 : Bool) (h_2 : Heap) =>
    JoinP (fun (h_3 : Heap) =>
      R (.pointer none) h_3)
    (fun J_1 =>
      if t17 = true then
        False
      else
        J_1 h_2))
  (fun J =>
    J false h_1)
theorem fields_Writer_Text.nil.den_eq (b_p : Option Addr) (b_l b_c : Nat) (h : Heap) (R : Value → Heap → Prop) : fields_Writer_Text.nil.vc b_p b_l b_c h R = den Tryz.prog Tryz.f133.ntmps (.seq .leaf (.seq .leaf (.seq (.seq (.join [(17, .one (.bool))] .leaf) (.join [] (.cond .leaf .leaf))) (.seq .leaf .leaf)))) none (bodyOf Tryz.f133) (retK Tryz.prog Tryz.f133.results R) (argEnv [.pointer none, .slice b_p b_l b_c]) h := by kernel_rfl
theorem fields_Writer_Text.nil.walk {b_p : Option Addr} {b_l b_c : Nat} {h : Heap} {R : Value → Heap → Prop} (hv : fields_Writer_Text.nil.vc b_p b_l b_c h R) : CallsH Tryz.prog F.fields_Writer_Text #[.pointer none, .slice b_p b_l b_c] h R :=
  callsH_of_body _ Tryz.func133 rfl rfl (Eq.mp (fields_Writer_Text.nil.den_eq b_p b_l b_c h R) hv)

def fields_Writer_Bytes.vc (w : Nat) (h : Heap) (R : Value → Heap → Prop) : Prop :=
  ∃ (t8_p : Option Addr) (t8_l t8_c : Nat), hcell h ⟨w, 1, none⟩ = some (.slice t8_p t8_l t8_c) ∧
  CallsH Tryz.prog F.slices_Clone_s_byte_byte #[.slice t8_p t8_l t8_c] h fun v h_1 =>
  ∃ (t9_p : Option Addr) (t9_l t9_c : Nat), v = .slice t9_p t9_l t9_c ∧
  R (.slice t9_p t9_l t9_c) h_1
theorem fields_Writer_Bytes.den_eq (w : Nat) (h : Heap) (R : Value → Heap → Prop) : fields_Writer_Bytes.vc w h R = den Tryz.prog Tryz.f76.ntmps (.seq .leaf (.seq (.seq .leaf (.cond (.seq .leaf .leaf) .leaf)) (.seq .leaf .leaf))) none (bodyOf Tryz.f76) (retK Tryz.prog Tryz.f76.results R) (argEnv [.pointer (some ⟨w, 0, none⟩)]) h := by kernel_rfl
theorem fields_Writer_Bytes.walk {w : Nat} {h : Heap} {R : Value → Heap → Prop} (hv : fields_Writer_Bytes.vc w h R) : CallsH Tryz.prog F.fields_Writer_Bytes #[.pointer (some ⟨w, 0, none⟩)] h R :=
  callsH_of_body _ Tryz.func76 rfl rfl (Eq.mp (fields_Writer_Bytes.den_eq w h R) hv)

def fields_Writer_Bytes.nil.vc  (h : Heap) (R : Value → Heap → Prop) : Prop :=
  R (.slice none 0 0) h
theorem fields_Writer_Bytes.nil.den_eq  (h : Heap) (R : Value → Heap → Prop) : fields_Writer_Bytes.nil.vc h R = den Tryz.prog Tryz.f76.ntmps (.seq .leaf (.seq (.seq .leaf (.cond (.seq .leaf .leaf) .leaf)) (.seq .leaf .leaf))) none (bodyOf Tryz.f76) (retK Tryz.prog Tryz.f76.results R) (argEnv [.pointer none]) h := by kernel_rfl
theorem fields_Writer_Bytes.nil.walk  {h : Heap} {R : Value → Heap → Prop} (hv : fields_Writer_Bytes.nil.vc h R) : CallsH Tryz.prog F.fields_Writer_Bytes #[.pointer none] h R :=
  callsH_of_body _ Tryz.func76 rfl rfl (Eq.mp (fields_Writer_Bytes.nil.den_eq h R) hv)

def fields_fault_fail.vc (f : Nat) (e : Int) (h : Heap) (R : Value → Heap → Prop) : Prop :=
  ∃ (t7 : Int), hcell h ⟨f, 0, none⟩ = some (.int .i64 t7) ∧
  if (t7 == 0) = true then
    StoreP h ⟨f, 0, none⟩ (.int .i64 e) fun h_1 =>
    R (.tuple #[]) h_1
  else
    R (.tuple #[]) h
theorem fields_fault_fail.den_eq (f : Nat) (e : Int) (h : Heap) (R : Value → Heap → Prop) : fields_fault_fail.vc f e h R = den Tryz.prog Tryz.f160.ntmps (.seq .leaf (.cond .leaf .leaf)) none (bodyOf Tryz.f160) (retK Tryz.prog Tryz.f160.results R) (argEnv [.pointer (some ⟨f, 0, none⟩), .int .i64 e]) h := by kernel_rfl
theorem fields_fault_fail.walk {f : Nat} {e : Int} {h : Heap} {R : Value → Heap → Prop} (hv : fields_fault_fail.vc f e h R) : CallsH Tryz.prog F.fields_fault_fail #[.pointer (some ⟨f, 0, none⟩), .int .i64 e] h R :=
  callsH_of_body _ Tryz.func160 rfl rfl (Eq.mp (fields_fault_fail.den_eq f e h R) hv)

def fields_Read.vc (b_p : Option Addr) (b_l b_c : Nat) (h : Heap) (R : Value → Heap → Prop) : Prop :=
  CallsH Tryz.prog F.slices_Clone_s_byte_byte #[.slice b_p b_l b_c] h fun v h_1 =>
  ∃ (t4_p : Option Addr) (t4_l t4_c : Nat), v = .slice t4_p t4_l t4_c ∧
  NewP h_1 (.cells #[.int .i64 0, .bool true, .slice t4_p t4_l t4_c] T.fields_Reader) fun b h_2 =>
  R (.pointer (some ⟨b, 0, none⟩)) h_2
theorem fields_Read.den_eq (b_p : Option Addr) (b_l b_c : Nat) (h : Heap) (R : Value → Heap → Prop) : fields_Read.vc b_p b_l b_c h R = den Tryz.prog Tryz.f95.ntmps (.seq .leaf (.seq .leaf .leaf)) none (bodyOf Tryz.f95) (retK Tryz.prog Tryz.f95.results R) (argEnv [.slice b_p b_l b_c]) h := by kernel_rfl
theorem fields_Read.walk {b_p : Option Addr} {b_l b_c : Nat} {h : Heap} {R : Value → Heap → Prop} (hv : fields_Read.vc b_p b_l b_c h R) : CallsH Tryz.prog F.fields_Read #[.slice b_p b_l b_c] h R :=
  callsH_of_body _ Tryz.func95 rfl rfl (Eq.mp (fields_Read.den_eq b_p b_l b_c h R) hv)

def fields_Reader_fine.vc (r : Nat) (h : Heap) (R : Value → Heap → Prop) : Prop :=
  ∃ (t9 : Bool), hcell h ⟨r, 1, none⟩ = some (.bool t9) ∧
  if t9 = true then
    ∃ (t16 : Int), hcell h ⟨r, 0, none⟩ = some (.int .i64 t16) ∧
    R (.bool (t16 == 0)) h
  else
    R (.bool false) h
theorem fields_Reader_fine.den_eq (r : Nat) (h : Heap) (R : Value → Heap → Prop) : fields_Reader_fine.vc r h R = den Tryz.prog Tryz.f159.ntmps (.seq .leaf (.seq .leaf .leaf)) none (bodyOf Tryz.f159) (retK Tryz.prog Tryz.f159.results R) (argEnv [.pointer (some ⟨r, 0, none⟩)]) h := by kernel_rfl
theorem fields_Reader_fine.walk {r : Nat} {h : Heap} {R : Value → Heap → Prop} (hv : fields_Reader_fine.vc r h R) : CallsH Tryz.prog F.fields_Reader_fine #[.pointer (some ⟨r, 0, none⟩)] h R :=
  callsH_of_body _ Tryz.func159 rfl rfl (Eq.mp (fields_Reader_fine.den_eq r h R) hv)

def fields_Reader_fine.nil.vc  (h : Heap) (R : Value → Heap → Prop) : Prop :=
  R (.bool false) h
theorem fields_Reader_fine.nil.den_eq  (h : Heap) (R : Value → Heap → Prop) : fields_Reader_fine.nil.vc h R = den Tryz.prog Tryz.f159.ntmps (.seq .leaf (.seq .leaf .leaf)) none (bodyOf Tryz.f159) (retK Tryz.prog Tryz.f159.results R) (argEnv [.pointer none]) h := by kernel_rfl
theorem fields_Reader_fine.nil.walk  {h : Heap} {R : Value → Heap → Prop} (hv : fields_Reader_fine.nil.vc h R) : CallsH Tryz.prog F.fields_Reader_fine #[.pointer none] h R :=
  callsH_of_body _ Tryz.func159 rfl rfl (Eq.mp (fields_Reader_fine.nil.den_eq h R) hv)

def fields_Reader_Num.vc (r : Nat) (h : Heap) (R : Value → Heap → Prop) : Prop :=
  JoinP (fun (h_1 : Heap) =>
    R (.int .u64 0) h_1)
  (fun J =>
    ∃ (I : Int → Int → Heap → Prop) (mu : Int → Int → Heap → Nat), I 0 0 h ∧ ∀ (n : Int) (i : Int) (h_2 : Heap), I n i h_2 →
      CallsH Tryz.prog F.fields_Reader_fine #[.pointer (some ⟨r, 0, none⟩)] h_2 fun v h_3 =>
      ∃ (t7 : Bool), v = .bool t7 ∧
      if t7 = true then
        ∃ (t13_p : Option Addr) (t13_l t13_c : Nat), hcell h_3 ⟨r, 2, none⟩ = some (.slice t13_p t13_l t13_c) ∧
        if (((t13_l : Nat) : Int) == 0) = true then
          CallsH Tryz.prog F.fields_fault_fail #[.pointer (some ⟨r, 0, none⟩), .int .i64 8] h_3 fun v_1 h_4 =>
          v_1 = .tuple #[] ∧
          J h_4
        else
          ∃ (t23_p : Option Addr) (t23_l t23_c : Nat), hcell h_3 ⟨r, 2, none⟩ = some (.slice t23_p t23_l t23_c) ∧
          ((0 : Int) ≤ 0 ∧ 0 < ((t23_l : Nat) : Int)) ∧
          onSome t23_p fun a =>
          ∃ (t25 : Int), hcell h_3 (a.add (Int.toNat 0 * 1)) = some (.int .u8 t25) ∧
          ∃ (t30_p : Option Addr) (t30_l t30_c : Nat), hcell h_3 ⟨r, 2, none⟩ = some (.slice t30_p t30_l t30_c) ∧
          ((0 : Int) ≤ 1 ∧ 1 ≤ ((t30_l : Nat) : Int)) ∧ 
          StoreP h_3 ⟨r, 2, none⟩ (.slice (slBase t30_p t30_c (Int.toNat 1) 1) (t30_l - (Int.toNat 1)) (t30_c - (Int.toNat 1))) fun h_5 =>
          JoinP (fun (t52 : Bool) (h_6 : Heap) =>
            if t52 = true then
              CallsH Tryz.prog F.fields_fault_fail #[.pointer (some ⟨r, 0, none⟩), .int .i64 3] h_6 fun v_2 h_7 =>
              v_2 = .tuple #[] ∧
              J h_7
            else
              if IntKind.wrap .i64 (7 * i) < 0 then False else
              if ((IntKind.wrap .u8 ((BitVec.ofInt (IntKind.bits .u8) t25 &&& BitVec.ofInt (IntKind.bits .u8) 128).toNat : Int)) == 0) = true then
                R (.int .u64 (IntKind.wrap .u64 ((BitVec.ofInt (IntKind.bits .u64) n ||| BitVec.ofInt (IntKind.bits .u64) (IntKind.wrap .u64 ((IntKind.wrap .u64 (IntKind.wrap .u8 ((BitVec.ofInt (IntKind.bits .u8) t25 &&& BitVec.ofInt (IntKind.bits .u8) 127).toNat : Int))) * 2 ^ min (Int.toNat (IntKind.wrap .i64 (7 * i))) (IntKind.bits .u64)))).toNat : Int))) h_6
              else
                (I (IntKind.wrap .u64 ((BitVec.ofInt (IntKind.bits .u64) n ||| BitVec.ofInt (IntKind.bits .u64) (IntKind.wrap .u64 ((IntKind.wrap .u64 (IntKind.wrap .u8 ((BitVec.ofInt (IntKind.bits .u8) t25 &&& BitVec.ofInt (IntKind.bits .u8) 127).toNat : Int))) * 2 ^ min (Int.toNat (IntKind.wrap .i64 (7 * i))) (IntKind.bits .u64)))).toNat : Int)) (IntKind.wrap .i64 (i + 1)) h_6 ∧ mu (IntKind.wrap .u64 ((BitVec.ofInt (IntKind.bits .u64) n ||| BitVec.ofInt (IntKind.bits .u64) (IntKind.wrap .u64 ((IntKind.wrap .u64 (IntKind.wrap .u8 ((BitVec.ofInt (IntKind.bits .u8) t25 &&& BitVec.ofInt (IntKind.bits .u8) 127).toNat : Int))) * 2 ^ min (Int.toNat (IntKind.wrap .i64 (7 * i))) (IntKind.bits .u64)))).toNat : Int)) (IntKind.wrap .i64 (i + 1)) h_6 < mu n i h_2))
          (fun J_1 =>
            if (i == 10) = true then
              J_1 true h_5
            else
              if ((IntKind.wrap .i64 (i * 7)) == 63) = true then
                if (decide (t25 > 1)) = true then
                  J_1 true h_5
                else
                  if (t25 == 0) = true then
                    J_1 (decide (i > 0)) h_5
                  else
                    J_1 false h_5
              else
                if (t25 == 0) = true then
                  J_1 (decide (i > 0)) h_5
                else
                  J_1 false h_5)
      else
        J h_3)
theorem fields_Reader_Num.den_eq (r : Nat) (h : Heap) (R : Value → Heap → Prop) : fields_Reader_Num.vc r h R = den Tryz.prog Tryz.f138.ntmps (.seq .leaf (.seq .leaf (.seq (.seq .leaf (.join [] (.block (.loop [(3, .one (.int .u64)), (4, .one (.int .i64))] (.seq (.seq .leaf (.cond .leaf .leaf)) (.seq (.block (.seq (.seq .leaf (.cond (.seq .leaf .leaf) .leaf)) (.seq .leaf (.seq .leaf (.seq (.seq (.join [(52, .one (.bool))] .leaf) (.cond (.seq .leaf .leaf) .leaf)) (.seq .leaf (.seq .leaf (.cond (.seq .leaf .leaf) .leaf)))))))) .leaf)))))) (.seq .leaf .leaf)))) none (bodyOf Tryz.f138) (retK Tryz.prog Tryz.f138.results R) (argEnv [.pointer (some ⟨r, 0, none⟩)]) h := by kernel_rfl
theorem fields_Reader_Num.walk {r : Nat} {h : Heap} {R : Value → Heap → Prop} (hv : fields_Reader_Num.vc r h R) : CallsH Tryz.prog F.fields_Reader_Num #[.pointer (some ⟨r, 0, none⟩)] h R :=
  callsH_of_body _ Tryz.func138 rfl rfl (Eq.mp (fields_Reader_Num.den_eq r h R) hv)

def fields_Reader_Num.nil.vc  (h : Heap) (R : Value → Heap → Prop) : Prop :=
  JoinP (fun (h_1 : Heap) =>
    R (.int .u64 0) h_1)
  (fun J =>
    ∃ (I : Int → Int → Heap → Prop) (mu : Int → Int → Heap → Nat), I 0 0 h ∧ ∀ (n : Int) (i : Int) (h_2 : Heap), I n i h_2 →
      CallsH Tryz.prog F.fields_Reader_fine #[.pointer none] h_2 fun v h_3 =>
      ∃ (t7 : Bool), v = .bool t7 ∧
      if t7 = true then
        False
      else
        J h_3)
theorem fields_Reader_Num.nil.den_eq  (h : Heap) (R : Value → Heap → Prop) : fields_Reader_Num.nil.vc h R = den Tryz.prog Tryz.f138.ntmps (.seq .leaf (.seq .leaf (.seq (.seq .leaf (.join [] (.block (.loop [(3, .one (.int .u64)), (4, .one (.int .i64))] (.seq (.seq .leaf (.cond .leaf .leaf)) (.seq (.block (.seq (.seq .leaf (.cond (.seq .leaf .leaf) .leaf)) (.seq .leaf (.seq .leaf (.seq (.seq (.join [(52, .one (.bool))] .leaf) (.cond (.seq .leaf .leaf) .leaf)) (.seq .leaf (.seq .leaf (.cond (.seq .leaf .leaf) .leaf)))))))) .leaf)))))) (.seq .leaf .leaf)))) none (bodyOf Tryz.f138) (retK Tryz.prog Tryz.f138.results R) (argEnv [.pointer none]) h := by kernel_rfl
theorem fields_Reader_Num.nil.walk  {h : Heap} {R : Value → Heap → Prop} (hv : fields_Reader_Num.nil.vc h R) : CallsH Tryz.prog F.fields_Reader_Num #[.pointer none] h R :=
  callsH_of_body _ Tryz.func138 rfl rfl (Eq.mp (fields_Reader_Num.nil.den_eq h R) hv)

def fields_Reader_atMost.vc (r : Nat) (top : Int) (h : Heap) (R : Value → Heap → Prop) : Prop :=
  CallsH Tryz.prog F.fields_Reader_Num #[.pointer (some ⟨r, 0, none⟩)] h fun v h_1 =>
  ∃ (t7 : Int), v = .int .u64 t7 ∧
  if (decide (t7 > top)) = true then
    CallsH Tryz.prog F.fields_fault_fail #[.pointer (some ⟨r, 0, none⟩), .int .i64 3] h_1 fun v_1 h_2 =>
    v_1 = .tuple #[] ∧
    R (.int .u64 0) h_2
  else
    R (.int .u64 t7) h_1
theorem fields_Reader_atMost.den_eq (r : Nat) (top : Int) (h : Heap) (R : Value → Heap → Prop) : fields_Reader_atMost.vc r top h R = den Tryz.prog Tryz.f161.ntmps (.seq .leaf (.seq .leaf (.seq (.seq .leaf (.cond (.seq .leaf (.seq .leaf .leaf)) .leaf)) (.seq .leaf .leaf)))) none (bodyOf Tryz.f161) (retK Tryz.prog Tryz.f161.results R) (argEnv [.pointer (some ⟨r, 0, none⟩), .int .u64 top]) h := by kernel_rfl
theorem fields_Reader_atMost.walk {r : Nat} {top : Int} {h : Heap} {R : Value → Heap → Prop} (hv : fields_Reader_atMost.vc r top h R) : CallsH Tryz.prog F.fields_Reader_atMost #[.pointer (some ⟨r, 0, none⟩), .int .u64 top] h R :=
  callsH_of_body _ Tryz.func161 rfl rfl (Eq.mp (fields_Reader_atMost.den_eq r top h R) hv)

def fields_Reader_atMost.nil.vc (top : Int) (h : Heap) (R : Value → Heap → Prop) : Prop :=
  CallsH Tryz.prog F.fields_Reader_Num #[.pointer none] h fun v h_1 =>
  ∃ (t7 : Int), v = .int .u64 t7 ∧
  if (decide (t7 > top)) = true then
    False
  else
    R (.int .u64 t7) h_1
theorem fields_Reader_atMost.nil.den_eq (top : Int) (h : Heap) (R : Value → Heap → Prop) : fields_Reader_atMost.nil.vc top h R = den Tryz.prog Tryz.f161.ntmps (.seq .leaf (.seq .leaf (.seq (.seq .leaf (.cond (.seq .leaf (.seq .leaf .leaf)) .leaf)) (.seq .leaf .leaf)))) none (bodyOf Tryz.f161) (retK Tryz.prog Tryz.f161.results R) (argEnv [.pointer none, .int .u64 top]) h := by kernel_rfl
theorem fields_Reader_atMost.nil.walk {top : Int} {h : Heap} {R : Value → Heap → Prop} (hv : fields_Reader_atMost.nil.vc top h R) : CallsH Tryz.prog F.fields_Reader_atMost #[.pointer none, .int .u64 top] h R :=
  callsH_of_body _ Tryz.func161 rfl rfl (Eq.mp (fields_Reader_atMost.nil.den_eq top h R) hv)

def fields_Reader_Int.vc (r : Nat) (h : Heap) (R : Value → Heap → Prop) : Prop :=
  CallsH Tryz.prog F.fields_Reader_atMost #[.pointer (some ⟨r, 0, none⟩), .int .u64 1099511627776] h fun v h_1 =>
  ∃ (t4 : Int), v = .int .u64 t4 ∧
  R (.int .i64 (IntKind.wrap .i64 t4)) h_1
theorem fields_Reader_Int.den_eq (r : Nat) (h : Heap) (R : Value → Heap → Prop) : fields_Reader_Int.vc r h R = den Tryz.prog Tryz.f98.ntmps (.seq .leaf (.seq .leaf .leaf)) none (bodyOf Tryz.f98) (retK Tryz.prog Tryz.f98.results R) (argEnv [.pointer (some ⟨r, 0, none⟩)]) h := by kernel_rfl
theorem fields_Reader_Int.walk {r : Nat} {h : Heap} {R : Value → Heap → Prop} (hv : fields_Reader_Int.vc r h R) : CallsH Tryz.prog F.fields_Reader_Int #[.pointer (some ⟨r, 0, none⟩)] h R :=
  callsH_of_body _ Tryz.func98 rfl rfl (Eq.mp (fields_Reader_Int.den_eq r h R) hv)

def fields_Reader_Bool.vc (r : Nat) (h : Heap) (R : Value → Heap → Prop) : Prop :=
  CallsH Tryz.prog F.fields_Reader_atMost #[.pointer (some ⟨r, 0, none⟩), .int .u64 1] h fun v h_1 =>
  ∃ (t4 : Int), v = .int .u64 t4 ∧
  R (.bool (t4 == 1)) h_1
theorem fields_Reader_Bool.den_eq (r : Nat) (h : Heap) (R : Value → Heap → Prop) : fields_Reader_Bool.vc r h R = den Tryz.prog Tryz.f233.ntmps (.seq .leaf (.seq .leaf .leaf)) none (bodyOf Tryz.f233) (retK Tryz.prog Tryz.f233.results R) (argEnv [.pointer (some ⟨r, 0, none⟩)]) h := by kernel_rfl
theorem fields_Reader_Bool.walk {r : Nat} {h : Heap} {R : Value → Heap → Prop} (hv : fields_Reader_Bool.vc r h R) : CallsH Tryz.prog F.fields_Reader_Bool #[.pointer (some ⟨r, 0, none⟩)] h R :=
  callsH_of_body _ Tryz.func233 rfl rfl (Eq.mp (fields_Reader_Bool.den_eq r h R) hv)

def fields_Reader_Text.vc (r : Nat) (h : Heap) (R : Value → Heap → Prop) : Prop :=
  CallsH Tryz.prog F.fields_Reader_Num #[.pointer (some ⟨r, 0, none⟩)] h fun v h_1 =>
  ∃ (t6 : Int), v = .int .u64 t6 ∧
  CallsH Tryz.prog F.fields_Reader_fine #[.pointer (some ⟨r, 0, none⟩)] h_1 fun v_1 h_2 =>
  ∃ (t8 : Bool), v_1 = .bool t8 ∧
  if (!t8) = true then
    R (.slice none 0 0) h_2
  else
    ∃ (t14_p : Option Addr) (t14_l t14_c : Nat), hcell h_2 ⟨r, 2, none⟩ = some (.slice t14_p t14_l t14_c) ∧
    if (decide (t6 > (IntKind.wrap .u64 ((t14_l : Nat) : Int)))) = true then
      CallsH Tryz.prog F.fields_fault_fail #[.pointer (some ⟨r, 0, none⟩), .int .i64 8] h_2 fun v_2 h_3 =>
      v_2 = .tuple #[] ∧
      R (.slice none 0 0) h_3
    else
      ∃ (t25_p : Option Addr) (t25_l t25_c : Nat), hcell h_2 ⟨r, 2, none⟩ = some (.slice t25_p t25_l t25_c) ∧
      ((0 : Int) ≤ t6 ∧ t6 ≤ ((t25_c : Nat) : Int)) ∧ 
      CallsH Tryz.prog F.slices_Clone_s_byte_byte #[.slice (slBase t25_p t25_c 0 1) ((Int.toNat t6) - 0) (t25_c - 0)] h_2 fun v_3 h_4 =>
      ∃ (t28_p : Option Addr) (t28_l t28_c : Nat), v_3 = .slice t28_p t28_l t28_c ∧
      ∃ (t33_p : Option Addr) (t33_l t33_c : Nat), hcell h_4 ⟨r, 2, none⟩ = some (.slice t33_p t33_l t33_c) ∧
      ((0 : Int) ≤ t6 ∧ t6 ≤ ((t33_l : Nat) : Int)) ∧ 
      StoreP h_4 ⟨r, 2, none⟩ (.slice (slBase t33_p t33_c (Int.toNat t6) 1) (t33_l - (Int.toNat t6)) (t33_c - (Int.toNat t6))) fun h_5 =>
      R (.slice t28_p t28_l t28_c) h_5
theorem fields_Reader_Text.den_eq (r : Nat) (h : Heap) (R : Value → Heap → Prop) : fields_Reader_Text.vc r h R = den Tryz.prog Tryz.f97.ntmps (.seq .leaf (.seq .leaf (.seq (.seq .leaf (.cond (.seq .leaf .leaf) .leaf)) (.seq (.seq .leaf (.cond (.seq .leaf (.seq .leaf .leaf)) .leaf)) (.seq .leaf (.seq .leaf (.seq .leaf .leaf))))))) none (bodyOf Tryz.f97) (retK Tryz.prog Tryz.f97.results R) (argEnv [.pointer (some ⟨r, 0, none⟩)]) h := by kernel_rfl
theorem fields_Reader_Text.walk {r : Nat} {h : Heap} {R : Value → Heap → Prop} (hv : fields_Reader_Text.vc r h R) : CallsH Tryz.prog F.fields_Reader_Text #[.pointer (some ⟨r, 0, none⟩)] h R :=
  callsH_of_body _ Tryz.func97 rfl rfl (Eq.mp (fields_Reader_Text.den_eq r h R) hv)

def fields_Reader_End.vc (r : Nat) (h : Heap) (R : Value → Heap → Prop) : Prop :=
  JoinP (fun (t3 : Bool) (h_1 : Heap) =>
    if t3 = true then
      R (.int .i64 6) h_1
    else
      ∃ (t18 : Int), hcell h_1 ⟨r, 0, none⟩ = some (.int .i64 t18) ∧
      if (t18 != 0) = true then
        ∃ (t24 : Int), hcell h_1 ⟨r, 0, none⟩ = some (.int .i64 t24) ∧
        R (.int .i64 t24) h_1
      else
        ∃ (t29_p : Option Addr) (t29_l t29_c : Nat), hcell h_1 ⟨r, 2, none⟩ = some (.slice t29_p t29_l t29_c) ∧
        if (decide (((t29_l : Nat) : Int) > 0)) = true then
          R (.int .i64 2) h_1
        else
          R (.int .i64 0) h_1)
  (fun J =>
    ∃ (t10 : Bool), hcell h ⟨r, 1, none⟩ = some (.bool t10) ∧
    J (!t10) h)
theorem fields_Reader_End.den_eq (r : Nat) (h : Heap) (R : Value → Heap → Prop) : fields_Reader_End.vc r h R = den Tryz.prog Tryz.f99.ntmps (.seq .leaf (.seq (.block (.seq (.join [(3, .one (.bool))] .leaf) (.cond (.seq .leaf .leaf) (.seq .leaf (.cond (.seq .leaf .leaf) (.seq .leaf (.cond (.seq .leaf .leaf) .leaf))))))) (.seq .leaf .leaf))) none (bodyOf Tryz.f99) (retK Tryz.prog Tryz.f99.results R) (argEnv [.pointer (some ⟨r, 0, none⟩)]) h := by kernel_rfl
theorem fields_Reader_End.walk {r : Nat} {h : Heap} {R : Value → Heap → Prop} (hv : fields_Reader_End.vc r h R) : CallsH Tryz.prog F.fields_Reader_End #[.pointer (some ⟨r, 0, none⟩)] h R :=
  callsH_of_body _ Tryz.func99 rfl rfl (Eq.mp (fields_Reader_End.den_eq r h R) hv)

def fields_Reader_End.nil.vc  (h : Heap) (R : Value → Heap → Prop) : Prop :=
  JoinP (fun (t3 : Bool) (h_1 : Heap) =>
    if t3 = true then
      R (.int .i64 6) h_1
    else
      False)
  (fun J =>
    J true h)
theorem fields_Reader_End.nil.den_eq  (h : Heap) (R : Value → Heap → Prop) : fields_Reader_End.nil.vc h R = den Tryz.prog Tryz.f99.ntmps (.seq .leaf (.seq (.block (.seq (.join [(3, .one (.bool))] .leaf) (.cond (.seq .leaf .leaf) (.seq .leaf (.cond (.seq .leaf .leaf) (.seq .leaf (.cond (.seq .leaf .leaf) .leaf))))))) (.seq .leaf .leaf))) none (bodyOf Tryz.f99) (retK Tryz.prog Tryz.f99.results R) (argEnv [.pointer none]) h := by kernel_rfl
theorem fields_Reader_End.nil.walk  {h : Heap} {R : Value → Heap → Prop} (hv : fields_Reader_End.nil.vc h R) : CallsH Tryz.prog F.fields_Reader_End #[.pointer none] h R :=
  callsH_of_body _ Tryz.func99 rfl rfl (Eq.mp (fields_Reader_End.nil.den_eq h R) hv)

end Go.Proofs.YtgccegnmggjkjaaGreatDoor

/-
  What is proved here: bytes in memory: a clone, a literal. No condition.
-/
set_option maxRecDepth 100000
namespace Go.Proofs.YtgccegnmggjkjaaGreatDoor
open Go.Den
namespace Fld
variable {h h0 : Heap} {bs : List UInt8} {R : Value → Heap → Prop}
theorem tU : SlTy Tryz.prog T.s_uint8 T.uint8 1 1 (.int .u8 0) := ⟨by kernel_rfl, by kernel_rfl, rfl⟩
theorem uU : Tryz.prog.underlying T.s_uint8 = some (.slice T.uint8) := by kernel_rfl
theorem u8 : Tryz.prog.underlying T.uint8 = some (.int .u8) := by kernel_rfl
theorem uS : Tryz.prog.underlying T.string = some .string := by kernel_rfl
theorem conv {p : Option Addr} {n c : Nat} (hr : Row h p (bc bs)) (hn : n = bs.length) : ConvV Tryz.prog T.s_uint8 T.string (.slice p n c) h (str bs) := conv_str uU u8 uS hr hn

theorem clone_ok {p : Option Addr} {c n : Nat} (hr : Row h p (bc bs)) (hn : n = bs.length) (hl : bs.length ≤ 70368744177664)
    (hk : ∀ p' c' h', Own h' p' bs.length c' 1 (bc bs) → Fr (fun _ => False) h h' → (∀ x, inBlk p' x → h.size ≤ x) → R (.slice p' bs.length c') h') :
    CallsH Tryz.prog F.slices_Clone_s_byte_byte #[.slice p n c] h R := by
  subst hn
  refine slices_Clone_s_byte_byte.walk ?_
  unfold slices_Clone_s_byte_byte.vc
  cases p with
  | none =>
    have : bs = [] := by
      rcases hr with hr | ⟨a, e, _⟩
      · cases bs with
        | nil => rfl
        | cons b bs => cases hr
      · cases e
    subst this
    exact hk none 0 h (.nil rfl rfl rfl rfl) (Fr.refl _ _) (fun x ⟨a, e, _⟩ => by cases e)
  | some a =>
    simp only [Option.isNone_some, Bool.false_eq_true, if_false]
    refine newP_of ?_
    have f1 : Fr (fun _ => False) h (h.push (.cells #[] T.uint8)) := Fr.push _ _
    refine den_append (cs := []) tU uU (.row h.size 0 #[] T.uint8 rfl push_new (Nat.le_refl _) (by simp) rfl (fun j v hj => by cases hj)) (hr.frame f1 (fun _ _ => id)) (by rw [bc_len, Nat.mul_one]) (bc_one bs) (by omega) (by omega) ?_
    intro p' c' h' o1 _ f2 g
    rw [Nat.zero_add, List.nil_append] at o1
    refine ⟨_, _, _, rfl, ?_⟩
    rw [Nat.zero_add]
    have g' : ∀ x, inBlk p' x → h.size ≤ x := fun x hx => by
      rcases g x hx with ⟨a, e, rfl⟩ | h2
      · cases e; exact Nat.le_refl _
      · simp at h2; omega
    exact hk p' c' h' o1 (f1.step f2 (fun c hc ⟨a, e, e2⟩ => by cases e; simp at e2; omega)) g'

/-- bytes of a literal -/
theorem lit_ok {bs : List UInt8} {n : Nat} {cs : Array Value} {K : Option Addr → Nat → Nat → Heap → Prop} (hc : cs = (bc bs).toArray) (hk : ∀ h', Row h' (some ⟨h.size, 0, none⟩) (bc bs) → Fr (fun _ => False) h h' → K (some ⟨h.size, 0, none⟩) n n h') :
    NewP h (.cells cs T.uint8) fun b h_4 => denSem Tryz.prog (convert T.s_uint8 T.s_uint8 (.slice (some ⟨b, 0, none⟩) n n)) h_4 fun v h_5 => ∃ (p : Option Addr) (l c : Nat), v = .slice p l c ∧ K p l c h_5 := by
  subst hc
  refine newP_of (den_lit uU u8 (a := ⟨h.size, 0, none⟩) push_new fun h4 fz4 hb4 sz4 ot4 => ⟨_, _, _, rfl, ?_⟩)
  refine hk h4 (.inr ⟨_, rfl, heldL_blk hb4 (fun j v hj => by rw [Nat.zero_add]; simpa using hj)⟩) ⟨by rw [sz4]; simp, fun c hc _ => by rw [ot4 c (by simp; omega), Array.getElem?_push, if_neg (by omega)]⟩

end Fld
end Go.Proofs.YtgccegnmggjkjaaGreatDoor

/-
  What is proved here: what the calls of package copies do with a table. No condition.
-/
set_option maxRecDepth 100000
namespace Go.Proofs.YtgccegnmggjkjaaGreatDoor
open Go.Den Go.Heapq
namespace Cps
open Eid Alarm Fld
variable {h h' : Heap} {R : Value → Heap → Prop} {t : Nat} {X : Ft} {s s' : CF} {m a1 a2 : Nat} {xs : List CV} {S1 S2 S1' S2' : Nat → Prop} {lab : Nat → Option Nat} {p : Option Addr} {n c : Nat}

def delL (L : List Cp) (n : Int) : List Cp := L.filter (fun x => !decide ((x.num : Int) = n))
def setC (L : List Cp) (n : Nat) (ses : Int) (dl : Nat) : List Cp := L.map (fun x => if x.num = n then { x with ses := ses, dl := dl } else x)
def remF (s : CF) (n : Int) : CF := { s with L := delL s.L n, E1 := dropK s.E1 n, E2 := dropK s.E2 n }
def freeF (s : CF) (n : Nat) : CF := { s with L := setC s.L n 0 0, E2 := dropK s.E2 (n : Int) }
theorem dropK_len (L : List E) (k : Int) : (dropK L k).length ≤ L.length := List.length_filter_le _ _
/-- few enough for all calls -/
structure Small (s : CF) : Prop where
  n : s.next ≤ 50000
  l : s.L.length ≤ 50000
  e1 : s.E1.length ≤ 50000
  e2 : s.E2.length ≤ 50000
theorem Cm.len (H : Cm h t X s m xs a1 S1 a2 S2 lab) : xs.length = s.L.length := by rw [← H.abs, List.length_map]
theorem new_ok (hk : ∀ h' t X, Ct h' t X ⟨[], 1, 0, 0, 0, [], []⟩ → UpF h X h' → R (.pointer (some ⟨t, 0, none⟩)) h') : CallsH Tryz.prog F.copies_New #[] h R := by
  classical
  refine copies_New.walk (newP_of ?_)
  have f1 : Fr (fun _ => False) h (h.push (.map #[] 0)) := Fr.push _ _
  have M1 := MapP.push (α := Int) h ienc
  have z1 : (h.push (.map #[] 0)).size = h.size + 1 := Array.size_push _
  generalize h.push (.map #[] 0) = h1 at f1 M1 z1 ⊢
  refine Alarm.new_ok fun a1 S1 h2 A1 g1 f2 => ⟨_, rfl, Alarm.new_ok fun a2 S2 h3 A2 g2 f3 => ⟨_, rfl, newP_of ?_⟩⟩
  have f4 : Fr (fun _ => False) h3 (h3.push (.cells #[.map (some h.size), .int .i64 1, .int .i64 0, .int .i64 0, .int .i64 0, .pointer (some ⟨a1, 0, none⟩), .pointer (some ⟨a2, 0, none⟩)] T.copies_Table)) := Fr.push _ _
  have z2 := f2.1
  have z3 := f3.1
  have z4 : (h3.push (.cells #[.map (some h.size), .int .i64 1, .int .i64 0, .int .i64 0, .int .i64 0, .pointer (some ⟨a1, 0, none⟩), .pointer (some ⟨a2, 0, none⟩)] T.copies_Table)).size = h3.size + 1 := Array.size_push _
  have b4 : (h3.push (.cells #[.map (some h.size), .int .i64 1, .int .i64 0, .int .i64 0, .int .i64 0, .pointer (some ⟨a1, 0, none⟩), .pointer (some ⟨a2, 0, none⟩)] T.copies_Table))[h3.size]? = some (.cells #[.map (some h.size), .int .i64 1, .int .i64 0, .int .i64 0, .int .i64 0, .pointer (some ⟨a1, 0, none⟩), .pointer (some ⟨a2, 0, none⟩)] T.copies_Table (0, 0)) := push_new
  generalize h3.push (.cells #[.map (some h.size), .int .i64 1, .int .i64 0, .int .i64 0, .int .i64 0, .pointer (some ⟨a1, 0, none⟩), .pointer (some ⟨a2, 0, none⟩)] T.copies_Table) = h4 at f4 z4 b4 ⊢
  have l1 : ∀ c, S1 c → h1.size ≤ c ∧ c < h2.size := fun c hc => ⟨g1 c hc, A1.lt hc⟩
  have l2 : ∀ c, S2 c → h2.size ≤ c ∧ c < h3.size := fun c hc => ⟨g2 c hc, A2.lt hc⟩
  let lab : Nat → Option Nat := fun c => if c = h3.size then some 0 else if c = h.size then some 1 else if S1 c then some 2 else if S2 c then some 3 else none
  have lab1 : ∀ c, S1 c → lab c = some 2 := fun c hc => by
    have := l1 c hc
    show (if c = h3.size then some 0 else if c = h.size then some 1 else if S1 c then some 2 else if S2 c then some 3 else none) = _
    rw [if_neg (by omega), if_neg (by omega), if_pos hc]
  have lab2 : ∀ c, S2 c → lab c = some 3 := fun c hc => by
    have h5 := l2 c hc
    show (if c = h3.size then some 0 else if c = h.size then some 1 else if S1 c then some 2 else if S2 c then some 3 else none) = _
    rw [if_neg (by omega), if_neg (by omega), if_neg (fun h6 => by have := l1 c h6; omega), if_pos hc]
  have labs : ∀ c, lab c ≠ none → h.size ≤ c ∧ c < h4.size := fun c hc => by
    by_cases c1 : c = h3.size
    · omega
    by_cases c2 : c = h.size
    · omega
    by_cases c3 : S1 c
    · have := l1 c c3; omega
    by_cases c4 : S2 c
    · have := l2 c c4; omega
    exact absurd (show (if c = h3.size then some 0 else if c = h.size then some 1 else if S1 c then some 2 else if S2 c then some 3 else none) = none by rw [if_neg c1, if_neg c2, if_neg c3, if_neg c4]) hc
  refine hk h4 h3.size ⟨fun c => lab c ≠ none, fun _ => False⟩ ⟨h.size, [], a1, S1, a2, S2, lab, ⟨b4, (M1.frame (f2.tt f3) id).frame f4 id, (fun x hx => by cases hx), rfl, (fun x hx => by cases hx), A1.frame (f3.tt f4) (fun _ _ => id), A2.frame f4 (fun _ _ => id), if_pos rfl, ?_, lab1, lab2, (fun x hx => by cases hx), fun c => Iff.rfl, fun c hc => hc.elim, fun c hc => (labs c hc).2, .nil⟩⟩ ⟨f1.tt (f2.tt (f3.tt f4)), fun c hc => ?_⟩
  · show (if h.size = h3.size then some 0 else if h.size = h.size then some 1 else if S1 h.size then some 2 else if S2 h.size then some 3 else none) = some 1
    rw [if_neg (by omega), if_pos rfl]
  · rcases hc with hc | hc
    · exact (labs c hc).1
    · exact hc.elim
/-! ### parts -/
theorem drop2 (H : Cm h t X s m xs a1 S1 a2 S2 lab) (hn : s.E2.length < 1000000) (k : Int) (hk : ∀ h' X' lab' (e : Int), Cm h' t X' { s with E2 := dropK s.E2 k } m xs a1 S1 a2 S2 lab' → StepF X h X' h' → R (.int .i64 e) h') :
    CallsH Tryz.prog F.alarm_Alarm_Drop #[.pointer (some ⟨a2, 0, none⟩), .int .i64 k] h R := by
  refine Alarm.drop_ok H.al2 hn k (fun _ h1 A1 f1 => ?_) (fun hno => ?_)
  · obtain ⟨X', lab', H', st, _⟩ := H.alarm2 (s' := { s with E2 := dropK s.E2 k }) A1 (fun c hc => .inl hc) f1 rfl rfl rfl ⟨rfl, rfl, rfl, rfl⟩
    exact hk h1 X' lab' 0 H' st
  · have e : ({ s with E2 := dropK s.E2 k } : CF) = s := by rw [dropK_none hno]
    exact hk h X lab 4 (by rw [e]; exact H) (StepF.refl _ _)
theorem drop1 (H : Cm h t X s m xs a1 S1 a2 S2 lab) (hn : s.E1.length < 1000000) (k : Int) (hk : ∀ h' X' lab' (e : Int), Cm h' t X' { s with E1 := dropK s.E1 k } m xs a1 S1 a2 S2 lab' → StepF X h X' h' → R (.int .i64 e) h') :
    CallsH Tryz.prog F.alarm_Alarm_Drop #[.pointer (some ⟨a1, 0, none⟩), .int .i64 k] h R := by
  refine Alarm.drop_ok H.al1 hn k (fun _ h1 A1 f1 => ?_) (fun hno => ?_)
  · obtain ⟨X', lab', H', st, _⟩ := H.alarm1 (s' := { s with E1 := dropK s.E1 k }) A1 (fun c hc => .inl hc) f1 rfl rfl rfl ⟨rfl, rfl, rfl, rfl⟩
    exact hk h1 X' lab' 0 H' st
  · have e : ({ s with E1 := dropK s.E1 k } : CF) = s := by rw [dropK_none hno]
    exact hk h X lab 4 (by rw [e]; exact H) (StepF.refl _ _)
theorem remove_ok (H : Ct h t X s) (sm : Small s) (k : Int) (hk : ∀ h' X', Ct h' t X' (remF s k) → StepF X h X' h' → R (.tuple #[]) h') :
    CallsH Tryz.prog F.copies_Table_remove #[.pointer (some ⟨t, 0, none⟩), .int .i64 k] h R := by
  obtain ⟨m, xs, a1, S1, a2, S2, lab, H⟩ := H
  have := sm.e1
  have := sm.e2
  refine copies_Table_remove.walk ⟨_, cell_at H.blk rfl, drop2 H (by omega) k fun h1 X1 lab1 _ H1 st1 => ⟨_, rfl, _, cell_at H1.blk rfl, drop1 H1 (by show s.E1.length < _; omega) k fun h2 X2 lab2 _ H2 st2 => ⟨_, rfl, _, cell_at H2.blk rfl, den_delP mapTy H2.map (k := k) fun h3 M3 s3 o3 => ⟨rfl, ?_⟩⟩⟩⟩
  obtain ⟨H3, st3⟩ := H2.del (s' := remF s k) M3 s3 o3 rfl rfl rfl ⟨rfl, rfl, rfl, rfl⟩
  exact hk h3 X2 ⟨_, _, _, _, _, _, _, H3⟩ (st1.trans (st2.trans st3))
theorem mem_of_num (H : Cm h t X s m xs a1 S1 a2 S2 lab) {z : Cp} (hz : z ∈ s.L) : ∃ x ∈ xs, x.abs = z := by
  rw [← H.abs] at hz
  obtain ⟨x, hx, e⟩ := List.mem_map.1 hz
  exact ⟨x, hx, e⟩
/-- two numbers of a copy are stored -/
theorem Cm.lease {x : CV} {ses : Int} {dl : Nat} {K : Heap → Prop} (H : Cm h t X s m xs a1 S1 a2 S2 lab) (hx : x ∈ xs)
    (hk : ∀ h', Cm h' t X { s with L := setC s.L x.num ses dl } m (xs.map (fun z => if z.num = x.num then { x with ses := ses, dl := dl } else z)) a1 S1 a2 S2 lab → StepF X h X h' → K h') :
    StoreP h ((⟨x.b, 0, none⟩ : Addr).add 8) (.int .i64 ses) fun h1 => StoreP h1 ((⟨x.b, 0, none⟩ : Addr).add 9) (.int .u64 (dl : Int)) K := by
  rw [add_blk, add_blk]
  have hb := H.cps x hx
  refine storeP_blk hb (by simp) fun h1 c1 s1 o1 => storeP_blk c1 (by simp) fun h2 c2 s2 o2 => ?_
  have hy : ({ x with ses := ses, dl := dl } : CV).at h2 x.b := c2
  obtain ⟨H2, st⟩ := H.change (s' := { s with L := setC s.L x.num ses dl }) (y := { x with ses := ses, dl := dl }) hx rfl rfl rfl hy (by omega) (fun c hc => by rw [o2 c hc, o1 c hc]) (by
    show setC s.L x.num ses dl = _
    unfold setC
    refine List.map_congr_left fun z hz => ?_
    by_cases e : z.num = x.num
    · rw [if_pos e, if_pos e]
      obtain ⟨u, hu, rfl⟩ := mem_of_num H hz
      have e : u.num = x.num := e
      have : u = x := by
        obtain ⟨i, hi⟩ := List.getElem?_of_mem hu
        obtain ⟨j, hj⟩ := List.getElem?_of_mem hx
        have hnd : (xs.map CV.num).Nodup := H.so.imp (fun h => Nat.ne_of_lt h)
        have hil := (List.getElem?_eq_some_iff.1 hi).1
        have := (List.getElem?_inj (l := xs.map CV.num) (i := i) (j := j) (by simpa using hil) hnd).1 (by rw [List.getElem?_map, List.getElem?_map, hi, hj]; simp [e])
        subst this
        rw [hi] at hj; exact Option.some.inj hj
      rw [this]; rfl
    · rw [if_neg e, if_neg e]) rfl rfl ⟨rfl, rfl, rfl, rfl⟩
  exact hk h2 H2 st
theorem free_ok (H : Ct h t X s) (sm : Small s) {z : Cp} (hz : z ∈ s.L) (hk : ∀ h' X', Ct h' t X' (freeF s z.num) → StepF X h X' h' → R (.tuple #[]) h') :
    CallsH Tryz.prog F.copies_Table_free #[.pointer (some ⟨t, 0, none⟩), .int .i64 (z.num : Int)] h R := by
  obtain ⟨m, xs, a1, S1, a2, S2, lab, H⟩ := H
  obtain ⟨x, hx, rfl⟩ := mem_of_num H hz
  have := sm.e2
  refine copies_Table_free.walk ⟨_, cell_at H.blk rfl, drop2 H (by omega) _ fun h1 X1 lab1 _ H1 st1 => ⟨_, rfl, _, cell_at H1.blk rfl, _, look H1 hx, _, cell_at H1.blk rfl, _, look H1 hx, ?_⟩⟩
  refine onSome_some.2 (H1.lease (ses := 0) (dl := 0) hx fun h2 H2 st2 => hk h2 X1 ⟨_, _, _, _, _, _, _, H2⟩ (st1.trans st2))

/-! ### a copy that a session leased -/
def getC (L : List Cp) (n : Int) : Option Cp := L.find? (fun x => decide ((x.num : Int) = n))
theorem getC_some {L : List Cp} {n : Int} {z : Cp} (h : getC L n = some z) : z ∈ L ∧ (z.num : Int) = n := ⟨List.mem_of_find?_eq_some h, by simpa using List.find?_some h⟩
theorem getC_none {L : List Cp} {n : Int} : getC L n = none ↔ ∀ z ∈ L, (z.num : Int) ≠ n := by unfold getC; simp
def findE (L : List Cp) (n ses : Int) : Int := match getC L n with | none => 4 | some z => if z.ses = 0 ∨ z.ses ≠ ses then 14 else 0
theorem find_ok (H : Ct h t X s) (num ses : Int) (hk : ∀ q, R (.tuple #[.pointer q, .int .i64 (findE s.L num ses)]) h) :
    CallsH Tryz.prog F.copies_Table_find #[.pointer (some ⟨t, 0, none⟩), .int .i64 num, .int .i64 ses] h R := by
  obtain ⟨m, xs, a1, S1, a2, S2, lab, H⟩ := H
  refine copies_Table_find.walk (made_ok H ⟨_, rfl, ?_⟩)
  rw [if_neg (by decide)]
  unfold findE at hk
  cases hg : getC s.L num with
  | none =>
    rw [hg] at hk
    have hno : ∀ x ∈ xs, (x.num : Int) ≠ num := fun x hx => getC_none.1 hg x.abs (by rw [← H.abs]; exact List.mem_map_of_mem hx)
    refine ⟨_, cell_at H.blk rfl, _, look_no H hno, ?_⟩
    rw [if_pos (by rfl)]
    exact hk none
  | some z =>
    rw [hg] at hk
    dsimp only at hk
    obtain ⟨hz, rfl⟩ := getC_some hg
    obtain ⟨x, hx, rfl⟩ := mem_of_num H hz
    have L := look H hx
    have ca := H.cps x hx
    refine ⟨_, cell_at H.blk rfl, _, L, ?_⟩
    rw [if_neg (by simp)]
    refine JoinP.of fun J hJ => ⟨_, cell_at H.blk rfl, _, L, onSome_some.2 ⟨_, cell_at ca rfl, ?_⟩⟩
    have bad : (x.ses = 0 ∨ x.ses ≠ ses) → J true h := fun hb => by
      subst hJ
      simp only [if_true]
      have := hk none
      have e : (if x.abs.ses = 0 ∨ x.abs.ses ≠ ses then (14 : Int) else 0) = 14 := if_pos hb
      rwa [e] at this
    by_cases h0 : x.ses = 0
    · rw [if_pos (by simpa using h0)]
      exact bad (.inl h0)
    · rw [if_neg (by simpa using h0)]
      refine ⟨_, cell_at H.blk rfl, _, L, onSome_some.2 ⟨_, cell_at ca rfl, ?_⟩⟩
      by_cases h1 : x.ses = ses
      · have e : (x.ses != ses) = false := by simp [h1]
        rw [e]
        subst hJ
        simp only [Bool.false_eq_true, if_false]
        refine ⟨_, cell_at H.blk rfl, _, L, ?_⟩
        have e2 : (if x.abs.ses = 0 ∨ x.abs.ses ≠ ses then (14 : Int) else 0) = 0 := if_neg (fun hb => by
          rcases hb with hb | hb
          · exact h0 hb
          · exact hb h1)
        have := hk (some ⟨x.b, 0, none⟩)
        rwa [e2] at this
      · have e : (x.ses != ses) = true := by simpa using h1
        rw [e]
        exact bad (.inr h1)
def ackF (s : CF) (n ses : Int) : CF := if findE s.L n ses = 0 then { remF s n with acked := s.acked + 1 } else s
theorem Ct.bump (H : Ct h t X s) {K : Heap → Prop} (hs : s.acked ≤ 100000) (hk : ∀ h', Ct h' t X { s with acked := s.acked + 1 } → StepF X h X h' → K h') :
    ∃ (u : Int), hcell h ⟨t, 2, none⟩ = some (.int .i64 u) ∧ StoreP h ⟨t, 2, none⟩ (.int .i64 (IntKind.wrap .i64 (u + 1))) K := by
  obtain ⟨m, xs, a1, S1, a2, S2, lab, H⟩ := H
  refine ⟨_, cell_at H.blk rfl, storeP_blk H.blk (by simp) fun h1 c1 s1 o1 => ?_⟩
  rw [wrap_id (by omega) (by omega)] at c1
  obtain ⟨H1, st⟩ := H.field (s' := { s with acked := s.acked + 1 }) rfl rfl rfl c1 s1 o1
  exact hk h1 ⟨_, _, _, _, _, _, _, H1⟩ st
theorem Ct.bump3 (H : Ct h t X s) {K : Heap → Prop} (hs : s.over ≤ 100000) (hk : ∀ h', Ct h' t X { s with over := s.over + 1 } → StepF X h X h' → K h') :
    ∃ (u : Int), hcell h ⟨t, 3, none⟩ = some (.int .i64 u) ∧ StoreP h ⟨t, 3, none⟩ (.int .i64 (IntKind.wrap .i64 (u + 1))) K := by
  obtain ⟨m, xs, a1, S1, a2, S2, lab, H⟩ := H
  refine ⟨_, cell_at H.blk rfl, storeP_blk H.blk (by simp) fun h1 c1 s1 o1 => ?_⟩
  rw [wrap_id (by omega) (by omega)] at c1
  obtain ⟨H1, st⟩ := H.field (s' := { s with over := s.over + 1 }) rfl rfl rfl c1 s1 o1
  exact hk h1 ⟨_, _, _, _, _, _, _, H1⟩ st
theorem Ct.bump4 (H : Ct h t X s) {K : Heap → Prop} (hs : s.gone ≤ 100000) (hk : ∀ h', Ct h' t X { s with gone := s.gone + 1 } → StepF X h X h' → K h') :
    ∃ (u : Int), hcell h ⟨t, 4, none⟩ = some (.int .i64 u) ∧ StoreP h ⟨t, 4, none⟩ (.int .i64 (IntKind.wrap .i64 (u + 1))) K := by
  obtain ⟨m, xs, a1, S1, a2, S2, lab, H⟩ := H
  refine ⟨_, cell_at H.blk rfl, storeP_blk H.blk (by simp) fun h1 c1 s1 o1 => ?_⟩
  rw [wrap_id (by omega) (by omega)] at c1
  obtain ⟨H1, st⟩ := H.field (s' := { s with gone := s.gone + 1 }) rfl rfl rfl c1 s1 o1
  exact hk h1 ⟨_, _, _, _, _, _, _, H1⟩ st
theorem ack_ok (H : Ct h t X s) (sm : Small s) (ha : s.acked ≤ 100000) (num ses : Int) (hk : ∀ h' X', Ct h' t X' (ackF s num ses) → StepF X h X' h' → R (.int .i64 (findE s.L num ses)) h') :
    CallsH Tryz.prog F.copies_Table_Ack #[.pointer (some ⟨t, 0, none⟩), .int .i64 num, .int .i64 ses] h R := by
  refine copies_Table_Ack.walk (find_ok H num ses fun q => ⟨_, _, rfl, JoinP.of fun J hJ => ?_⟩)
  by_cases e : findE s.L num ses = 0
  · rw [if_pos (by simpa using e)]
    refine remove_ok H sm num fun h1 X1 H1 st1 => ⟨rfl, H1.bump ha fun h2 H2 st2 => ?_⟩
    subst hJ
    exact hk h2 X1 (by unfold ackF; rw [if_pos e]; exact H2) (st1.trans st2)
  · rw [if_neg (by simpa using e)]
    subst hJ
    exact hk h X (by unfold ackF; rw [if_neg e]; exact H) (StepF.refl _ _)
def relF (s : CF) (n ses : Int) : CF := if findE s.L n ses = 0 then freeF s n.toNat else s
theorem release_ok (H : Ct h t X s) (sm : Small s) (num ses : Int) (hk : ∀ h' X', Ct h' t X' (relF s num ses) → StepF X h X' h' → R (.int .i64 (findE s.L num ses)) h') :
    CallsH Tryz.prog F.copies_Table_Release #[.pointer (some ⟨t, 0, none⟩), .int .i64 num, .int .i64 ses] h R := by
  refine copies_Table_Release.walk (find_ok H num ses fun q => ⟨_, _, rfl, JoinP.of fun J hJ => ?_⟩)
  by_cases e : findE s.L num ses = 0
  · rw [if_pos (by simpa using e)]
    obtain ⟨z, hz⟩ : ∃ z, getC s.L num = some z := by
      cases hg : getC s.L num with
      | none => unfold findE at e; rw [hg] at e; cases e
      | some z => exact ⟨z, rfl⟩
    obtain ⟨hzm, rfl⟩ := getC_some hz
    refine free_ok H sm hzm fun h1 X1 H1 st1 => ⟨rfl, ?_⟩
    subst hJ
    exact hk h1 X1 (by unfold relF; rw [if_pos e, Int.toNat_natCast]; exact H1) st1
  · rw [if_neg (by simpa using e)]
    subst hJ
    exact hk h X (by unfold relF; rw [if_neg e]; exact H) (StepF.refl _ _)
end Cps
end Go.Proofs.YtgccegnmggjkjaaGreatDoor

/-
  What is proved here: what Add, Lease, Pass, Drop and Counts of package copies do with a table. No condition.
-/
set_option maxRecDepth 100000
namespace Go.Proofs.YtgccegnmggjkjaaGreatDoor
open Go.Den Go.Heapq
namespace Cps
open Eid Alarm Fld
variable {h h' : Heap} {R : Value → Heap → Prop} {t : Nat} {X : Ft} {s s' : CF} {m a1 a2 : Nat} {xs : List CV} {S1 S2 S1' S2' : Nat → Prop} {lab : Nat → Option Nat} {p : Option Addr} {n c : Nat}

def mayC (x : Ev) (len : Nat) (till : Int) : Bool := rightE x && (!decide (x = Ev.zero) && (decide (1 ≤ len) && (decide (len ≤ 600) && decide (till ≤ 1099511627776))))
theorem isCopy_ok (x : Ev) {k : Int} (hk : ∀ h', Fr (fun _ => False) h h' → R (.bool (mayC x n k)) h') : CallsH Tryz.prog F.copies_isCopy #[ev5 x, .slice p n c, .int .u64 k] h R := by
  refine copies_isCopy.walk (eid_Eid.box fun b h1 eb hb f1 => eid_Eid.ld hb (Eid.right_ok x fun h2 f2 => ⟨_, rfl, ?_⟩))
  have K := hk h2 (f1.tt f2)
  unfold mayC at K
  by_cases q0 : rightE x = true
  · rw [if_pos q0]
    rw [q0, Bool.true_and] at K
    refine eid_Eid.ld (f2.get hb id) ⟨_, eqv' (y := .zero) (x := x) rfl rfl, ?_⟩
    by_cases q1 : x = .zero
    · rw [decide_eq_true q1, if_neg (by decide)]
      rw [decide_eq_true q1] at K; exact K
    · rw [decide_eq_false q1, if_pos (by decide)]
      rw [decide_eq_false q1, Bool.not_false, Bool.true_and] at K
      by_cases q2 : 1 ≤ n
      · rw [if_pos (decide_eq_true (by omega))]
        rw [decide_eq_true q2, Bool.true_and] at K
        by_cases q3 : n ≤ 600
        · rw [if_pos (decide_eq_true (by omega))]
          rw [decide_eq_true q3, Bool.true_and] at K; exact K
        · rw [if_neg (by simp; omega)]
          rw [decide_eq_false q3] at K; exact K
      · rw [if_neg (by simp; omega)]
        rw [decide_eq_false q2] at K; exact K
  · rw [if_neg q0]
    have q0 : rightE x = false := by simpa using q0
    rw [q0] at K; exact K
def ofL (L : List Cp) (x : Ev) : List Cp := L.filter (fun y => decide (y.e = x))
theorem of_len (H : Cm h t X s m xs a1 S1 a2 S2 lab) (x : Ev) : (xs.filter (fun y => decide (y.e = x))).length = (ofL s.L x).length := by
  unfold ofL
  rw [← H.abs, List.filter_map, List.length_map]; rfl
def addE (s : CF) (x : Ev) (d : List UInt8) (till : Nat) : Int := if mayC x d.length (till : Int) = true then (if (ofL s.L x).length ≥ 16 then 15 else 0) else 1
def addN (s : CF) (x : Ev) (d : List UInt8) (till : Nat) : Int := if addE s x d till = 0 then (s.next : Int) else 0
def addF (s : CF) (x : Ev) (d : List UInt8) (till : Nat) : CF := if addE s x d till = 0 then { s with L := s.L ++ [⟨s.next, x, d, till, 0, 0⟩], next := s.next + 1, E1 := setL s.E1 (s.next : Int) (till : Int) } else s
theorem add_ok (H : Ct h t X s) (sm : Small s) (hlt : ∀ z ∈ s.L, z.num < s.next) (hpos : 1 ≤ s.next) (x : Ev) {d : List UInt8} (till : Nat) {k : Int} (hk0 : k = (till : Int)) (hr : Row h p (bc d)) (hn : n = d.length) (hpm : d ≠ [] → ∀ a, p = some a → ¬ X.M a.block)
    (hk : ∀ h' X', Ct h' t X' (addF s x d till) → StepF X h X' h' → R (.tuple #[.int .i64 (addN s x d till), .int .i64 (addE s x d till)]) h') :
    CallsH Tryz.prog F.copies_Table_Add #[.pointer (some ⟨t, 0, none⟩), ev5 x, .slice p n c, .int .u64 k] h R := by
  subst hk0 hn
  obtain ⟨m, xs, a1, S1, a2, S2, lab, H⟩ := H
  have sn := sm.n
  have sl := sm.l
  have se := sm.e1
  have xl := H.len
  refine copies_Table_Add.walk (eid_Eid.box fun b h1 eb hb f1 => ?_)
  have H1 := H.on f1
  refine made_ok H1 ⟨_, rfl, ?_⟩
  rw [if_neg (by decide)]
  refine eid_Eid.ld hb (isCopy_ok x fun h3 f3 => ⟨_, rfl, ?_⟩)
  have F3 := f1.tt f3
  by_cases q0 : mayC x d.length (till : Int) = true
  · rw [q0, if_neg (by decide)]
    refine eid_Eid.ld (f3.get hb id) (of_ok (H.on F3) x (by omega) fun h4 p4 c4 o4 g4 f4 => ⟨_, _, _, rfl, ?_⟩)
    have F4 := F3.tt f4
    have H4 := H.on F4
    have hb4 := (f3.tt f4).get hb id
    rw [of_len H x]
    by_cases q1 : (ofL s.L x).length ≥ 16
    · rw [if_pos (decide_eq_true (by omega))]
      have e : addE s x d till = 15 := by unfold addE; rw [if_pos q0, if_pos q1]
      have e2 : addN s x d till = 0 := if_neg (by rw [e]; decide)
      have e3 : addF s x d till = s := if_neg (by rw [e]; decide)
      rw [e, e2, e3] at hk
      exact hk h4 X ⟨_, _, _, _, _, _, _, H4⟩ (StepF.of_no F4)
    · rw [if_neg (by simp; omega)]
      have e : addE s x d till = 0 := by unfold addE; rw [if_pos q0, if_neg q1]
      have e2 : addN s x d till = (s.next : Int) := if_pos e
      have e3 : addF s x d till = { s with L := s.L ++ [⟨s.next, x, d, till, 0, 0⟩], next := s.next + 1, E1 := setL s.E1 (s.next : Int) (till : Int) } := if_pos e
      rw [e, e2, e3] at hk
      have lb : b < h4.size := lt_of_get hb4
      have nb : ∀ {c}, lab c ≠ none → c ≠ b := fun {c} hc ec => by have := H.lsz c hc; omega
      refine ⟨_, cell_at H4.blk rfl, _, cell_at H4.blk rfl, storeP_blk H4.blk (by simp) fun h5 c5 s5 o5 => ?_⟩
      rw [wrap_id (by omega) (by omega)] at c5
      obtain ⟨H5, st5⟩ := H4.field (s' := { s with next := s.next + 1 }) rfl rfl rfl c5 s5 o5
      have hb5 : Ev.at h5 b x := by
        unfold Ev.at eid_Eid.at
        rw [o5 b (Ne.symm (nb (by rw [H.l0]; simp)))]; exact hb4
      have r5 : Row h5 p (bc d) := (hr.frame F4 (fun _ _ => id)).frame st5.fr (fun a ea => hpm (by rintro rfl; simp [mayC] at q0) a ea)
      refine ⟨_, cell_at H5.blk rfl, eid_Eid.ld hb5 (clone_ok r5 rfl (by
        unfold mayC at q0
        simp only [Bool.and_eq_true, decide_eq_true_eq] at q0
        omega) fun p6 c6 h6 o6 f6 g6 => ⟨_, _, _, rfl, ?_⟩)⟩
      refine ⟨eid_Eid.held (f6.get hb5 id), cell_at (f6.get H5.blk id) rfl, copies_Copy.box fun b7 h7 e7 hb7 f7 => ?_⟩
      have F7 := f6.tt f7
      have z5 : h5.size ≤ h6.size := f6.1
      refine ⟨eid_Eid.held (F7.get hb5 id), cell_at (F7.get H5.blk id) rfl, den_putP mapTy (H5.on F7).map (k := (s.next : Int)) fun h8 M8 s8 o8 => ?_⟩
      obtain ⟨X8, lab8, H8, st8⟩ := H5.add (s' := { s with L := s.L ++ [⟨s.next, x, d, till, 0, 0⟩], next := s.next + 1 }) (y := ⟨s.next, b7, x, ⟨p6, c6, d⟩, till, 0, 0⟩) F7 hb7 (by show h5.size ≤ b7; omega) ((o6.row').frame f7 (fun _ _ => id)) o6.le (fun c hc => ⟨g6 c hc, by have := o6.blk_lt hc; show c ≠ b7; omega, by have := o6.blk_lt hc; have := f7.1; omega⟩)
        (fun u hu => by
          have : u.abs ∈ s.L := by rw [← H.abs]; exact List.mem_map_of_mem hu
          exact hlt _ this) M8 s8 o8 rfl rfl rfl ⟨rfl, rfl, rfl, rfl⟩
      have hmay : may (s.next : Int) (till : Int) = true := by
        unfold mayC at q0
        simp only [Bool.and_eq_true, decide_eq_true_eq] at q0
        exact may_iff.2 ⟨by omega, by omega, by omega⟩
      refine ⟨_, cell_at H8.blk rfl, Alarm.set_ok H8.al1 (by show s.E1.length < _; omega) (s.next : Int) (till : Int) (by omega) (fun hm h9 S9 A9 g9 f9 => ⟨_, rfl, ?_⟩) (fun hm => absurd hmay (by rw [hm]; simp))⟩
      obtain ⟨X9, lab9, H9, st9, _⟩ := H8.alarm1 (s' := { s with L := s.L ++ [⟨s.next, x, d, till, 0, 0⟩], next := s.next + 1, E1 := setL s.E1 (s.next : Int) (till : Int) }) A9 g9 f9 rfl rfl rfl ⟨rfl, rfl, rfl, rfl⟩
      exact hk h9 X9 ⟨_, _, _, _, _, _, _, H9⟩ (StepF.no F4 (st5.trans (st8.trans st9)))
  · have q0 : mayC x d.length (till : Int) = false := by simpa using q0
    rw [q0, if_pos (by decide)]
    have e : addE s x d till = 1 := by unfold addE; rw [q0]; rfl
    have e2 : addN s x d till = 0 := if_neg (by rw [e]; decide)
    have e3 : addF s x d till = s := if_neg (by rw [e]; decide)
    rw [e, e2, e3] at hk
    exact hk h3 X ⟨_, _, _, _, _, _, _, H.on F3⟩ (StepF.of_no F3)
theorem counts_ok (H : Ct h t X s) (sm : Small s) (hk : ∀ h', Fr (fun _ => False) h h' → R (.agg #[.int .i64 ((s.next : Int) - 1), .int .i64 ((s.L.length : Int) - (s.E2.length : Int)), .int .i64 (s.E2.length : Int), .int .i64 (s.acked : Int), .int .i64 (s.over : Int), .int .i64 (s.gone : Int)]) h') :
    CallsH Tryz.prog F.copies_Table_Counts #[.pointer (some ⟨t, 0, none⟩)] h R := by
  obtain ⟨m, xs, a1, S1, a2, S2, lab, H⟩ := H
  have sn := sm.n
  have sl := sm.l
  have se := sm.e2
  have xl := H.len
  refine copies_Table_Counts.walk (a6_int.box fun b h1 eb hb f1 => ?_)
  have H1 := H.on f1
  refine made_ok H1 ⟨_, rfl, ?_⟩
  rw [if_neg (by decide)]
  refine ⟨_, cell_at H1.blk rfl, Alarm.len_ok H1.al2 ⟨_, rfl, _, cell_at H1.blk rfl, _, cell_at H1.blk rfl, _, lenV_P mapTy H1.map, _, cell_at H1.blk rfl, _, cell_at H1.blk rfl, _, cell_at H1.blk rfl, ?_⟩⟩
  refine a6_int.set hb fun g6 a6 s6 o6 => a6_int.ld a6 ?_
  have F6 : Fr (fun _ => False) h g6 := f1.fresh (S := fun y => y = b) ⟨by omega, fun y _ hn => o6 y hn⟩ (fun y e => by omega)
  have K := hk g6 F6
  rw [List.length_map, wrap_id (n := (s.next : Int) - 1) (by omega) (by omega), wrap_id (by omega) (by omega), xl]
  exact K

/-! ### many go -/
def remOver (s : CF) (k : Int) : CF := { remF s k with over := s.over + 1 }
def remGone (s : CF) (k : Int) : CF := { remF s k with gone := s.gone + 1 }
theorem Small.rem (sm : Small s) (k : Int) : Small (remF s k) :=
  ⟨sm.n, Nat.le_trans (List.length_filter_le _ _) sm.l, Nat.le_trans (dropK_len _ _) sm.e1, Nat.le_trans (dropK_len _ _) sm.e2⟩
theorem Small.free (sm : Small s) (k : Nat) : Small (freeF s k) :=
  ⟨sm.n, by show (setC s.L k 0 0).length ≤ _; unfold setC; rw [List.length_map]; exact sm.l, sm.e1, Nat.le_trans (dropK_len _ _) sm.e2⟩
def Held (s : CF) : Prop := ∀ k ∈ keys s.E2, ∃ z ∈ s.L, (z.num : Int) = k
theorem Held.rem (H : Held s) (k : Int) : Held (remF s k) := fun j hj => by
  unfold keys at hj
  obtain ⟨e, he, rfl⟩ := List.mem_map.1 hj
  obtain ⟨h1, h2⟩ := List.mem_filter.1 he
  have hne : e.1 ≠ k := by simpa using h2
  obtain ⟨z, hz, e2⟩ := H e.1 (List.mem_map_of_mem h1)
  exact ⟨z, List.mem_filter.2 ⟨hz, by simp [e2, hne]⟩, e2⟩
theorem setC_nums (L : List Cp) (n : Nat) (a : Int) (b : Nat) {z : Cp} (hz : z ∈ L) : ∃ y ∈ setC L n a b, y.num = z.num := by
  unfold setC
  refine ⟨_, List.mem_map_of_mem hz, ?_⟩
  split <;> rfl
theorem Ct.ring1 (H : Ct h t X s) (sm : Small s) (now : Int) (hk : ∀ h' X' p' c', Ct h' t X' { s with E1 := Alarm.rest s.E1 now } → StepF X h X' h' → Own h' p' (Alarm.due s.E1 now).length c' 1 (kc (Alarm.due s.E1 now)) → (∀ y, inBlk p' y → h.size ≤ y ∧ ¬ X'.M y) → R (.slice p' (Alarm.due s.E1 now).length c') h') :
    ∃ (u : Option Addr), hcell h ⟨t, 5, none⟩ = some (.pointer u) ∧ CallsH Tryz.prog F.alarm_Alarm_Ring #[.pointer u, .int .u64 now] h R := by
  obtain ⟨m, xs, a1, S1, a2, S2, lab, H⟩ := H
  have := sm.e1
  refine ⟨_, cell_at H.blk rfl, Alarm.ring_ok H.al1 (by omega) now fun h1 p1 c1 A1 o1 g1 f1 => ?_⟩
  obtain ⟨X', lab', H', st, hM⟩ := H.alarm1 (s' := { s with E1 := Alarm.rest s.E1 now }) A1 (fun c hc => .inl hc) f1 rfl rfl rfl ⟨rfl, rfl, rfl, rfl⟩
  refine hk h1 X' p1 c1 ⟨_, _, _, _, _, _, _, H'⟩ st o1 (fun y hy => ⟨g1 y hy, fun hm => ?_⟩)
  have hy := g1 y hy
  rcases hM y hm with h2 | h2
  · have := H.lsz y ((H.mm y).1 h2); omega
  · have := H.al1.lt h2; omega
theorem Ct.ring2 (H : Ct h t X s) (sm : Small s) (now : Int) (hk : ∀ h' X' p' c', Ct h' t X' { s with E2 := Alarm.rest s.E2 now } → StepF X h X' h' → Own h' p' (Alarm.due s.E2 now).length c' 1 (kc (Alarm.due s.E2 now)) → (∀ y, inBlk p' y → h.size ≤ y ∧ ¬ X'.M y) → R (.slice p' (Alarm.due s.E2 now).length c') h') :
    ∃ (u : Option Addr), hcell h ⟨t, 6, none⟩ = some (.pointer u) ∧ CallsH Tryz.prog F.alarm_Alarm_Ring #[.pointer u, .int .u64 now] h R := by
  obtain ⟨m, xs, a1, S1, a2, S2, lab, H⟩ := H
  have := sm.e2
  refine ⟨_, cell_at H.blk rfl, Alarm.ring_ok H.al2 (by omega) now fun h1 p1 c1 A1 o1 g1 f1 => ?_⟩
  obtain ⟨X', lab', H', st, hM⟩ := H.alarm2 (s' := { s with E2 := Alarm.rest s.E2 now }) A1 (fun c hc => .inl hc) f1 rfl rfl rfl ⟨rfl, rfl, rfl, rfl⟩
  refine hk h1 X' p1 c1 ⟨_, _, _, _, _, _, _, H'⟩ st o1 (fun y hy => ⟨g1 y hy, fun hm => ?_⟩)
  have hy := g1 y hy
  rcases hM y hm with h2 | h2
  · have := H.lsz y ((H.mm y).1 h2); omega
  · have := H.al2.lt h2; omega
/-- a slice of numbers that a table's calls leave alone -/
structure Nums (h : Heap) (X : Ft) (p : Option Addr) (n c : Nat) (ks : List Int) : Prop where
  own : Own h p n c 1 (ks.map ienc)
  len : n = ks.length
  ap : ∀ y, inBlk p y → ¬ X.M y
theorem Nums.step {X' : Ft} {ks : List Int} (N : Nums h X p n c ks) (st : StepF X h X' h') : Nums h' X' p n c ks :=
  ⟨N.own.frame st.fr N.ap, N.len, fun y hy hm => by
    rcases st.newM y hm with h1 | h1
    · exact N.ap y hy h1
    · have := N.own.blk_lt hy; omega⟩
theorem Nums.at {K : Int → Prop} {ks : List Int} {i : Nat} {k : Int} (N : Nums h X p n c ks) (hi : ks[i]? = some k) (hk : K k) :
    ((0 : Int) ≤ (i : Int) ∧ (i : Int) < ((n : Nat) : Int)) ∧ onSome p fun a => ∃ t : Int, hcell h (a.add (Int.toNat (i : Int) * 1)) = some (.int .i64 t) ∧ K t := by
  have hl := (List.getElem?_eq_some_iff.1 hi).1
  have hn := N.len
  obtain ⟨ab, ao, e⟩ := N.own.addr (by omega)
  subst e
  refine ⟨⟨by omega, by omega⟩, onSome_some.2 ⟨k, ?_, hk⟩⟩
  rw [Int.toNat_natCast, Nat.mul_one]
  exact N.own.cell (by rw [List.getElem?_map, hi]; rfl)
theorem foldl_small {f : CF → Int → CF} (hf : ∀ s k, Small s → Small (f s k)) : ∀ (ks : List Int) (s : CF), Small s → Small (ks.foldl f s)
  | [], _, h => h
  | k :: ks, s, h => foldl_small hf ks (f s k) (hf s k h)
theorem over_fold : ∀ (ks : List Int) (s : CF), (ks.foldl remOver s).over = s.over + ks.length
  | [], _ => rfl
  | k :: ks, s => by rw [List.foldl_cons, over_fold ks, List.length_cons]; show s.over + 1 + ks.length = _; omega
theorem gone_fold : ∀ (ks : List Int) (s : CF), (ks.foldl remGone s).gone = s.gone + ks.length
  | [], _ => rfl
  | k :: ks, s => by rw [List.foldl_cons, gone_fold ks, List.length_cons]; show s.gone + 1 + ks.length = _; omega
theorem held_fold : ∀ (ks : List Int) (s : CF), Held s → Held (ks.foldl remOver s)
  | [], _, h => h
  | k :: ks, s, h => held_fold ks (remOver s k) (h.rem k)
theorem take_foldl {f : CF → Int → CF} {ks : List Int} {i : Nat} {k : Int} (hi : ks[i]? = some k) (s : CF) : (ks.take (i + 1)).foldl f s = f ((ks.take i).foldl f s) k := by
  rw [List.take_add_one, hi, List.foldl_append]; rfl
def passF (s : CF) (now : Int) : CF :=
  let s1 := (keys (Alarm.due s.E1 now)).foldl remOver { s with E1 := Alarm.rest s.E1 now }
  (keys (Alarm.due s1.E2 now)).foldl (fun s k => freeF s k.toNat) { s1 with E2 := Alarm.rest s1.E2 now }
theorem free_nums : ∀ (ks : List Int) (s : CF) (z : Cp), z ∈ s.L → ∃ y ∈ (ks.foldl (fun s k => freeF s k.toNat) s).L, y.num = z.num
  | [], s, z, hz => ⟨z, hz, rfl⟩
  | k :: ks, s, z, hz => by
    obtain ⟨y, hy, e⟩ := setC_nums s.L k.toNat 0 0 hz
    obtain ⟨u, hu, e2⟩ := free_nums ks (freeF s k.toNat) y hy
    exact ⟨u, hu, e2.trans e⟩
theorem rest_len (L : List E) (now : Int) : (Alarm.rest L now).length ≤ L.length := (List.dropWhile_sublist _).length_le
theorem pass_ok (H : Ct h t X s) (sm : Small s) (ho : s.over ≤ 40000) (hE : Held s) (now : Int)
    (hk : ∀ h' X' p' c', Ct h' t X' (passF s now) → StepF X h X' h' → Nums h' X' p' (Alarm.due s.E1 now).length c' (keys (Alarm.due s.E1 now)) → (∀ y, inBlk p' y → h.size ≤ y) → R (.slice p' (Alarm.due s.E1 now).length c') h') :
    CallsH Tryz.prog F.copies_Table_Pass #[.pointer (some ⟨t, 0, none⟩), .int .u64 now] h R := by
  have hdl : (Alarm.due s.E1 now).length ≤ s.E1.length := (List.takeWhile_sublist _).length_le
  have e1b := sm.e1
  have hm : ∀ {R : Value → Heap → Prop}, R (.bool true) h → CallsH Tryz.prog F.copies_Table_made #[.pointer (some ⟨t, 0, none⟩)] h R := fun hk => by
    obtain ⟨m, xs, a1, S1, a2, S2, lab, H⟩ := H
    exact made_ok H hk
  refine copies_Table_Pass.walk (hm ⟨_, rfl, ?_⟩)
  rw [if_neg (by decide)]
  refine H.ring1 sm now fun h2 X2 p2 c2 H2 st2 o2 g2 => ⟨_, _, _, rfl, ?_⟩
  have sm2 : Small { s with E1 := Alarm.rest s.E1 now } := ⟨sm.n, sm.l, Nat.le_trans (rest_len _ _) sm.e1, sm.e2⟩
  have kl : (keys (Alarm.due s.E1 now)).length = (Alarm.due s.E1 now).length := by unfold keys; rw [List.length_map]
  have N2 : Nums h2 X2 p2 (Alarm.due s.E1 now).length c2 (keys (Alarm.due s.E1 now)) := ⟨o2, kl.symm, fun y hy => (g2 y hy).2⟩
  have smR : ∀ (s : CF) k, Small s → Small (remOver s k) := fun s k h => ⟨(h.rem k).n, (h.rem k).l, (h.rem k).e1, (h.rem k).e2⟩
  refine ⟨fun u g => ∃ (i : Nat) (Xg : Ft), u = (i : Int) ∧ i ≤ (Alarm.due s.E1 now).length ∧ Ct g t Xg (((keys (Alarm.due s.E1 now)).take i).foldl remOver { s with E1 := Alarm.rest s.E1 now }) ∧ StepF X h Xg g ∧ Nums g Xg p2 (Alarm.due s.E1 now).length c2 (keys (Alarm.due s.E1 now)), fun u _ => (Alarm.due s.E1 now).length - u.toNat, ⟨0, X2, rfl, Nat.zero_le _, H2, st2, N2⟩, ?_⟩
  rintro _ g ⟨i, Xg, rfl, hi, Hg, stg, Ng⟩
  have smg := foldl_small smR ((keys (Alarm.due s.E1 now)).take i) _ sm2
  by_cases hlt : i < (Alarm.due s.E1 now).length
  · rw [if_pos (decide_eq_true (by omega))]
    have hki : (keys (Alarm.due s.E1 now))[i]? = some ((keys (Alarm.due s.E1 now))[i]'(by omega)) := List.getElem?_eq_getElem _
    generalize (keys (Alarm.due s.E1 now))[i]'(by omega) = k at hki
    refine Ng.at hki (remove_ok Hg smg k fun g3 X3 H3 st3 => ⟨rfl, H3.bump3 ?_ fun g4 H4 st4 => ?_⟩)
    · show (((keys (Alarm.due s.E1 now)).take i).foldl remOver { s with E1 := Alarm.rest s.E1 now }).over ≤ 100000
      rw [over_fold, List.length_take]
      show s.over + _ ≤ 100000
      omega
    · rw [wrap_id (by omega) (by omega)]
      refine ⟨⟨i + 1, X3, by omega, by omega, ?_, stg.trans (st3.trans st4), (Ng.step st3).step st4⟩, by show (Alarm.due s.E1 now).length - Int.toNat ((i : Int) + 1) < (Alarm.due s.E1 now).length - i; omega⟩
      rw [take_foldl hki]
      exact H4
  · rw [if_neg (by simp; omega)]
    obtain rfl : i = (Alarm.due s.E1 now).length := by omega
    have ta : (keys (Alarm.due s.E1 now)).take (Alarm.due s.E1 now).length = keys (Alarm.due s.E1 now) := List.take_of_length_le (by omega)
    rw [ta] at Hg smg
    have hE1 : Held ((keys (Alarm.due s.E1 now)).foldl remOver { s with E1 := Alarm.rest s.E1 now }) := held_fold _ _ hE
    generalize hs1 : (keys (Alarm.due s.E1 now)).foldl remOver { s with E1 := Alarm.rest s.E1 now } = s1 at Hg smg hE1
    refine Hg.ring2 smg now fun h6 X6 p6 c6 H6 st6 o6 g6 => ⟨_, _, _, rfl, ?_⟩
    have kl6 : (keys (Alarm.due s1.E2 now)).length = (Alarm.due s1.E2 now).length := by unfold keys; rw [List.length_map]
    have sm6 : Small { s1 with E2 := Alarm.rest s1.E2 now } := ⟨smg.n, smg.l, smg.e1, Nat.le_trans (rest_len _ _) smg.e2⟩
    have N6 : Nums h6 X6 p6 (Alarm.due s1.E2 now).length c6 (keys (Alarm.due s1.E2 now)) := ⟨o6, kl6.symm, fun y hy => (g6 y hy).2⟩
    have hd6 := smg.e2
    have hdl6 : (Alarm.due s1.E2 now).length ≤ s1.E2.length := (List.takeWhile_sublist _).length_le
    refine ⟨fun u g => ∃ (i : Nat) (Xg : Ft), u = (i : Int) ∧ i ≤ (Alarm.due s1.E2 now).length ∧ Ct g t Xg (((keys (Alarm.due s1.E2 now)).take i).foldl (fun s k => freeF s k.toNat) { s1 with E2 := Alarm.rest s1.E2 now }) ∧ StepF X h Xg g ∧ Nums g Xg p6 (Alarm.due s1.E2 now).length c6 (keys (Alarm.due s1.E2 now)) ∧ Nums g Xg p2 (Alarm.due s.E1 now).length c2 (keys (Alarm.due s.E1 now)), fun u _ => (Alarm.due s1.E2 now).length - u.toNat, ⟨0, X6, rfl, Nat.zero_le _, H6, stg.trans st6, N6, Ng.step st6⟩, ?_⟩
    rintro _ g7 ⟨j, X7, rfl, hj, H7, st7, N7, M7⟩
    have sm7 := foldl_small (f := fun s k => freeF s k.toNat) (fun s k h => h.free k.toNat) ((keys (Alarm.due s1.E2 now)).take j) _ sm6
    by_cases hlt : j < (Alarm.due s1.E2 now).length
    · rw [if_pos (decide_eq_true (by omega))]
      have hki : (keys (Alarm.due s1.E2 now))[j]? = some ((keys (Alarm.due s1.E2 now))[j]'(by omega)) := List.getElem?_eq_getElem _
      generalize (keys (Alarm.due s1.E2 now))[j]'(by omega) = k at hki
      have hkm : k ∈ keys s1.E2 := by
        have h1 := List.mem_of_getElem? hki
        unfold keys at h1 ⊢
        obtain ⟨e, he, rfl⟩ := List.mem_map.1 h1
        exact List.mem_map_of_mem ((List.takeWhile_sublist _).subset he)
      obtain ⟨z, hz, ez⟩ := hE1 k hkm
      obtain ⟨y, hy, ey⟩ := free_nums ((keys (Alarm.due s1.E2 now)).take j) { s1 with E2 := Alarm.rest s1.E2 now } z hz
      have eyk : k = (y.num : Int) := by rw [ey]; exact ez.symm
      refine N7.at hki ?_
      rw [eyk]
      refine free_ok H7 sm7 hy fun g8 X8 H8 st8 => ⟨rfl, ?_⟩
      rw [wrap_id (by omega) (by omega)]
      refine ⟨⟨j + 1, X8, by omega, by omega, ?_, st7.trans st8, N7.step st8, M7.step st8⟩, by show (Alarm.due s1.E2 now).length - Int.toNat ((j : Int) + 1) < (Alarm.due s1.E2 now).length - j; omega⟩
      rw [take_foldl hki, eyk, Int.toNat_natCast]
      exact H8
    · rw [if_neg (by simp; omega)]
      obtain rfl : j = (Alarm.due s1.E2 now).length := by omega
      rw [List.take_of_length_le (by omega)] at H7
      refine hk g7 X7 p2 c2 ?_ st7 M7 (fun y hy => (g2 y hy).1)
      unfold passF
      rw [hs1]
      exact H7
def dropF (s : CF) (x : Ev) : CF := ((ofL s.L x).map (fun z => (z.num : Int))).foldl remGone s
theorem of_nums (H : Cm h t X s m xs a1 S1 a2 S2 lab) (x : Ev) : nums (xs.filter (fun y => decide (y.e = x))) = (ofL s.L x).map (fun z => (z.num : Int)) := by
  unfold ofL nums
  rw [← H.abs, List.filter_map, List.map_map]; rfl
theorem drop_ok (H : Ct h t X s) (sm : Small s) (ho : s.gone ≤ 40000) (x : Ev)
    (hk : ∀ h' X' p' c', Ct h' t X' (dropF s x) → StepF X h X' h' → Nums h' X' p' (ofL s.L x).length c' ((ofL s.L x).map (fun z => (z.num : Int))) → (∀ y, inBlk p' y → h.size ≤ y) → R (.slice p' (ofL s.L x).length c') h') :
    CallsH Tryz.prog F.copies_Table_Drop #[.pointer (some ⟨t, 0, none⟩), ev5 x] h R := by
  have H0 := H
  obtain ⟨m, xs, a1, S1, a2, S2, lab, H⟩ := H
  have sl := sm.l
  have xl := H.len
  refine copies_Table_Drop.walk (eid_Eid.box fun b h1 eb hb f1 => eid_Eid.ld hb (of_ok (H.on f1) x (by omega) fun h2 p2 c2 o2 g2 f2 => ⟨_, _, _, rfl, ?_⟩))
  have F2 := f1.tt f2
  have z1 := f1.1
  rw [of_len H x, of_nums H x] at o2
  rw [of_len H x]
  have ol : (ofL s.L x).length ≤ s.L.length := List.length_filter_le _ _
  have kl : ((ofL s.L x).map (fun z => (z.num : Int))).length = (ofL s.L x).length := List.length_map _
  have N2 : Nums h2 X p2 (ofL s.L x).length c2 ((ofL s.L x).map (fun z => (z.num : Int))) := ⟨o2, kl.symm, fun y hy hm => by
    have h1 := g2 y hy
    have := H.lsz y ((H.mm y).1 hm)
    omega⟩
  have smR : ∀ (s : CF) k, Small s → Small (remGone s k) := fun s k h => ⟨(h.rem k).n, (h.rem k).l, (h.rem k).e1, (h.rem k).e2⟩
  refine ⟨fun u g => ∃ (i : Nat) (Xg : Ft), u = (i : Int) ∧ i ≤ (ofL s.L x).length ∧ Ct g t Xg ((((ofL s.L x).map (fun z => (z.num : Int))).take i).foldl remGone s) ∧ StepF X h Xg g ∧ Nums g Xg p2 (ofL s.L x).length c2 ((ofL s.L x).map (fun z => (z.num : Int))), fun u _ => (ofL s.L x).length - u.toNat, ⟨0, X, rfl, Nat.zero_le _, H0.on F2, StepF.of_no F2, N2⟩, ?_⟩
  rintro _ g ⟨i, Xg, rfl, hi, Hg, stg, Ng⟩
  have smg := foldl_small smR (((ofL s.L x).map (fun z => (z.num : Int))).take i) _ sm
  by_cases hlt : i < (ofL s.L x).length
  · rw [if_pos (decide_eq_true (by omega))]
    have hki : ((ofL s.L x).map (fun z => (z.num : Int)))[i]? = some (((ofL s.L x).map (fun z => (z.num : Int)))[i]'(by omega)) := List.getElem?_eq_getElem _
    generalize ((ofL s.L x).map (fun z => (z.num : Int)))[i]'(by omega) = k at hki
    refine Ng.at hki (remove_ok Hg smg k fun g3 X3 H3 st3 => ⟨rfl, H3.bump4 ?_ fun g4 H4 st4 => ?_⟩)
    · show ((((ofL s.L x).map (fun z => (z.num : Int))).take i).foldl remGone s).gone ≤ 100000
      rw [gone_fold, List.length_take]
      omega
    · rw [wrap_id (by omega) (by omega)]
      refine ⟨⟨i + 1, X3, by omega, by omega, ?_, stg.trans (st3.trans st4), (Ng.step st3).step st4⟩, by show (ofL s.L x).length - Int.toNat ((i : Int) + 1) < (ofL s.L x).length - i; omega⟩
      rw [take_foldl hki]
      exact H4
  · rw [if_neg (by simp; omega)]
    obtain rfl : i = (ofL s.L x).length := by omega
    rw [List.take_of_length_le (by omega)] at Hg
    exact hk g Xg p2 c2 Hg stg Ng (fun y hy => by have := g2 y hy; omega)
end Cps
end Go.Proofs.YtgccegnmggjkjaaGreatDoor
