/-
  What is proved here: what package eid tells of names: Right, Less; names as keys of maps. No condition.
-/
import Derived.Test.YtgccegnmggjkjaaDoorMapP
import Derived.Test.YtgccegnmggjkjaaDoorEqT
import Derived.Test.YtgccegnmggjkjaaDoorBytes
import Derived.Test.YtgccegnmggjkjaaDoorStep
import Derived.Test.YtgccegnmggjkjaaDoorStructs
import Derived.Test.YtgccegnmggjkjaaDoorVcE
set_option maxRecDepth 100000
namespace Go.Proofs.YtgccegnmggjkjaaDoor
open Go.Den
namespace Eid
theorem ba_beq {a b : ByteArray} : (a == b) = true ↔ a = b := by
  obtain ⟨a⟩ := a
  obtain ⟨b⟩ := b
  constructor
  · intro h
    have h : (a == b) = true := h
    rw [eq_of_beq h]
  · intro h
    cases h
    show (a == a) = true
    simp

structure Ev where
  ipn : Bool
  node : Int
  svc : Int
  host : ByteArray
  dem : ByteArray
theorem Ev.ext' {x y : Ev} (h0 : x.ipn = y.ipn) (h1 : x.node = y.node) (h2 : x.svc = y.svc) (h3 : x.host = y.host) (h4 : x.dem = y.dem) : x = y := by
  cases x; cases y; simp at h0 h1 h2 h3 h4; simp [h0, h1, h2, h3, h4]
def eqB (x y : Ev) : Bool := x.ipn == y.ipn && (x.node == y.node && (x.svc == y.svc && (x.host == y.host && (x.dem == y.dem && true))))
theorem eqB_iff {x y : Ev} : eqB x y = true ↔ x = y := by
  unfold eqB
  simp only [Bool.and_eq_true, beq_iff_eq, ba_beq, and_true]
  constructor
  · rintro ⟨h0, h1, h2, h3, h4⟩; exact Ev.ext' h0 h1 h2 h3 h4
  · rintro rfl; simp
instance : DecidableEq Ev := fun x y => decidable_of_iff (eqB x y = true) eqB_iff
theorem eqB_dec (x y : Ev) : eqB x y = decide (x = y) := by
  by_cases h : x = y
  · rw [decide_eq_true h]; exact eqB_iff.2 h
  · rw [decide_eq_false h]
    cases hb : eqB x y
    · rfl
    · exact absurd (eqB_iff.1 hb) h
def ev5 (x : Ev) : Value := .agg #[.bool x.ipn, .int .u64 x.node, .int .u64 x.svc, .string x.host, .string x.dem]
def Ev.zero : Ev := ⟨false, 0, 0, ⟨#[]⟩, ⟨#[]⟩⟩
theorem eqv (x y : Ev) : EqV Tryd.prog T.eid_Eid (ev5 x) (ev5 y) (decide (x = y)) := by
  rw [← eqB_dec]
  exact EqV.of (by unfold eqB; kernel_rfl)
theorem eqv' {x y : Ev} {a b : Value} (ha : a = ev5 x) (hb : b = ev5 y) : EqV Tryd.prog T.eid_Eid a b (decide (x = y)) := by subst ha hb; exact eqv x y
theorem chk (e : Bool) (a : Ev) (h : Heap) : rd Tryd.prog (Instr.checkKey e 10000 T.eid_Eid (ev5 a)) h = some () := by kernel_rfl
theorem under : (Tryd.prog.underlying T.eid_Eid).isSome = true := by kernel_rfl
theorem key : KeyOk Tryd.prog T.eid_Eid ev5 := ⟨eqv, chk, by
  obtain ⟨d, h⟩ := Option.isSome_iff_exists.1 under
  exact ⟨d, h, fun a b => .inl (by unfold ev5; cases d <;> rfl)⟩, fun a => by unfold ev5; simp [Instr.sameBits, ba_beq.2]⟩

/-! ### what it says -/
def pl (more c : UInt8) : Bool := (decide (97 ≤ c) && decide (c ≤ 122)) || (decide (48 ≤ c) && decide (c ≤ 57)) || c == 45 || c == more
def plainB (more : UInt8) (s : ByteArray) : Bool := s.data.toList.all (pl more)
def rightE (x : Ev) : Bool :=
  if x = .zero then true
  else if x.ipn = true then decide (x.host = ⟨#[]⟩ ∧ x.dem = ⟨#[]⟩ ∧ 1 ≤ x.node ∧ x.node ≤ 4294967295 ∧ x.svc ≤ 4294967295)
  else decide (x.node = 0 ∧ x.svc = 0 ∧ 1 ≤ x.host.size ∧ x.host.size ≤ 16 ∧ x.dem.size ≤ 24) && (plainB 45 x.host && plainB 47 x.dem)
def classE (x : Ev) : Int := if x = .zero then 0 else if x.ipn = true then 1 else 2
def bl (a b : ByteArray) : Bool := Op.bytesLess a.toList b.toList
def lessE (x y : Ev) : Bool :=
  if classE x ≠ classE y then decide (classE x < classE y)
  else if x.node ≠ y.node then decide (x.node < y.node)
  else if x.svc ≠ y.svc then decide (x.svc < y.svc)
  else if x.host ≠ y.host then bl x.host y.host
  else bl x.dem y.dem

/-! ### it is an order -/
theorem bytes_irrefl : ∀ a : List UInt8, Op.bytesLess a a = false
  | [] => rfl
  | a :: x => by unfold Op.bytesLess; simp [bytes_irrefl x]
theorem bytes_trans : ∀ {a b c : List UInt8}, Op.bytesLess a b = true → Op.bytesLess b c = true → Op.bytesLess a c = true
  | _, [], _, h, _ => by unfold Op.bytesLess at h; cases h
  | _, _ :: _, [], _, h => by unfold Op.bytesLess at h; cases h
  | [], b :: y, c :: z, _, _ => rfl
  | a :: x, b :: y, c :: z, h1, h2 => by
    unfold Op.bytesLess at h1 h2 ⊢
    simp only [Bool.or_eq_true, decide_eq_true_eq, Bool.and_eq_true, beq_iff_eq] at h1 h2 ⊢
    rcases h1 with h1 | ⟨rfl, h1⟩
    · rcases h2 with h2 | ⟨rfl, h2⟩
      · exact .inl (UInt8.lt_trans h1 h2)
      · exact .inl h1
    · rcases h2 with h2 | ⟨rfl, h2⟩
      · exact .inl h2
      · exact .inr ⟨rfl, bytes_trans h1 h2⟩
theorem bytes_total : ∀ {a b : List UInt8}, a ≠ b → Op.bytesLess a b = true ∨ Op.bytesLess b a = true
  | [], [], h => absurd rfl h
  | [], _ :: _, _ => .inl rfl
  | _ :: _, [], _ => .inr rfl
  | a :: x, b :: y, h => by
    unfold Op.bytesLess
    simp only [Bool.or_eq_true, decide_eq_true_eq, Bool.and_eq_true, beq_iff_eq]
    by_cases e : a = b
    · subst e
      rcases bytes_total (a := x) (b := y) (fun e => h (by rw [e])) with h1 | h1
      · exact .inl (.inr ⟨rfl, h1⟩)
      · exact .inr (.inr ⟨rfl, h1⟩)
    · rcases UInt8.lt_or_lt_of_ne e with h1 | h1
      · exact .inl (.inl h1)
      · exact .inr (.inl h1)
theorem bl_ne {a b : ByteArray} (h : a ≠ b) : bl a b = true ∨ bl b a = true := by
  refine bytes_total fun e => h ?_
  rw [toList_data, toList_data] at e
  cases a; cases b
  simp only [ByteArray.mk.injEq]
  exact Array.ext' e
theorem bl_trans {a b c : ByteArray} (h1 : bl a b = true) (h2 : bl b c = true) : bl a c = true := bytes_trans h1 h2
theorem bl_irrefl (a : ByteArray) : bl a a = false := bytes_irrefl _
/-- less, as cases -/
theorem less_iff {x y : Ev} : lessE x y = true ↔ classE x < classE y ∨ (classE x = classE y ∧ (x.node < y.node ∨ (x.node = y.node ∧ (x.svc < y.svc ∨ (x.svc = y.svc ∧ ((x.host ≠ y.host ∧ bl x.host y.host = true) ∨ (x.host = y.host ∧ bl x.dem y.dem = true))))))) := by
  unfold lessE
  by_cases h0 : classE x = classE y
  · rw [if_neg (by simpa using h0)]
    by_cases h1 : x.node = y.node
    · rw [if_neg (by simpa using h1)]
      by_cases h2 : x.svc = y.svc
      · rw [if_neg (by simpa using h2)]
        by_cases h3 : x.host = y.host
        · rw [if_neg (by simpa using h3)]; simp [h0, h1, h2, h3]
        · rw [if_pos h3]; simp [h0, h1, h2, h3]
      · rw [if_pos h2]; simp [h0, h1, h2]
    · rw [if_pos h1]; simp [h0, h1]
  · rw [if_pos h0]; simp [h0]
theorem less_irrefl (x : Ev) : lessE x x = false := by
  cases h : lessE x x
  · rfl
  · rw [less_iff] at h
    rcases h with h | ⟨_, h | ⟨_, h | ⟨_, ⟨h, _⟩ | ⟨_, h⟩⟩⟩⟩
    · omega
    · omega
    · omega
    · exact absurd rfl h
    · rw [bl_irrefl] at h; cases h
theorem less_trans {x y z : Ev} (h1 : lessE x y = true) (h2 : lessE y z = true) : lessE x z = true := by
  rw [less_iff] at h1 h2 ⊢
  rcases h1 with h1 | ⟨c1, h1⟩
  · rcases h2 with h2 | ⟨c2, _⟩
    · exact .inl (by omega)
    · exact .inl (by omega)
  rcases h2 with h2 | ⟨c2, h2⟩
  · exact .inl (by omega)
  refine .inr ⟨by omega, ?_⟩
  rcases h1 with h1 | ⟨n1, h1⟩
  · rcases h2 with h2 | ⟨n2, _⟩ <;> exact .inl (by omega)
  rcases h2 with h2 | ⟨n2, h2⟩
  · exact .inl (by omega)
  refine .inr ⟨by omega, ?_⟩
  rcases h1 with h1 | ⟨s1, h1⟩
  · rcases h2 with h2 | ⟨s2, _⟩ <;> exact .inl (by omega)
  rcases h2 with h2 | ⟨s2, h2⟩
  · exact .inl (by omega)
  refine .inr ⟨by omega, ?_⟩
  rcases h1 with ⟨e1, h1⟩ | ⟨e1, h1⟩
  · rcases h2 with ⟨e2, h2⟩ | ⟨e2, h2⟩
    · refine .inl ⟨fun e => ?_, bl_trans h1 h2⟩
      have := bl_trans h1 (e ▸ h2)
      rw [bl_irrefl] at this; cases this
    · exact .inl (by rw [← e2]; exact ⟨e1, h1⟩)
  · rcases h2 with ⟨e2, h2⟩ | ⟨e2, h2⟩
    · exact .inl (by rw [e1]; exact ⟨e2, h2⟩)
    · exact .inr ⟨e1.trans e2, bl_trans h1 h2⟩
theorem class_zero {x y : Ev} (h : classE x = classE y) (hx : x = .zero) : y = .zero := by
  unfold classE at h
  rw [if_pos hx] at h
  by_cases hy : y = .zero
  · exact hy
  · rw [if_neg hy] at h
    split at h <;> omega
theorem less_total {x y : Ev} (h : x ≠ y) : lessE x y = true ∨ lessE y x = true := by
  rw [less_iff, less_iff]
  by_cases h0 : classE x = classE y
  · by_cases h1 : x.node = y.node
    · by_cases h2 : x.svc = y.svc
      · by_cases h3 : x.host = y.host
        · have h4 : x.dem ≠ y.dem := fun e => by
            have hx0 : x ≠ .zero := fun e0 => h (e0.trans (class_zero h0 e0).symm)
            have hy0 : y ≠ .zero := fun e0 => h ((class_zero h0.symm e0).trans e0.symm)
            unfold classE at h0
            rw [if_neg hx0, if_neg hy0] at h0
            have hi : x.ipn = y.ipn := by
              cases ex : x.ipn <;> cases ey : y.ipn <;> simp [ex, ey] at h0 ⊢
            exact h (Ev.ext' hi h1 h2 h3 e)
          rcases bl_ne h4 with h5 | h5
          · exact .inl (.inr ⟨h0, .inr ⟨h1, .inr ⟨h2, .inr ⟨h3, h5⟩⟩⟩⟩)
          · exact .inr (.inr ⟨h0.symm, .inr ⟨h1.symm, .inr ⟨h2.symm, .inr ⟨h3.symm, h5⟩⟩⟩⟩)
        · rcases bl_ne h3 with h5 | h5
          · exact .inl (.inr ⟨h0, .inr ⟨h1, .inr ⟨h2, .inl ⟨h3, h5⟩⟩⟩⟩)
          · exact .inr (.inr ⟨h0.symm, .inr ⟨h1.symm, .inr ⟨h2.symm, .inl ⟨Ne.symm h3, h5⟩⟩⟩⟩)
      · rcases Int.lt_or_gt_of_ne h2 with h5 | h5
        · exact .inl (.inr ⟨h0, .inr ⟨h1, .inl h5⟩⟩)
        · exact .inr (.inr ⟨h0.symm, .inr ⟨h1.symm, .inl h5⟩⟩)
    · rcases Int.lt_or_gt_of_ne h1 with h5 | h5
      · exact .inl (.inr ⟨h0, .inl h5⟩)
      · exact .inr (.inr ⟨h0.symm, .inl h5⟩)
  · rcases Int.lt_or_gt_of_ne h0 with h5 | h5
    · exact .inl (.inl h5)
    · exact .inr (.inl h5)

/-! ### the calls -/
variable {h : Heap} {R : Value → Heap → Prop}
theorem get_at {s : ByteArray} {i : Nat} (hi : i < s.size) : s.get! i = s.data.toList.getD i 0 := by
  have : i < s.data.size := hi
  show s.data[i]! = _
  have e : s.data.toList[i]? = some s.data[i] := by rw [Array.getElem?_toList]; exact Array.getElem?_eq_getElem this
  rw [getElem!_pos s.data i this, List.getD_eq_getElem?_getD, e]
  rfl
theorem decode_at (s : ByteArray) (i : Nat) (hi : i < s.size) : (s.data.toList.getD i 0 < 128 → Utf8.decode s i = ((s.data.toList.getD i 0).toNat, 1)) ∧ (¬ s.data.toList.getD i 0 < 128 → 128 ≤ (Utf8.decode s i).1) := by
  have e := get_at hi
  have e0 : (s.get! (i + 0)).toNat = (s.data.toList.getD i 0).toNat := by rw [Nat.add_zero, e]
  constructor
  · intro h
    have h : (s.data.toList.getD i 0).toNat < 128 := h
    unfold Utf8.decode
    simp only [e0]
    rw [if_pos h]
  · intro h
    have h : ¬ (s.data.toList.getD i 0).toNat < 128 := h
    unfold Utf8.decode
    simp only [e0]
    rw [if_neg h]
    split
    · split
      · omega
      · show 128 ≤ Utf8.runeError; decide
    · split
      · split
        · rename_i hc; simp only [Bool.and_eq_true, decide_eq_true_eq] at hc; show 128 ≤ _; omega
        · show 128 ≤ Utf8.runeError; decide
      · split
        · split
          · rename_i hc; simp only [Bool.and_eq_true, decide_eq_true_eq] at hc; show 128 ≤ _; omega
          · show 128 ≤ Utf8.runeError; decide
        · show 128 ≤ Utf8.runeError; decide
/-- is a character none of those? -/
def np (more : Int) (c : Int) : Bool := (decide (c < 97) || decide (c > 122)) && ((decide (c < 48) || decide (c > 57)) && ((c != 45) && (c != more)))
theorem np_big {more c : Int} (hm : more < 128) (h : 128 ≤ c) : np more c = true := by
  unfold np
  have h1 : c > 122 := by omega
  have h2 : c > 57 := by omega
  have h3 : c ≠ 45 := by omega
  have h4 : c ≠ more := by omega
  simp [h1, h2, h3, h4]
theorem np_pl (more : UInt8) (b : UInt8) : np (more.toNat : Int) (b.toNat : Int) = !pl more b := by
  have e1 : (b = 45) ↔ ((b.toNat : Int) = 45) := by
    constructor
    · rintro rfl; rfl
    · intro e; exact UInt8.toNat_inj.1 (by show b.toNat = 45; omega)
  have e2 : (b = more) ↔ ((b.toNat : Int) = (more.toNat : Int)) := by
    constructor
    · rintro rfl; rfl
    · intro e; exact UInt8.toNat_inj.1 (by omega)
  have e3 : (97 ≤ b) ↔ ¬ ((b.toNat : Int) < 97) := by rw [UInt8.le_iff_toNat_le]; show 97 ≤ b.toNat ↔ _; omega
  have e4 : (b ≤ 122) ↔ ¬ ((b.toNat : Int) > 122) := by rw [UInt8.le_iff_toNat_le]; show b.toNat ≤ 122 ↔ _; omega
  have e5 : (48 ≤ b) ↔ ¬ ((b.toNat : Int) < 48) := by rw [UInt8.le_iff_toNat_le]; show 48 ≤ b.toNat ↔ _; omega
  have e6 : (b ≤ 57) ↔ ¬ ((b.toNat : Int) > 57) := by rw [UInt8.le_iff_toNat_le]; show b.toNat ≤ 57 ↔ _; omega
  unfold np pl
  have e7 : (b == 45) = decide ((b.toNat : Int) = 45) := by by_cases q : b = 45 <;> simp [q, e1.symm]
  have e8 : (b == more) = decide ((b.toNat : Int) = (more.toNat : Int)) := by
    by_cases q : b = more
    · simp [q]
    · have : ¬ ((b.toNat : Int) = (more.toNat : Int)) := fun e => q (e2.2 e)
      rw [decide_eq_false this]; simp [q]
  rw [e7, e8]
  simp only [e3, e4, e5, e6]
  by_cases q1 : (b.toNat : Int) < 97 <;> by_cases q2 : (b.toNat : Int) > 122 <;> by_cases q3 : (b.toNat : Int) < 48 <;> by_cases q4 : (b.toNat : Int) > 57 <;> by_cases q5 : (b.toNat : Int) = 45 <;> by_cases q6 : (b.toNat : Int) = (more.toNat : Int) <;> simp [q1, q2, q3, q4, q5, q6]
end Eid
end Go.Proofs.YtgccegnmggjkjaaDoor
