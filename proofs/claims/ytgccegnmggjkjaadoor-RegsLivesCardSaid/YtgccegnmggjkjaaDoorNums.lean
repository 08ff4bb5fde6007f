/-
  What is proved here: plain facts on numbers written with seven bits a byte, there and back. No program in sight. No condition.
-/
import Derived.Test.YtgccegnmggjkjaaDoorBytes
set_option maxRecDepth 100000
namespace Go.Fields

/-- a number's bytes; so many at most, and one -/
def encN : Nat → Nat → List UInt8
  | 0, n => [UInt8.ofNat n]
  | f + 1, n => if n > 127 then UInt8.ofNat (n % 128 + 128) :: encN f (n / 128) else [UInt8.ofNat n]
def encNum (n : Nat) : List UInt8 := encN 9 n
theorem encN_mono : ∀ (f n : Nat), n < 128 ^ (f + 1) → encN (f + 1) n = encN f n
  | 0, n, h => by
    unfold encN
    rw [if_neg (by omega)]
  | f + 1, n, h => by
    rw [show encN (f + 1 + 1) n = if n > 127 then UInt8.ofNat (n % 128 + 128) :: encN (f + 1) (n / 128) else [UInt8.ofNat n] from rfl,
      show encN (f + 1) n = if n > 127 then UInt8.ofNat (n % 128 + 128) :: encN f (n / 128) else [UInt8.ofNat n] from rfl]
    split
    · rw [encN_mono f (n / 128) (by rw [Nat.pow_succ] at h; omega)]
    · rfl
theorem encNum_step {n : Nat} (h : n < 18446744073709551616) : encNum n = if n > 127 then UInt8.ofNat (n % 128 + 128) :: encNum (n / 128) else [UInt8.ofNat n] := by
  unfold encNum
  rw [encN]
  split
  · rw [← encN_mono 8 (n / 128) (by omega)]
  · rfl
theorem encN_len : ∀ (f n : Nat), 1 ≤ (encN f n).length ∧ (encN f n).length ≤ f + 1
  | 0, n => by simp [encN]
  | f + 1, n => by
    have := encN_len f (n / 128)
    rw [encN]; split
    · simp only [List.length_cons]; omega
    · simp
theorem encNum_len (n : Nat) : 1 ≤ (encNum n).length ∧ (encNum n).length ≤ 10 := encN_len 9 n
/-- how many bytes -/
def sizeN : Nat → Nat → Nat
  | 0, _ => 1
  | f + 1, n => if n > 127 then sizeN f (n / 128) + 1 else 1
theorem encN_size : ∀ (f n : Nat), (encN f n).length = sizeN f n
  | 0, n => rfl
  | f + 1, n => by
    rw [encN, sizeN]; split
    · rw [List.length_cons, encN_size]
    · rfl
theorem sizeN_mono : ∀ (f n m : Nat), n ≤ m → sizeN f n ≤ sizeN f m
  | 0, _, _, _ => Nat.le_refl _
  | f + 1, n, m, h => by
    rw [sizeN, sizeN]
    have := sizeN_mono f (n / 128) (m / 128) (Nat.div_le_div_right h)
    split
    · rw [if_pos (by omega)]; omega
    · split <;> omega

/-- a number is read: what it is, the fault, what is left -/
def rdN : Nat → Nat → List UInt8 → Nat × Int × List UInt8
  | _, _, [] => (0, 8, [])
  | i, n, c :: bs =>
    if i = 10 ∨ (i = 9 ∧ c.toNat > 1) ∨ (c.toNat = 0 ∧ i > 0) then (0, 3, bs)
    else if c.toNat < 128 then (n + c.toNat % 128 * 2 ^ (7 * i), 0, bs)
    else rdN (i + 1) (n + c.toNat % 128 * 2 ^ (7 * i)) bs
def readNum (e : Int) (bs : List UInt8) : Nat × Int × List UInt8 := if e = 0 then rdN 0 0 bs else (0, e, bs)

theorem rdN_lt : ∀ (bs : List UInt8) (i n : Nat), i ≤ 10 → n < 2 ^ (7 * i) → n < 18446744073709551616 → (rdN i n bs).1 < 18446744073709551616
  | [], _, _, _, _, _ => by simp [rdN]
  | c :: bs, i, n, hi, hn, hn2 => by
    rw [rdN]
    split
    · simp
    · rename_i hno
      have hc : c.toNat % 128 < 128 := Nat.mod_lt _ (by omega)
      have hsum : n + c.toNat % 128 * 2 ^ (7 * i) < 18446744073709551616 ∧ n + c.toNat % 128 * 2 ^ (7 * i) < 2 ^ (7 * (i + 1)) := by
        have hp : (2 : Nat) ^ (7 * (i + 1)) = 128 * 2 ^ (7 * i) := by rw [Nat.mul_add, Nat.pow_add, Nat.mul_comm]
        have h1 : (c.toNat % 128 + 1) * 2 ^ (7 * i) ≤ 128 * 2 ^ (7 * i) := Nat.mul_le_mul_right _ (by omega)
        rw [Nat.add_mul] at h1
        refine ⟨?_, by omega⟩
        by_cases h9 : i = 9
        · subst h9
          have : c.toNat ≤ 1 := by omega
          have : c.toNat % 128 ≤ 1 := by omega
          omega
        · have : (2 : Nat) ^ (7 * (i + 1)) ≤ 2 ^ 63 := Nat.pow_le_pow_right (by omega) (by omega)
          omega
      split
      · exact hsum.1
      · exact rdN_lt bs (i + 1) _ (by omega) hsum.2 hsum.1
theorem readNum_lt (e : Int) (bs : List UInt8) : (readNum e bs).1 < 18446744073709551616 := by
  unfold readNum
  split
  · exact rdN_lt bs 0 0 (by omega) (by simp) (by omega)
  · simp
theorem rdN_len : ∀ (bs : List UInt8) (i n : Nat), (rdN i n bs).2.2.length ≤ bs.length
  | [], _, _ => by simp [rdN]
  | c :: bs, i, n => by
    rw [rdN]
    split
    · simp
    · split
      · simp
      · have := rdN_len bs (i + 1) (n + c.toNat % 128 * 2 ^ (7 * i)); simp only [List.length_cons]; omega

/-- there and back -/
theorem rdN_enc : ∀ (f n i acc : Nat) (rest : List UInt8), i + f = 9 → n * 2 ^ (7 * i) < 18446744073709551616 → (n = 0 → i = 0) → rdN i acc (encN f n ++ rest) = (acc + n * 2 ^ (7 * i), 0, rest)
  | 0, n, i, acc, rest, hf, hn, h0 => by
    have hi : i = 9 := by omega
    subst hi
    have hn2 : n < 2 := by
      have : n * 2 ^ 63 < 2 * 2 ^ 63 := hn
      exact Nat.lt_of_mul_lt_mul_right this
    have hne : n ≠ 0 := fun e => by have := h0 e; omega
    obtain rfl : n = 1 := by omega
    simp [encN, rdN]
  | f + 1, n, i, acc, rest, hf, hn, h0 => by
    have hp : (2 : Nat) ^ (7 * (i + 1)) = 128 * 2 ^ (7 * i) := by rw [Nat.mul_add, Nat.pow_add, Nat.mul_comm]
    have hn' : n < 18446744073709551616 := by
      have : n * 1 ≤ n * 2 ^ (7 * i) := Nat.mul_le_mul_left _ (Nat.two_pow_pos _)
      omega
    rw [encN]
    split
    · rename_i hgt
      rw [List.cons_append, rdN]
      have hc : (UInt8.ofNat (n % 128 + 128)).toNat = n % 128 + 128 := by rw [UInt8.toNat_ofNat']; omega
      rw [hc, if_neg (by omega), if_neg (by omega)]
      have e1 : (n % 128 + 128) % 128 = n % 128 := by omega
      have hdm : n = 128 * (n / 128) + n % 128 := (Nat.div_add_mod n 128).symm
      rw [rdN_enc f (n / 128) (i + 1) _ rest (by omega) ?_ (fun e => by omega), e1]
      · refine Prod.ext ?_ rfl
        simp only
        rw [hp]
        have : n / 128 * (128 * 2 ^ (7 * i)) = (128 * (n / 128)) * 2 ^ (7 * i) := by rw [Nat.mul_comm 128 (n / 128), Nat.mul_assoc]
        rw [this, Nat.add_assoc, ← Nat.add_mul, Nat.add_comm (n % 128), ← hdm]
      · rw [hp]
        have : n / 128 * (128 * 2 ^ (7 * i)) = (128 * (n / 128)) * 2 ^ (7 * i) := by rw [Nat.mul_comm 128 (n / 128), Nat.mul_assoc]
        rw [this]
        refine Nat.lt_of_le_of_lt (Nat.mul_le_mul_right _ ?_) hn
        omega
    · rename_i hle
      rw [List.cons_append, List.nil_append, rdN]
      have hc : (UInt8.ofNat n).toNat = n := by rw [UInt8.toNat_ofNat']; omega
      rw [hc, if_neg (by omega), if_pos (by omega), Nat.mod_eq_of_lt (by omega)]
theorem readNum_enc {n : Nat} (hn : n < 18446744073709551616) (rest : List UInt8) : readNum 0 (encNum n ++ rest) = (n, 0, rest) := by
  unfold readNum encNum
  rw [if_pos rfl, rdN_enc 9 n 0 0 rest (by omega) (by simpa using hn) (fun _ => rfl)]
  simp
theorem encNum_inj {n m : Nat} (hn : n < 18446744073709551616) (hm : m < 18446744073709551616) (h : encNum n = encNum m) : n = m := by
  have h1 := readNum_enc hn []
  have h2 := readNum_enc hm []
  rw [h, h2] at h1
  exact (congrArg Prod.fst h1).symm
/-- cut, it is too short -/
theorem rdN_cut : ∀ (f n i acc k : Nat), i + f = 9 → n < 18446744073709551616 → (n * 2 ^ (7 * i) < 18446744073709551616) → k < (encN f n).length → rdN i acc ((encN f n).take k) = (0, 8, [])
  | f, n, i, acc, 0, _, _, _, _ => by simp [rdN]
  | 0, n, i, acc, k + 1, _, _, _, hk => by simp [encN] at hk
  | f + 1, n, i, acc, k + 1, hf, hn, hn2, hk => by
    rw [encN] at hk ⊢
    split at hk
    · rename_i hgt
      rw [if_pos hgt, List.take_succ_cons, rdN]
      have hc : (UInt8.ofNat (n % 128 + 128)).toNat = n % 128 + 128 := by rw [UInt8.toNat_ofNat']; omega
      have hp : (2 : Nat) ^ (7 * (i + 1)) = 128 * 2 ^ (7 * i) := by rw [Nat.mul_add, Nat.pow_add, Nat.mul_comm]
      rw [hc, if_neg (by omega), if_neg (by omega)]
      refine rdN_cut f (n / 128) (i + 1) _ k (by omega) (by omega) ?_ (by simpa using hk)
      rw [hp]
      have : n / 128 * (128 * 2 ^ (7 * i)) = (128 * (n / 128)) * 2 ^ (7 * i) := by rw [Nat.mul_comm 128 (n / 128), Nat.mul_assoc]
      rw [this]
      refine Nat.lt_of_le_of_lt (Nat.mul_le_mul_right _ ?_) hn2
      omega
    · simp at hk
theorem readNum_cut {n k : Nat} (hn : n < 18446744073709551616) (hk : k < (encNum n).length) : readNum 0 ((encNum n).take k) = (0, 8, []) := by
  unfold readNum encNum at *
  rw [if_pos rfl]
  exact rdN_cut 9 n 0 0 k (by omega) hn (by simpa using hn) hk
end Go.Fields
