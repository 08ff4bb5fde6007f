/-
  What is proved here: plain facts on numbers, truths and texts that are written and read. No program in sight. No condition.
-/
import Derived.Test.YtgccegnmggjkjaaDoorNums
set_option maxRecDepth 100000
namespace Go.Fields

/-- a whole number as it is written -/
def natOf (n : Int) : Nat := n.toNat
def bit (b : Bool) : Nat := if b = true then 1 else 0
def encText (t : List UInt8) : List UInt8 := encNum t.length ++ t
/-- what a fault becomes -/
def failE (e e' : Int) : Int := if e = 0 then e' else e
/-- a number that is at most another one -/
def readMost (top : Nat) (e : Int) (bs : List UInt8) : Nat × Int × List UInt8 :=
  if (readNum e bs).1 > top then (0, failE (readNum e bs).2.1 3, (readNum e bs).2.2) else readNum e bs
theorem readMost_le (top : Nat) (e : Int) (bs : List UInt8) : (readMost top e bs).1 ≤ top := by
  unfold readMost
  split
  · exact Nat.zero_le _
  · rename_i h; exact Nat.le_of_not_lt h
def readInt (e : Int) (bs : List UInt8) : Nat × Int × List UInt8 := readMost 1099511627776 e bs
/-- a text is read -/
def readText (e : Int) (bs : List UInt8) : List UInt8 × Int × List UInt8 :=
  if (readNum e bs).2.1 = 0 then
    (if (readNum e bs).1 > (readNum e bs).2.2.length then ([], 8, (readNum e bs).2.2)
    else ((readNum e bs).2.2.take (readNum e bs).1, 0, (readNum e bs).2.2.drop (readNum e bs).1))
  else ([], (readNum e bs).2.1, (readNum e bs).2.2)
/-- the end -/
def readEnd (e : Int) (bs : List UInt8) : Int := if e = 0 then (if bs = [] then 0 else 2) else e
/-- a number that is at most another one, as the document reads it -/
def readMost' (top : Nat) (e : Int) (bs : List UInt8) : Nat × Int × List UInt8 :=
  if (readNum e bs).1 > top then (0, 3, (readNum e bs).2.2) else readNum e bs
theorem readNum_err {e : Int} (he : e ≠ 0) (bs : List UInt8) : readNum e bs = (0, e, bs) := by unfold readNum; rw [if_neg he]
theorem readMost_enc {top n : Nat} (hn : n ≤ top) (ht : top < 18446744073709551616) (y : List UInt8) : readMost top 0 (encNum n ++ y) = (n, 0, y) := by
  unfold readMost
  rw [readNum_enc (by omega)]
  rw [if_neg (by show ¬ n > top; omega)]
theorem readMost_cut {top n k : Nat} (hn : n ≤ top) (ht : top < 18446744073709551616) (hk : k < (encNum n).length) : (readMost top 0 ((encNum n).take k)).2.1 = 8 := by
  unfold readMost
  rw [readNum_cut (by omega) hk]
  rw [if_neg (by show ¬ 0 > top; omega)]
theorem readMost_err {top : Nat} {e : Int} (he : e ≠ 0) (bs : List UInt8) : readMost top e bs = (0, e, bs) := by
  unfold readMost
  rw [readNum_err he, if_neg (by show ¬ 0 > top; omega)]
theorem readText_enc {t : List UInt8} (ht : t.length < 18446744073709551616) (y : List UInt8) : readText 0 (encText t ++ y) = (t, 0, y) := by
  unfold readText encText
  rw [List.append_assoc, readNum_enc ht]
  dsimp only
  rw [if_pos rfl, if_neg (by rw [List.length_append]; omega)]
  simp
theorem readText_err {e : Int} (he : e ≠ 0) (bs : List UInt8) : readText e bs = ([], e, bs) := by
  unfold readText
  rw [readNum_err he]
  dsimp only
  rw [if_neg he]
theorem readText_cut {t : List UInt8} {k : Nat} (ht : t.length < 18446744073709551616) (hk : k < (encText t).length) : (readText 0 ((encText t).take k)).2.1 = 8 := by
  unfold readText encText
  by_cases h1 : k < (encNum t.length).length
  · rw [List.take_append_of_le_length (by omega), readNum_cut ht h1]
    rfl
  · unfold encText at hk
    rw [List.length_append] at hk
    rw [List.take_append, List.take_of_length_le (by omega), readNum_enc ht]
    dsimp only
    rw [if_pos rfl, if_pos (by rw [List.length_take]; omega)]
theorem bit_le (b : Bool) : bit b ≤ 1 := by unfold bit; split <;> omega
theorem readNum_len (e : Int) (bs : List UInt8) : (readNum e bs).2.2.length ≤ bs.length := by
  unfold readNum; split
  · exact rdN_len bs 0 0
  · exact Nat.le_refl _
theorem readMost_len (top : Nat) (e : Int) (bs : List UInt8) : (readMost top e bs).2.2.length ≤ bs.length := by
  unfold readMost; split <;> exact readNum_len e bs
theorem readText_len (e : Int) (bs : List UInt8) : (readText e bs).2.2.length ≤ bs.length ∧ (readText e bs).1.length ≤ bs.length := by
  have := readNum_len e bs
  unfold readText
  split
  · split
    · exact ⟨this, by simp⟩
    · refine ⟨by rw [List.length_drop]; omega, by rw [List.length_take]; omega⟩
  · exact ⟨this, by simp⟩
end Go.Fields
