/-
  What is proved here: plain facts on bytes that are read in one way alone; replies as data, there and back. No program in sight. No condition.
-/
import Derived.Test.YtopoaalbfdblnaaBack
namespace Go.Fields

/-! ### a number is read in one way alone -/
theorem rdN_canon : ∀ (bs : List UInt8) (i acc f n : Nat) (rest : List UInt8), i + f = 9 → rdN i acc bs = (n, 0, rest) → ∃ v, n = acc + v * 2 ^ (7 * i) ∧ bs = encN f v ++ rest ∧ (v = 0 → i = 0)
  | [], i, acc, f, n, rest, _, h => by
    rw [rdN] at h
    have := congrArg (fun x => x.2.1) h
    simp at this
  | c :: bs, i, acc, f, n, rest, hf, h => by
    rw [rdN] at h
    split at h
    · have := congrArg (fun x => x.2.1) h
      simp at this
    · rename_i hno
      have hc := c.toNat_lt
      split at h
      · rename_i hlt
        have h1 := congrArg (fun x => x.1) h
        have h2 := congrArg (fun x => x.2.2) h
        simp only at h1 h2
        subst h2
        refine ⟨c.toNat, ?_, ?_, fun e => by omega⟩
        · rw [← h1, Nat.mod_eq_of_lt hlt]
        · have e1 : encN f c.toNat = [c] := by
            cases f with
            | zero => simp [encN]
            | succ f => rw [encN, if_neg (by omega)]; simp
          rw [e1]; rfl
      · rename_i hge
        have h9 : i ≠ 9 := fun e => by omega
        obtain ⟨f', rfl⟩ : ∃ f', f = f' + 1 := ⟨f - 1, by omega⟩
        obtain ⟨v, hv1, hv2, hv3⟩ := rdN_canon bs (i + 1) _ f' n rest (by omega) h
        have hv0 : v ≠ 0 := fun e => by have := hv3 e; omega
        refine ⟨c.toNat % 128 + 128 * v, ?_, ?_, fun e => by omega⟩
        · have hp : (2 : Nat) ^ (7 * (i + 1)) = 128 * 2 ^ (7 * i) := by rw [Nat.mul_add, Nat.pow_add, Nat.mul_comm]
          rw [hv1, hp, Nat.add_mul]
          have : v * (128 * 2 ^ (7 * i)) = 128 * v * 2 ^ (7 * i) := by rw [← Nat.mul_assoc, Nat.mul_comm v 128]
          omega
        · rw [encN, if_pos (by omega)]
          have e1 : (c.toNat % 128 + 128 * v) % 128 + 128 = c.toNat := by omega
          have e2 : (c.toNat % 128 + 128 * v) / 128 = v := by omega
          rw [e1, e2, hv2]
          simp
theorem readNum_canon {bs rest : List UInt8} {n : Nat} (h : readNum 0 bs = (n, 0, rest)) : bs = encNum n ++ rest := by
  unfold readNum at h
  rw [if_pos rfl] at h
  obtain ⟨v, h1, h2, _⟩ := rdN_canon bs 0 0 9 n rest (by omega) h
  have : n = v := by simpa using h1
  subst this
  exact h2
theorem readMost_canon {top : Nat} {bs rest : List UInt8} {n : Nat} (h : readMost top 0 bs = (n, 0, rest)) : bs = encNum n ++ rest ∧ n ≤ top := by
  unfold readMost at h
  split at h
  · have := congrArg (fun x => x.2.1) h
    simp only [failE] at this
    split at this
    · simp at this
    · rename_i h1; exact absurd this h1
  · rename_i hle
    rw [h] at hle
    exact ⟨readNum_canon h, by simpa using hle⟩
theorem readText_canon {bs rest t : List UInt8} (h : readText 0 bs = (t, 0, rest)) : bs = encText t ++ rest := by
  unfold readText at h
  generalize hN : readNum 0 bs = N at h
  obtain ⟨n, e, r⟩ := N
  dsimp only at h
  split at h
  · rename_i he
    subst he
    split at h
    · have := congrArg (fun x => x.2.1) h
      simp at this
    · rename_i hle
      have h1 := congrArg (fun x => x.1) h
      have h2 := congrArg (fun x => x.2.2) h
      simp only at h1 h2
      rw [readNum_canon hN, ← h1, ← h2]
      unfold encText
      rw [List.length_take, Nat.min_eq_left (by omega), List.append_assoc, List.take_append_drop]
  · rename_i he
    have := congrArg (fun x => x.2.1) h
    exact absurd this he
/-- a fault stays -/
theorem readNum_fault (e : Int) (bs : List UInt8) (he : e ≠ 0) : (readNum e bs).2.1 = e := by rw [readNum_err he]
theorem readMost_fault (top : Nat) (e : Int) (bs : List UInt8) (he : e ≠ 0) : (readMost top e bs).2.1 = e := by rw [readMost_err he]
theorem readText_fault (e : Int) (bs : List UInt8) (he : e ≠ 0) : (readText e bs).2.1 = e := by rw [readText_err he]

/-! ### replies -/
structure RD where
  id : Nat
  err : Int
  num : Int
  count : Int
  token : Nat
  b : List UInt8
def RD.zero : RD := ⟨0, 0, 0, 0, 0, []⟩
/-- a reply may be -/
def RD.Right (x : RD) : Prop := x.id ≤ 1099511627776 ∧ (0 ≤ x.err ∧ x.err ≤ 99) ∧ (0 ≤ x.num ∧ x.num ≤ 1099511627776) ∧ (0 ≤ x.count ∧ x.count ≤ 1099511627776) ∧ x.token ≤ 2147483648 ∧ x.b.length ≤ 600 ∧ (x.err ≠ 0 → x.num = 0 ∧ x.count = 0 ∧ x.token = 0 ∧ x.b = [])
instance (x : RD) : Decidable x.Right := by unfold RD.Right; infer_instance
def RD.same (x y : RD) : Prop := x.id = y.id ∧ x.err = y.err ∧ x.num = y.num ∧ x.count = y.count ∧ x.token = y.token ∧ x.b = y.b
instance (x y : RD) : Decidable (x.same y) := by unfold RD.same; infer_instance
theorem RD.same_iff {x y : RD} : x.same y ↔ x = y := by
  cases x; cases y; simp [RD.same]
def RD.enc (x : RD) : List UInt8 := encNum x.id ++ encNum (natOf x.err) ++ encNum (natOf x.num) ++ encNum (natOf x.count) ++ encNum x.token ++ encText x.b
/-- what is read, one behind the other -/
structure RdS where
  x : RD
  e : Int
  rest : List UInt8
def rdR (top : Nat) (mo : Nat → Int → List UInt8 → Nat × Int × List UInt8) (bs : List UInt8) : RdS :=
  let a := readNum 0 bs
  let b := mo top a.2.1 a.2.2
  let c := mo 1099511627776 b.2.1 b.2.2
  let d := mo 1099511627776 c.2.1 c.2.2
  let f := readNum d.2.1 d.2.2
  let g := readText f.2.1 f.2.2
  ⟨⟨a.1, (b.1 : Int), (c.1 : Int), (d.1 : Int), f.1, g.1⟩, g.2.1, g.2.2⟩
/-- the reply of bytes -/
def fromR (s : RdS) : Option RD := if readEnd s.e s.rest = 0 ∧ s.x.Right then some s.x else none
def decR (bs : List UInt8) : Option RD := fromR (rdR 1099511627776 readMost bs)
theorem readEnd_zero {e : Int} {bs : List UInt8} : readEnd e bs = 0 ↔ e = 0 ∧ bs = [] := by
  unfold readEnd
  by_cases h : e = 0
  · rw [if_pos h]
    by_cases hb : bs = []
    · simp [h, hb]
    · simp [h, hb]
  · rw [if_neg h]; simp [h]
theorem decR_some {bs : List UInt8} {x : RD} (h : decR bs = some x) : x.Right ∧ x.enc = bs := by
  unfold decR fromR at h
  split at h
  · rename_i hh
    obtain ⟨he, hr⟩ := hh
    obtain rfl := Option.some.inj h
    refine ⟨hr, ?_⟩
    obtain ⟨he, hrest⟩ := readEnd_zero.1 he
    clear h hr
    unfold rdR at *
    dsimp only at *
    generalize hA : readNum 0 bs = A at *
    obtain ⟨a, ae, ar⟩ := A
    dsimp only at *
    generalize hB : readMost 1099511627776 ae ar = B at *
    obtain ⟨b, be, br⟩ := B
    dsimp only at *
    generalize hC : readMost 1099511627776 be br = C at *
    obtain ⟨c, ce, cr⟩ := C
    dsimp only at *
    generalize hD : readMost 1099511627776 ce cr = D at *
    obtain ⟨d, de, dr⟩ := D
    dsimp only at *
    generalize hF : readNum de dr = F at *
    obtain ⟨f, fe, fr⟩ := F
    dsimp only at *
    generalize hG : readText fe fr = G at *
    obtain ⟨g, ge, gr⟩ := G
    dsimp only at *
    subst he hrest
    have fe0 : fe = 0 := Decidable.byContradiction fun hn => hn (by have := readText_fault fe fr hn; rw [hG] at this; exact this.symm)
    subst fe0
    have de0 : de = 0 := Decidable.byContradiction fun hn => hn (by have := readNum_fault de dr hn; rw [hF] at this; exact this.symm)
    subst de0
    have ce0 : ce = 0 := Decidable.byContradiction fun hn => hn (by have := readMost_fault 1099511627776 ce cr hn; rw [hD] at this; exact this.symm)
    subst ce0
    have be0 : be = 0 := Decidable.byContradiction fun hn => hn (by have := readMost_fault 1099511627776 be br hn; rw [hC] at this; exact this.symm)
    subst be0
    have ae0 : ae = 0 := Decidable.byContradiction fun hn => hn (by have := readMost_fault 1099511627776 ae ar hn; rw [hB] at this; exact this.symm)
    subst ae0
    have e1 := readNum_canon hA
    have e2 := (readMost_canon hB).1
    have e3 := (readMost_canon hC).1
    have e4 := (readMost_canon hD).1
    have e5 := readNum_canon hF
    have e6 := readText_canon hG
    unfold RD.enc
    dsimp only
    rw [e1, e2, e3, e4, e5, e6]
    simp [natOf, List.append_assoc]
  · cases h
theorem decR_enc {x : RD} (hr : x.Right) : decR x.enc = some x := by
  obtain ⟨h1, ⟨h2, h2'⟩, ⟨h3, h3'⟩, ⟨h4, h4'⟩, h5, h6, _⟩ := id hr
  have key : rdR 1099511627776 readMost x.enc = ⟨x, 0, []⟩ := by
    unfold rdR RD.enc
    have e2 : natOf x.err ≤ 1099511627776 := by unfold natOf; omega
    have e3 : natOf x.num ≤ 1099511627776 := by unfold natOf; omega
    have e4 : natOf x.count ≤ 1099511627776 := by unfold natOf; omega
    simp only [List.append_assoc]
    rw [readNum_enc (by omega)]
    dsimp only
    rw [readMost_enc e2 (by omega)]
    dsimp only
    rw [readMost_enc e3 (by omega)]
    dsimp only
    rw [readMost_enc e4 (by omega)]
    dsimp only
    rw [readNum_enc (by omega)]
    dsimp only
    have := readText_enc (t := x.b) (by omega) []
    rw [List.append_nil] at this
    rw [this]
    cases x
    unfold natOf at *
    simp only [RdS.mk.injEq, RD.mk.injEq, and_true, true_and] at *
    omega
  unfold decR fromR
  rw [key]
  simp [hr, readEnd]
theorem enc_len {x : RD} (hb : x.b.length ≤ 600) : x.enc.length ≤ 700 := by
  have a1 := (encNum_len x.id).2
  have a2 := (encNum_len (natOf x.err)).2
  have a3 := (encNum_len (natOf x.num)).2
  have a4 := (encNum_len (natOf x.count)).2
  have a5 := (encNum_len x.token).2
  have a6 := (encNum_len x.b.length).2
  unfold RD.enc encText
  simp only [List.length_append]
  omega
/-- two beginnings of one row of bytes, read as replies, are one -/
theorem dec_cut {x : RD} (hr : x.Right) {k : Nat} (hk : k < x.enc.length) : decR (x.enc.take k) = none := by
  cases hd : decR (x.enc.take k) with
  | none => rfl
  | some y =>
    exfalso
    obtain ⟨hy, he⟩ := decR_some hd
    -- what is read of the whole is what is read of the part
    obtain ⟨h1, ⟨h2, h2'⟩, ⟨h3, h3'⟩, ⟨h4, h4'⟩, h5, h6, _⟩ := hr
    obtain ⟨g1, ⟨g2, g2'⟩, ⟨g3, g3'⟩, ⟨g4, g4'⟩, g5, g6, _⟩ := hy
    have hx : x.enc = y.enc ++ x.enc.drop k := by rw [he, List.take_append_drop]
    have hne : x.enc.drop k ≠ [] := fun e => by have := congrArg List.length e; rw [List.length_drop, List.length_nil] at this; omega
    generalize x.enc.drop k = z at *
    unfold RD.enc at hx
    simp only [List.append_assoc] at hx
    have n1 : ∀ {a b : Nat} {s t : List UInt8}, a < 18446744073709551616 → b < 18446744073709551616 → encNum a ++ s = encNum b ++ t → a = b ∧ s = t := by
      intro a b s t ha hb hab
      have q1 := readNum_enc ha s
      rw [hab, readNum_enc hb] at q1
      have := congrArg (fun x => x.1) q1
      have := congrArg (fun x => x.2.2) q1
      simp_all
    have w : ∀ {i : Int}, i ≤ 1099511627776 → natOf i < 18446744073709551616 := fun hi => by unfold natOf; omega
    obtain ⟨_, hx⟩ := n1 (by omega) (by omega) hx
    obtain ⟨_, hx⟩ := n1 (w (by omega)) (w (by omega)) hx
    obtain ⟨_, hx⟩ := n1 (w h3') (w g3') hx
    obtain ⟨_, hx⟩ := n1 (w h4') (w g4') hx
    obtain ⟨_, hx⟩ := n1 (by omega) (by omega) hx
    have q1 := readText_enc (t := y.b) (by omega) z
    have q2 := readText_enc (t := x.b) (by omega) []
    rw [List.append_nil] at q2
    rw [hx] at q2
    rw [q2] at q1
    have := congrArg (fun x => x.2.2) q1
    exact hne this.symm
/-- the document reads the error otherwise; it comes to the same -/
theorem readMost'_eq (top : Nat) {e : Int} {bs : List UInt8} : (readMost' top e bs).1 = (readMost top e bs).1 ∧ ((readMost' top e bs).2.1 = 0 ↔ (readMost top e bs).2.1 = 0) ∧ (readMost' top e bs).2.2 = (readMost top e bs).2.2 := by
  unfold readMost' readMost
  split
  · refine ⟨rfl, ?_, rfl⟩
    simp only [failE]
    split
    · simp
    · rename_i h1; simp [h1]
  · exact ⟨rfl, Iff.rfl, rfl⟩
theorem readMost'_0 (top : Nat) (bs : List UInt8) : readMost' top 0 bs = readMost top 0 bs := by
  unfold readMost' readMost
  split
  · rename_i hgt
    have : (readNum 0 bs).2.1 = 0 := by
      refine Decidable.byContradiction fun hn => ?_
      have hz : ∀ (bs : List UInt8) (i n : Nat), (rdN i n bs).2.1 ≠ 0 → (rdN i n bs).1 = 0 := by
        intro bs
        induction bs with
        | nil => intro i n _; rfl
        | cons c bs ih =>
          intro i n
          rw [rdN]
          split
          · intro _; rfl
          · split
            · intro hh; exact absurd rfl hh
            · exact ih _ _
      have := hz bs 0 0 (by unfold readNum at hn; rw [if_pos rfl] at hn; exact hn)
      unfold readNum at hgt
      rw [if_pos rfl, this] at hgt
      omega
    simp only [failE, this, if_true]
  · rfl
theorem readMost'_err (top : Nat) {e : Int} (he : e ≠ 0) (bs : List UInt8) : readMost' top e bs = (0, e, bs) := by
  unfold readMost'
  rw [readNum_err he, if_neg (by show ¬ 0 > top; omega)]
theorem readMost'_all (top : Nat) (e : Int) (bs : List UInt8) : readMost' top e bs = readMost top e bs := by
  by_cases he : e = 0
  · subst he; exact readMost'_0 top bs
  · rw [readMost'_err top he, readMost_err he]
def decR' (bs : List UInt8) : Option RD := fromR (rdR 99 readMost' bs)
theorem decR'_eq (bs : List UInt8) : decR' bs = decR bs := by
  have hm : readMost' = readMost := by funext t e b; exact readMost'_all t e b
  unfold decR' decR
  rw [hm]
  by_cases hbig : (readMost 1099511627776 (readNum 0 bs).2.1 (readNum 0 bs).2.2).1 ≤ 99
  · have : readMost 99 (readNum 0 bs).2.1 (readNum 0 bs).2.2 = readMost 1099511627776 (readNum 0 bs).2.1 (readNum 0 bs).2.2 := by
      unfold readMost at hbig ⊢
      by_cases h1 : (readNum (readNum 0 bs).2.1 (readNum 0 bs).2.2).1 > 1099511627776
      · rw [if_pos h1, if_pos (by omega)]
      · rw [if_neg h1] at hbig ⊢
        rw [if_neg (by omega)]
    have : rdR 99 readMost bs = rdR 1099511627776 readMost bs := by
      unfold rdR
      dsimp only
      rw [this]
    rw [this]
  · -- both are none
    have e1 : (rdR 99 readMost bs).e ≠ 0 := by
      unfold rdR
      dsimp only
      have hgt : (readNum (readNum 0 bs).2.1 (readNum 0 bs).2.2).1 > 99 := by
        unfold readMost at hbig
        split at hbig
        · simp at hbig
        · simpa using hbig
      have h1 : (readMost 99 (readNum 0 bs).2.1 (readNum 0 bs).2.2).2.1 ≠ 0 := by
        unfold readMost
        rw [if_pos hgt]
        simp only [failE]
        split
        · simp
        · assumption
      generalize readMost 99 (readNum 0 bs).2.1 (readNum 0 bs).2.2 = B at *
      rw [readMost_err h1]
      dsimp only
      rw [readMost_err h1]
      dsimp only
      rw [readNum_err h1]
      dsimp only
      rw [readText_err h1]
      exact h1
    have e2 : ¬ (rdR 1099511627776 readMost bs).x.Right := by
      rintro ⟨_, ⟨_, hx⟩, _⟩
      unfold rdR at hx
      dsimp only at hx
      omega
    unfold fromR
    rw [if_neg (fun hh => e1 (readEnd_zero.1 hh.1).1), if_neg (fun hh => e2 hh.2)]
end Go.Fields
