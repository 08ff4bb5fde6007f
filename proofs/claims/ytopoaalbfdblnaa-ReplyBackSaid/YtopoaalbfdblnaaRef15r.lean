/-
  What is proved here: what the document's functions of layer 15 do that read. No condition.
-/
import Derived.Test.YtopoaalbfdblnaaRef15
import Derived.Test.YtopoaalbfdblnaaVcE
namespace Go.Proofs.Ytopoaalbfdblnaa
open Go.Den Go.Fields
namespace Fld
variable {h h0 : Heap} {w r x : Nat} {S : Nat → Prop} {bs : List UInt8} {e : Int} {R : Value → Heap → Prop} {G : Nat → Prop}

/-- x is the document's reader; bs is left, the fault is e; G: where its bytes lie -/
def RR (h : Heap) (x : Nat) (G : Nat → Prop) (e : Int) (bs : List UInt8) : Prop :=
  ∃ (p : Option Addr) (c : Nat) (B : List UInt8) (k : Nat), h[x]? = some (.cells #[.slice p B.length c, .int .i64 (k : Int), .int .i64 e] T.ref15_Reader (0, 0)) ∧ Row h p (bc B) ∧ k ≤ B.length ∧ bs = B.drop k ∧ (B ≠ [] → ¬ inBlk p x) ∧ B.length ≤ c ∧ B.length ≤ 1099511627776 ∧ (B ≠ [] → ∀ y, inBlk p y → G y)
theorem RR.lt (H : RR h x G e bs) : x < h.size := by
  obtain ⟨p, c, B, k, hb, _⟩ := H; exact lt_of_get hb
theorem bc_ne {B : List UInt8} (hB : bc B ≠ []) : B ≠ [] := fun e => hB (by rw [e]; rfl)
theorem Row.keep {Q : Nat → Prop} {h' : Heap} {p : Option Addr} {cs : List Value} (hr : Row h p cs) (hf : Fr Q h h') (hn : cs ≠ [] → ∀ c, inBlk p c → ¬ Q c) : Row h' p cs := by
  by_cases hc : cs = []
  · exact .inl hc
  · exact hr.frame hf (fun a e => hn hc a.block ⟨a, e, rfl⟩)
theorem RR.on {h' : Heap} (H : RR h x G e bs) (hf : Fr (fun _ => False) h h') : RR h' x G e bs := by
  obtain ⟨p, c, B, k, hb, hr, h1, h2, h3, h4⟩ := H
  exact ⟨p, c, B, k, hf.get hb id, hr.frame hf (fun _ _ => id), h1, h2, h3, h4⟩
theorem RR.mk {p : Option Addr} {c : Nat} (hb : h[x]? = some (.cells #[.slice p bs.length c, .int .i64 0, .int .i64 0] T.ref15_Reader (0, 0))) (hr : Row h p (bc bs)) (hn : bs ≠ [] → ¬ inBlk p x) (hc : bs.length ≤ c) (hl : bs.length ≤ 1099511627776) (hG : bs ≠ [] → ∀ y, inBlk p y → G y) : RR h x G 0 bs :=
  ⟨p, c, bs, 0, hb, hr, Nat.zero_le _, rfl, hn, hc, hl, hG⟩
theorem fits_ok (i : Nat) (b : UInt8) (hk : R (.bool (decide (i < 9 ∨ (i = 9 ∧ b.toNat < 2)))) h) : CallsH Try.prog F.ref15_fits #[.int .i64 (i : Int), .int .u8 (b.toNat : Int)] h R := by
  refine ref15_fits.walk ?_
  unfold ref15_fits.vc
  by_cases h1 : i < 9
  · have : (i : Int) < 9 := by omega
    simpa [this, h1] using hk
  · have h1' : ¬ (i : Int) < 9 := by omega
    by_cases h2 : i = 9
    · subst h2
      have c9 : ((b.toNat : Int) < 2) ↔ b.toNat < 2 := by omega
      simpa [c9] using hk
    · have h2' : ¬ (i : Int) = 9 := by omega
      simpa [h1, h1', h2, h2'] using hk
/-- the reader's block changes: the place, and the fault -/
theorem RR.move {p : Option Addr} {c : Nat} {B : List UInt8} {k k' : Nat} {e' : Int} {h' : Heap} (hr : Row h p (bc B)) (hk' : k' ≤ B.length) (hn : B ≠ [] → ¬ inBlk p x) (hc : B.length ≤ c) (hl : B.length ≤ 1099511627776 ∧ (B ≠ [] → ∀ y, inBlk p y → G y))
    (hb' : h'[x]? = some (.cells #[.slice p B.length c, .int .i64 (k' : Int), .int .i64 e'] T.ref15_Reader (0, 0))) (f : Fr (fun y => y = x) h h') : RR h' x G e' (B.drop k') :=
  ⟨p, c, B, k', hb', Row.keep hr f (fun hne y hy e => hn (bc_ne hne) (e ▸ hy)), hk', rfl, hn, hc, hl⟩

def rrI (h0 : Heap) (x : Nat) (G : Nat → Prop) (bs : List UInt8) (n b i : Int) (h : Heap) : Prop :=
  ∃ (k a : Nat) (rest : List UInt8), i = (k : Int) ∧ n = (a : Int) ∧ b = ((2 ^ (7 * k) : Nat) : Int) ∧ k ≤ 9 ∧ a < 2 ^ (7 * k) ∧ RR h x G 0 rest ∧ Fr (fun y => y = x) h0 h ∧ rdN k a rest = rdN 0 0 bs
set_option maxRecDepth 100000 in
theorem rrnum_ok (H : RR h x G e bs) (hk : ∀ h', RR h' x G (readNum e bs).2.1 (readNum e bs).2.2 → Fr (fun y => y = x) h h' → R (.int .u64 ((readNum e bs).1 : Int)) h') :
    CallsH Try.prog F.ref15_Reader_Num #[.pointer (some ⟨x, 0, none⟩)] h R := by
  obtain ⟨p, c, B, k, hb, hr, k1, rfl, k2, k3, k4⟩ := id H
  refine ref15_Reader_Num.walk ⟨_, cell_at hb rfl, ?_⟩
  by_cases he : e = 0
  · subst he
    simp only [bne_self_eq_false, Bool.false_eq_true, if_false]
    unfold readNum at hk
    rw [if_pos rfl] at hk
    refine ⟨rrI h x G (B.drop k), fun _ _ i _ => 11 - i.toNat, ⟨0, 0, _, rfl, rfl, rfl, by omega, by simp, H, Fr.refl _ _, rfl⟩, ?_⟩
    clear hb hr k1 k2 k3 k4
    rintro _ _ _ h1 ⟨k5, a, rest, rfl, rfl, rfl, hk9, ha, H1, f1, hrd⟩
    obtain ⟨p, c, B, m, hb, hr, k1, rfl, k2, k3, k4⟩ := id H1
    refine ⟨_, cell_at hb rfl, _, _, _, cell_at hb rfl, ?_⟩
    by_cases hend : m = B.length
    · have : (m : Int) ≥ (B.length : Int) := by omega
      simp only [this, decide_true, if_true]
      refine storeP_blk hb (by simp) fun h2 q1 q2 q3 => ?_
      have f2 : Fr (fun y => y = x) h1 h2 := Fr.of_eq q2 q3
      have e0 : B.drop m = [] := List.drop_of_length_le (by omega)
      have H2 := RR.move (k := m) hr k1 k2 k3 k4 q1 f2
      rw [e0] at hrd H2
      rw [rdN] at hrd
      rw [← hrd] at hk
      exact hk h2 H2 (f1.tt f2)
    · have : ¬ (m : Int) ≥ (B.length : Int) := by omega
      simp only [this, decide_false, Bool.false_eq_true, if_false]
      have hlt : m < B.length := by omega
      have hBm : B[m]? = some B[m] := List.getElem?_eq_getElem hlt
      obtain ⟨ad, rfl⟩ := hr.some (fun e => by have := congrArg List.length e; rw [bc_len, List.length_nil] at this; omega)
      have hcell := hr.cell (bc_at hBm)
      refine ⟨_, _, _, cell_at hb rfl, _, cell_at hb rfl, ⟨by omega, by omega⟩, onSome_some.2 ⟨(B[m].toNat : Int), ?_, _, cell_at hb rfl, ?_⟩⟩
      · rw [Int.toNat_natCast, Nat.mul_one]; exact hcell
      generalize hbm : B[m] = b at *
      have hdrop : B.drop m = b :: B.drop (m + 1) := by rw [List.drop_eq_getElem_cons hlt, hbm]
      rw [hdrop, rdN] at hrd
      refine storeP_blk hb (by simp) fun h3 q1 q2 q3 => ?_
      rw [wrap_id (n := (m : Int) + 1) (by omega) (by omega)] at q1
      have f3 : Fr (fun y => y = x) h1 h3 := Fr.of_eq q2 q3
      have H3 : RR h3 x G 0 (B.drop (m + 1)) := RR.move (k := m) hr (by omega) k2 k3 k4 (by rw [q1]; simp) f3
      have f13 := f1.tt f3
      have hb8 := b.toNat_lt
      have wk : IntKind.wrap .i64 ((k5 : Int) + 1) = ((k5 + 1 : Nat) : Int) := by rw [wrap_id (by omega) (by omega)]; omega
      refine JoinP.of fun J hJ => ?_
      have fin : J (decide (k5 = 10 ∨ (k5 = 9 ∧ b.toNat > 1) ∨ (b.toNat = 0 ∧ k5 > 0))) h3 := by
        subst hJ
        by_cases hbad : k5 = 10 ∨ (k5 = 9 ∧ b.toNat > 1) ∨ (b.toNat = 0 ∧ k5 > 0)
        · simp only [hbad, decide_true, if_true]
          rw [if_pos hbad] at hrd
          refine storeP_blk q1 (by simp) fun h5 r1 r2 r3 => ?_
          have f5 : Fr (fun y => y = x) h3 h5 := Fr.of_eq r2 r3
          have H5 : RR h5 x G 3 (B.drop (m + 1)) := RR.move (k := m) (Row.keep hr f3 (fun hne y hy e => k2 (bc_ne hne) (e ▸ hy))) (by omega) k2 k3 k4 (by rw [r1]; simp) f5
          rw [← hrd] at hk
          exact hk h5 H5 (f13.tt f5)
        · simp only [hbad, decide_false, Bool.false_eq_true, if_false]
          rw [if_neg hbad] at hrd
          have e1 : Int.tmod (b.toNat : Int) 128 = ((b.toNat % 128 : Nat) : Int) := by rw [Int.tmod_eq_emod_of_nonneg (by omega)]; omega
          have hd : 2 ^ (7 * k5) * (b.toNat % 128) < 18446744073709551616 ∧ a + 2 ^ (7 * k5) * (b.toNat % 128) < 18446744073709551616 := by
            by_cases h9 : k5 = 9
            · subst h9
              have : b.toNat % 128 ≤ 1 := by omega
              have := Nat.mul_le_mul_left (2 ^ (7 * 9)) this
              omega
            · have p1 : (2 : Nat) ^ (7 * k5) ≤ 2 ^ 56 := Nat.pow_le_pow_right (by omega) (by omega)
              have p2 : b.toNat % 128 ≤ 127 := by omega
              have := Nat.mul_le_mul p1 p2
              omega
          have e2 : IntKind.wrap .u64 ((a : Int) + IntKind.wrap .u64 (((2 ^ (7 * k5) : Nat) : Int) * IntKind.wrap .u64 (Int.tmod (b.toNat : Int) 128))) = ((a + b.toNat % 128 * 2 ^ (7 * k5) : Nat) : Int) := by
            rw [e1, wrap_u64_nat (n := b.toNat % 128) (by omega), ← Int.natCast_mul, wrap_u64_nat hd.1, ← Int.natCast_add, wrap_u64_nat hd.2, Nat.mul_comm]
          rw [e2, wk]
          by_cases hlt2 : b.toNat < 128
          · have : (b.toNat : Int) < 128 := by omega
            simp only [this, decide_true, if_true]
            rw [if_pos hlt2] at hrd
            rw [← hrd] at hk
            exact hk h3 H3 f13
          · have : ¬ (b.toNat : Int) < 128 := by omega
            simp only [this, decide_false, Bool.false_eq_true, if_false]
            rw [if_neg hlt2] at hrd
            have h8 : k5 ≤ 8 := by omega
            have p3 : (2 : Nat) ^ (7 * (k5 + 1)) = 2 ^ (7 * k5) * 128 := by rw [Nat.mul_add, Nat.pow_add]
            have p6 : (2 : Nat) ^ (7 * (k5 + 1)) ≤ 2 ^ 63 := Nat.pow_le_pow_right (by omega) (by omega)
            have e3 : IntKind.wrap .u64 (((2 ^ (7 * k5) : Nat) : Int) * 128) = ((2 ^ (7 * (k5 + 1)) : Nat) : Int) := by
              rw [p3, Int.natCast_mul]
              exact wrap_u64 (by omega) (by omega)
            rw [e3]
            have p4 : b.toNat % 128 + 1 ≤ 128 := by omega
            have p5 := Nat.mul_le_mul_right (2 ^ (7 * k5)) p4
            rw [Nat.add_mul] at p5
            refine ⟨⟨k5 + 1, _, _, rfl, rfl, rfl, by omega, by omega, H3, f13, hrd⟩, ?_⟩
            show 11 - Int.toNat ((k5 + 1 : Nat) : Int) < 11 - Int.toNat (k5 : Int)
            omega
      refine fits_ok k5 b ⟨_, rfl, ?_⟩
      have e10 : ¬ k5 = 10 := by omega
      by_cases c1 : k5 < 9 ∨ (k5 = 9 ∧ b.toNat < 2)
      · simp only [c1, decide_true, Bool.not_true, Bool.false_eq_true, if_false]
        have c2 : ¬ (k5 = 9 ∧ b.toNat > 1) := by omega
        by_cases c4 : b.toNat = 0
        · have c5 : decide ((k5 : Int) > 0) = decide (k5 > 0) := by simp
          simp only [c4, Int.natCast_zero, beq_self_eq_true, if_true, c5]
          simpa [e10, c4] using fin
        · have c4' : ((b.toNat : Int) == 0) = false := by simp only [beq_eq_false_iff_ne, ne_eq]; omega
          simp only [c4', Bool.false_eq_true, if_false]
          simpa [e10, c2, c4] using fin
      · simp only [c1, decide_false, Bool.not_false, if_true]
        have c2 : k5 = 9 ∧ b.toNat > 1 := by omega
        simpa [c2] using fin
  · have : (e != 0) = true := by simpa using he
    simp only [this, if_true]
    unfold readNum at hk
    rw [if_neg he] at hk
    exact hk _ H (Fr.refl _ _)

theorem rrmost_ok (top : Nat) {t : Int} (ht : t = (top : Int)) (H : RR h x G e bs) (hk : ∀ h', RR h' x G (readMost' top e bs).2.1 (readMost' top e bs).2.2 → Fr (fun y => y = x) h h' → R (.int .u64 ((readMost' top e bs).1 : Int)) h') :
    CallsH Try.prog F.ref15_Reader_Most #[.pointer (some ⟨x, 0, none⟩), .int .u64 t] h R := by
  subst ht
  refine ref15_Reader_Most.walk (rrnum_ok H fun h1 H1 f1 => ⟨_, rfl, ?_⟩)
  unfold readMost' at hk
  by_cases hgt : (readNum e bs).1 > top
  · have : ((readNum e bs).1 : Int) > (top : Int) := by omega
    simp only [this, decide_true, if_true]
    rw [if_pos hgt] at hk
    obtain ⟨p, c, B, m, hb, hr, k1, k5, k2, k3, k4⟩ := H1
    refine storeP_blk hb (by simp) fun h2 q1 q2 q3 => ?_
    have f2 : Fr (fun y => y = x) h1 h2 := Fr.of_eq q2 q3
    refine hk h2 ?_ (f1.tt f2)
    dsimp only
    rw [k5]
    exact RR.move (k := m) hr k1 k2 k3 k4 q1 f2
  · have : ¬ ((readNum e bs).1 : Int) > (top : Int) := by omega
    simp only [this, decide_false, Bool.false_eq_true, if_false]
    rw [if_neg hgt] at hk
    exact hk h1 H1 f1
theorem rrtext_ok (H : RR h x G e bs)
    (hk : ∀ h' p c, RR h' x G (readText e bs).2.1 (readText e bs).2.2 → Row h' p (bc (readText e bs).1) → (readText e bs).1.length ≤ c → ((readText e bs).1 ≠ [] → ∀ y, inBlk p y → G y) → Fr (fun y => y = x) h h' → R (.slice p (readText e bs).1.length c) h') :
    CallsH Try.prog F.ref15_Reader_Text #[.pointer (some ⟨x, 0, none⟩)] h R := by
  refine ref15_Reader_Text.walk (rrnum_ok H fun h1 H1 f1 => ⟨_, rfl, ?_⟩)
  unfold readText at hk
  have hlt := readNum_lt e bs
  generalize readNum e bs = N at *
  obtain ⟨n, e', rest⟩ := N
  dsimp only at *
  obtain ⟨p, c, B, m, hb, hr, k1, k5, k2, k3, k4⟩ := id H1
  refine ⟨_, cell_at hb rfl, ?_⟩
  by_cases h0 : e' = 0
  · subst h0
    simp only [bne_self_eq_false, Bool.false_eq_true, if_false]
    refine ⟨_, _, _, cell_at hb rfl, _, cell_at hb rfl, ?_⟩
    rw [if_pos rfl] at hk
    have hrl : rest.length = B.length - m := by rw [k5, List.length_drop]
    rw [wrap_id (n := (B.length : Int) - (m : Int)) (by omega) (by omega), wrap_u64 (n := (B.length : Int) - (m : Int)) (by omega) (by omega)]
    by_cases hgt : n > rest.length
    · have : (n : Int) > (B.length : Int) - (m : Int) := by omega
      simp only [this, decide_true, if_true]
      rw [if_pos hgt] at hk
      refine storeP_blk hb (by simp) fun h2 q1 q2 q3 => ?_
      have f2 : Fr (fun y => y = x) h1 h2 := Fr.of_eq q2 q3
      refine hk h2 none 0 ?_ (.inl rfl) (by simp) (fun hne => absurd rfl hne) (f1.tt f2)
      rw [k5]
      exact RR.move (k := m) hr k1 k2 k3 k4 q1 f2
    · have : ¬ (n : Int) > (B.length : Int) - (m : Int) := by omega
      simp only [this, decide_false, Bool.false_eq_true, if_false]
      rw [if_neg hgt] at hk
      have e1 : IntKind.wrap .i64 ((m : Int) + IntKind.wrap .i64 (n : Int)) = ((m + n : Nat) : Int) := by
        rw [wrap_id (n := (n : Int)) (by omega) (by omega), wrap_id (by omega) (by omega)]; omega
      refine ⟨_, _, _, cell_at hb rfl, _, cell_at hb rfl, _, cell_at hb rfl, ?_⟩
      rw [e1]
      refine ⟨⟨by omega, by omega⟩, ⟨by omega, by omega⟩, _, cell_at hb rfl, ?_⟩
      rw [e1]
      refine storeP_blk hb (by simp) fun h2 q1 q2 q3 => ?_
      have f2 : Fr (fun y => y = x) h1 h2 := Fr.of_eq q2 q3
      have etl : (rest.take n).length = n := by rw [List.length_take]; omega
      have := hk h2 (slBase p c m 1) (c - m) ?_ ?_ (by rw [etl]; omega) (fun hne y hy => k4.2 (fun e => hne (by rw [k5, e]; simp)) y (inBlk_sub hy)) (f1.tt f2)
      · rw [etl] at this
        simp only [Int.toNat_natCast]
        rwa [show m + n - m = n by omega]
      · rw [k5, List.drop_drop]
        exact RR.move (k := m) hr (by omega) k2 k3 k4 (by rw [q1]; simp) f2
      · have hr2 : Row h2 p (bc B) := Row.keep hr f2 (fun hne y hy e => k2 (bc_ne hne) (e ▸ hy))
        by_cases hn0 : n = 0
        · subst hn0; exact .inl rfl
        · unfold slBase
          have hcm : c ≠ m := by omega
          rw [if_neg hcm]
          rcases hr2 with hz | ⟨ad, rfl, hh⟩
          · have := congrArg List.length hz; rw [bc_len, List.length_nil] at this; omega
          · refine .inr ⟨ad.add (m * 1), rfl, heldL_at.2 fun j v hj => ?_⟩
            rw [add_add, Nat.zero_add]
            have hjn : j < n := by
              have := (List.getElem?_eq_some_iff.1 hj).1
              rw [bc_len, etl] at this; exact this
            have := heldL_at.1 hh (m + j) v ?_
            · rwa [Nat.zero_add, ← Nat.mul_one m, show m * 1 + j = m * 1 + j from rfl] at this
            · rw [← bc_take, List.getElem?_take, if_pos hjn, k5, ← bc_drop, List.getElem?_drop] at hj
              exact hj
  · have : (e' != 0) = true := by simpa using h0
    simp only [this, if_true]
    rw [if_neg h0] at hk
    exact hk h1 none 0 H1 (.inl rfl) (by simp) (fun hne => absurd rfl hne) f1
theorem rrend_ok (H : RR h x G e bs) (hk : R (.int .i64 (readEnd e bs)) h) : CallsH Try.prog F.ref15_Reader_End #[.pointer (some ⟨x, 0, none⟩)] h R := by
  obtain ⟨p, c, B, m, hb, hr, k1, k5, k2, k3, k4⟩ := H
  refine ref15_Reader_End.walk ⟨_, cell_at hb rfl, ?_⟩
  unfold readEnd at hk
  by_cases h0 : e = 0
  · subst h0
    simp only [bne_self_eq_false, Bool.false_eq_true, if_false]
    refine ⟨_, cell_at hb rfl, _, _, _, cell_at hb rfl, ?_⟩
    rw [if_pos rfl] at hk
    by_cases hlt : m < B.length
    · have : (m : Int) < (B.length : Int) := by omega
      simp only [this, decide_true, if_true]
      rwa [if_neg (by rw [k5]; intro e; have := congrArg List.length e; rw [List.length_drop] at this; simp at this; omega)] at hk
    · have : ¬ (m : Int) < (B.length : Int) := by omega
      simp only [this, decide_false, Bool.false_eq_true, if_false]
      rwa [if_pos (by rw [k5]; exact List.drop_of_length_le (by omega))] at hk
  · have : (e != 0) = true := by simpa using h0
    simp only [this, if_true]
    rw [if_neg h0] at hk
    exact ⟨_, cell_at hb rfl, hk⟩
end Fld
end Go.Proofs.Ytopoaalbfdblnaa
