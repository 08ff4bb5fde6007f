/-
  What is proved here: what the document's functions of layer 15 do; the fixed calls of layer 15 ('alive'); the law FieldsSizes on heaps. No condition.
-/
import Derived.Test.YtdabecfpdlpgbaaWriter
import Derived.Test.YtdabecfpdlpgbaaVcB
import Derived.Test.YtdabecfpdlpgbaaVcC
namespace Go.Proofs.Ytdabecfpdlpgbaa
open Go.Den Go.Fields
namespace Fld
variable {h h0 : Heap} {w r : Nat} {S : Nat → Prop} {bs : List UInt8} {e : Int} {R : Value → Heap → Prop}

/-! ### the document's -/
def refI (h0 : Heap) (n0 : Nat) (n : Int) (p : Option Addr) (l c : Nat) (h : Heap) : Prop :=
  ∃ (m : Nat) (d : List UInt8), n = (m : Int) ∧ m < 18446744073709551616 ∧ l = d.length ∧ Own h p l c 1 (bc d) ∧ d ++ encNum m = encNum n0 ∧ Up h0 (inBlk p) h
theorem refByte (m : Nat) : IntKind.wrap .u8 (IntKind.wrap .u64 (128 + (Int.tmod (m : Int) 128))) = ((UInt8.ofNat (m % 128 + 128)).toNat : Int) := by
  have e1 : Int.tmod (m : Int) 128 = ((m % 128 : Nat) : Int) := by rw [Int.tmod_eq_emod_of_nonneg (by omega)]; omega
  rw [e1, wrap_u64 (by omega) (by omega), UInt8.toNat_ofNat', wrap_u8 (by omega) (by omega)]; omega
theorem Up.app {h0 h h' : Heap} {p p' : Option Addr} (u : Up h0 (inBlk p) h) (f : Fr (inBlk p) h h') (g : ∀ c, inBlk p' c → inBlk p c ∨ h.size ≤ c) : Up h0 (inBlk p') h' :=
  u.step ⟨f, g⟩
theorem refNum_ok {n : Int} (k : Nat) (e : n = (k : Int)) (hn : k < 18446744073709551616) (hk : ∀ p c h', Own h' p (encNum k).length c 1 (bc (encNum k)) → Up h (inBlk p) h' → R (.slice p (encNum k).length c) h') :
    CallsH Try.prog F.ref15_Num #[.int .u64 n] h R := by
  subst e
  refine ref15_Num.walk ⟨refI h k, fun n _ _ _ _ => n.toNat, ⟨k, [], rfl, hn, rfl, .nil rfl rfl rfl rfl, rfl, ⟨Fr.refl _ _, fun c ⟨a, e, _⟩ => by cases e⟩⟩, ?_⟩
  rintro _ p _ c h1 ⟨m, d, rfl, hm, rfl, o, hd, u⟩
  have hdl : d.length ≤ 10 := by
    have := congrArg List.length hd
    rw [List.length_append] at this
    have := (encNum_len k).2
    omega
  by_cases hgt : (m : Int) > 127
  · simp only [hgt, decide_true, if_true]
    rw [refByte]
    refine den_append1 tU uU o rfl (fun v hv => by simp at hv; subst hv; rfl) (by omega) (by omega) ?_
    intro p' c' h2 o2 f2 g2
    have e2 : IntKind.wrap .u64 (Int.tdiv (m : Int) 128) = ((m / 128 : Nat) : Int) := by
      rw [Int.tdiv_eq_ediv_of_nonneg (by omega), wrap_u64 (by omega) (by omega)]; omega
    rw [e2]
    refine ⟨_, _, _, rfl, ⟨m / 128, d ++ [UInt8.ofNat (m % 128 + 128)], rfl, by omega, by simp, by rw [bc_append]; exact o2, ?_, Up.app u f2 g2⟩, ?_⟩
    · rw [← hd, encNum_step hm, if_pos (by omega)]; simp
    · show Int.toNat ((m / 128 : Nat) : Int) < Int.toNat (m : Int)
      omega
  · simp only [hgt, decide_false, Bool.false_eq_true, if_false]
    have e3 : IntKind.wrap .u8 (m : Int) = ((UInt8.ofNat m).toNat : Int) := by rw [wrap_u8_nat, UInt8.toNat_ofNat']
    rw [e3]
    refine den_append1 tU uU o rfl (fun v hv => by simp at hv; subst hv; rfl) (by omega) (by omega) ?_
    intro p' c' h2 o2 f2 g2
    have e4 : d ++ [UInt8.ofNat m] = encNum k := by rw [← hd, encNum_step hm, if_neg (by omega)]
    have e5 : d.length + 1 = (encNum k).length := by rw [← e4]; simp
    rw [e5] at o2 ⊢
    refine ⟨_, _, _, rfl, hk p' c' h2 ?_ (Up.app u f2 g2)⟩
    rw [← e4, bc_append, e4]; exact o2
theorem refText_ok {p : Option Addr} {n c : Nat} {t : List UInt8} (hr : Row h p (bc t)) (hn : n = t.length) (ht : t.length ≤ 1099511627776) (hk : ∀ p c h', Own h' p (encText t).length c 1 (bc (encText t)) → Up h (inBlk p) h' → R (.slice p (encText t).length c) h') :
    CallsH Try.prog F.ref15_Text #[.slice p n c] h R := by
  subst hn
  refine ref15_Text.walk (refNum_ok t.length (wrap_u64 (by omega) (by omega)) (by omega) fun q d h1 o1 u1 => ⟨_, _, _, rfl, ?_⟩)
  have hlen := (encNum_len t.length).2
  refine den_append tU uU o1 (hr.frame u1.fr (fun _ _ => id)) (by rw [bc_len, Nat.mul_one]) (bc_one t) (by omega) (by omega) ?_
  intro p' c' h' o2 _ f2 g
  have e : (encNum t.length).length + t.length = (encText t).length := by unfold encText; rw [List.length_append]
  rw [e] at o2 ⊢
  refine ⟨_, _, _, rfl, hk p' c' h' ?_ (Up.app u1 f2 g)⟩
  unfold encText; rw [bc_append]; exact o2

/-! ### the fixed calls -/
theorem alive_ok (hk : ∀ h', Fr (fun _ => False) h h' → R (.bool true) h') : CallsH Try.prog F.law15_alive #[] h R := by
  refine law15_alive.walk (new_ok fun h1 w S1 H1 f1 g1 => ⟨_, rfl, ?_⟩)
  simp only [Option.isNone_some, Bool.false_eq_true, if_false]
  have u1 : Up h S1 h1 := ⟨f1, g1⟩
  refine num_ok 300 H1 (by simp) rfl (by omega) fun h2 S2 H2 st2 => ⟨_, rfl, newP_of ?_⟩
  have u2 := u1.step st2
  refine den_lit uU u8 (a := ⟨h2.size, 0, none⟩) push_new fun h4 fz4 hb4 sz4 ot4 => ⟨_, _, _, rfl, ?_⟩
  have f24 : Fr (fun _ => False) h2 h4 := ⟨by rw [sz4]; simp, fun c hc _ => by rw [ot4 c (by simp; omega), Array.getElem?_push, if_neg (by omega)]⟩
  have row4 : Row h4 (some ⟨h2.size, 0, none⟩) (bc [97, 98]) := .inr ⟨_, rfl, heldL_blk hb4 (fun j v hj => by rw [Nat.zero_add]; simpa [bc] using hj)⟩
  refine text_ok (t := [97, 98]) (H2.frame f24 (fun _ _ => id)) (by rw [List.nil_append]; have := (encNum_len 300).2; omega) row4 rfl (by simp) (fun x ⟨a, e, e2⟩ hx => by cases e; have := H2.lt x hx; simp at e2; omega) fun h5 S5 H5 st5 => ⟨_, rfl, ?_⟩
  have u5 := (u2.on f24).step st5
  have eb : [] ++ encNum 300 ++ encText [97, 98] = [172, 2, 2, 97, 98] := rfl
  rw [eb] at H5
  refine bool_ok H5 (by simp) fun h6 S6 H6 st6 => ⟨_, rfl, ?_⟩
  have u6 := u5.step st6
  have eb6 : [172, 2, 2, 97, 98] ++ encNum (bit true) = [172, 2, 2, 97, 98, 1] := rfl
  rw [eb6] at H6
  refine bytes_ok H6 (by simp) fun p7 c7 h7 o7 f7 g7 => ⟨_, _, _, rfl, ?_⟩
  refine read_ok o7.row' rfl (by simp) fun h8 r8 T8 D8 f8 g8 => ⟨_, rfl, ?_⟩
  have v8 : Up h6 T8 h8 := ⟨f7.tt f8, fun c hc => by have := g8 c hc; have := f7.1; omega⟩
  refine rnum_ok D8 fun h9 D9 f9 => ⟨_, rfl, ?_⟩
  have e9 : readNum 0 [172, 2, 2, 97, 98, 1] = (300, 0, [2, 97, 98, 1]) := rfl
  rw [e9] at D9 ⊢
  have v9 := v8.touch f9 (fun c e => e ▸ D8.self)
  refine rtext_ok D9 (by simp) fun h10 p10 c10 D10 o10 g10 f10 => ⟨_, _, _, rfl, ?_⟩
  have e10 : readText (300, 0, [2, 97, 98, 1]).2.1 (300, 0, [2, 97, 98, 1]).2.2 = ([97, 98], 0, [1]) := rfl
  rw [e10] at D10 o10 ⊢
  have v10 := v9.touch f10 (fun c e => e ▸ D8.self)
  refine rbool_ok D10 fun h11 D11 f11 => ⟨_, rfl, newP_of ?_⟩
  have e11 : readMost 1 0 [1] = (1, 0, []) := rfl
  rw [e11] at D11 ⊢
  have v11 := v10.touch f11 (fun c e => e ▸ D8.self)
  have o11 := o10.frame f11 (fun c hc e => by have := g10 c hc; have := D9.lt r8 D8.self; omega)
  refine read_ok (bs := [128]) row_new rfl (by simp) fun h13 r13 T13 D13 f13 g13 => ⟨_, rfl, ?_⟩
  have w13 : Up h11 T13 h13 := ⟨(Fr.push _ _).tt f13, fun c hc => by have := g13 c hc; simp at this; omega⟩
  refine rnum_ok D13 fun h14 D14 f14 => ⟨_, rfl, newP_of ?_⟩
  have w14 := w13.touch f14 (fun c e => e ▸ D13.self)
  refine read_ok (bs := [128, 0]) row_new rfl (by simp) fun h16 r16 T16 D16 f16 g16 => ⟨_, rfl, ?_⟩
  have x16 : Up h14 T16 h16 := ⟨(Fr.push _ _).tt f16, fun c hc => by have := g16 c hc; simp at this; omega⟩
  refine rnum_ok D16 fun h17 D17 f17 => ⟨_, rfl, ?_⟩
  have x17 := x16.touch f17 (fun c e => e ▸ D16.self)
  have F17 : Fr (fun _ => False) h11 h17 := w14.fr.tt x17.fr
  refine bytes_ok (H6.frame (v11.fr.tt F17) (fun _ _ => id)) (by simp) fun p18 c18 h18 o18 f18 g18 => ⟨_, _, _, rfl, str [172, 2, 2, 97, 98, 1], conv o18.row' rfl, ?_⟩
  have fin := hk h18 ((u6.fr.tt v11.fr).tt (F17.tt f18))
  rw [str_list]
  have c1 : (([172, 2, 2, 97, 98, 1] : List UInt8) == (⟨#[172, 2, 2, 97, 98, 1]⟩ : ByteArray).toList) = true := by rw [toList_data]; rfl
  rw [if_pos c1]
  rw [if_pos (by rfl)]
  refine ⟨str [97, 98], conv (o11.frame (F17.tt f18) (fun _ _ => id)).row' rfl, ?_⟩
  rw [str_list]
  have c2 : (([97, 98] : List UInt8) == (⟨#[97, 98]⟩ : ByteArray).toList) = true := by rw [toList_data]; rfl
  rw [if_pos c2, if_pos (by rfl)]
  refine rend_ok (D11.frame (F17.tt f18) (fun _ _ => id)) ⟨_, rfl, ?_⟩
  rw [if_pos (by rfl)]
  refine rend_ok (D14.frame (x17.fr.tt f18) (fun _ _ => id)) ⟨_, rfl, ?_⟩
  rw [if_pos (by rfl)]
  refine rend_ok (D17.frame f18 (fun _ _ => id)) ⟨_, rfl, ?_⟩
  exact fin

/-! ### FieldsSizes -/
theorem sizeI {n : Nat} : ∀ (f x : Nat), x < 128 ^ (f + 1) → sizeN f x = sizeN (f + 1) x
  | 0, x, h => by
    simp only [sizeN]
    rw [if_neg (by omega)]
  | f + 1, x, h => by
    rw [sizeN, sizeN]
    split
    · rw [sizeI (n := n) f (x / 128) (by rw [Nat.pow_succ] at h; omega)]
    · rfl
theorem encNum_size (n : Nat) : (encNum n).length = sizeN 9 n := encN_size 9 n
theorem size_step {n : Nat} (hn : n < 18446744073709551616) : (encNum n).length = if n > 127 then (encNum (n / 128)).length + 1 else 1 := by
  rw [encNum_step hn]
  split
  · simp
  · rfl

theorem _root_.Go.Proofs.Ytdabecfpdlpgbaa.fieldsSizes_ok (n m : Int) (wn : (Lit.int .u64 n).wf = true) (wm : (Lit.int .u64 m).wf = true) : LawH Try.prog F.law15_FieldsSizes #[.int .u64 n, .int .u64 m] h := by
  have wn := wf_u64 wn
  have wm := wf_u64 wm
  obtain ⟨n, rfl⟩ := Int.eq_ofNat_of_zero_le wn.1
  obtain ⟨m, rfl⟩ := Int.eq_ofNat_of_zero_le wm.1
  unfold LawH
  generalize hR : (fun (v : Value) h' => v = .bool true ∧ Fr (fun _ => False) h h') = R
  have hk : ∀ h', Fr (fun _ => False) h h' → R (.bool true) h' := fun h' hf => by rw [← hR]; exact ⟨rfl, hf⟩
  clear hR
  have ln := encNum_len n
  have lm := encNum_len m
  refine law15_FieldsSizes.walk (new_ok fun h1 w1 S1 H1 f1 g1 => ⟨_, rfl, ?_⟩)
  refine num_ok n H1 (by simp) rfl (by omega) fun h2 S2 H2 st2 => ⟨_, rfl, ?_⟩
  have u2 := (⟨f1, g1⟩ : Up h S1 h1).step st2
  refine bytes_ok H2 (by rw [List.nil_append]; omega) fun p3 c3 h3 o3 f3 g3 => ⟨_, _, _, rfl, ?_⟩
  refine new_ok fun h4 w4 S4 H4 f4 g4 => ⟨_, rfl, ?_⟩
  refine num_ok m H4 (by simp) rfl (by omega) fun h5 S5 H5 st5 => ⟨_, rfl, ?_⟩
  have u5 := (⟨f4, g4⟩ : Up h3 S4 h4).step st5
  refine bytes_ok H5 (by rw [List.nil_append]; omega) fun p6 c6 h6 o6 f6 g6 => ⟨_, _, _, rfl, ?_⟩
  have F6 : Fr (fun _ => False) h h6 := (u2.fr.tt f3).tt (u5.fr.tt f6)
  have O3 := o3.frame (u5.fr.tt f6) (fun _ _ => id)
  rw [List.nil_append] at O3 o6 ⊢
  rw [List.nil_append]
  refine ⟨fun k x h' => h' = h6 ∧ ∃ a j : Nat, x = (a : Int) ∧ k = (j : Int) ∧ a ≤ n ∧ (encNum a).length + j = (encNum n).length + 1, fun _ x _ => x.toNat, ⟨rfl, n, 1, rfl, rfl, Nat.le_refl _, rfl⟩, ?_⟩
  rintro _ _ h7 ⟨rfl, a, j, rfl, rfl, ha, hj⟩
  have la := encNum_len a
  by_cases hgt : (a : Int) > 127
  · simp only [hgt, decide_true, if_true]
    have e2 : IntKind.wrap .u64 (Int.tdiv (a : Int) 128) = ((a / 128 : Nat) : Int) := by
      rw [Int.tdiv_eq_ediv_of_nonneg (by omega), wrap_u64 (by omega) (by omega)]; omega
    rw [e2, wrap_id (n := (j : Int) + 1) (by omega) (by omega)]
    refine ⟨⟨trivial, a / 128, j + 1, rfl, by omega, by omega, ?_⟩, ?_⟩
    · rw [size_step (n := a) (by omega), if_pos (by omega)] at hj; omega
    · show Int.toNat ((a / 128 : Nat) : Int) < Int.toNat (a : Int)
      omega
  · simp only [hgt, decide_false, Bool.false_eq_true, if_false]
    rw [size_step (n := a) (by omega), if_neg (by omega)] at hj
    refine alive_ok fun h8 f8 => ⟨_, rfl, ?_⟩
    rw [if_pos rfl]
    have ej : ((((encNum n).length : Nat) : Int) == (j : Int)) = true := by simp; omega
    rw [if_pos ej]
    have fin : (((str (encNum n)).toList == (str (encNum m)).toList) == ((n : Int) == (m : Int))) = true := by
      rw [str_list, str_list]
      by_cases q : n = m
      · subst q; simp
      · have q1 : encNum n ≠ encNum m := fun e => q (encNum_inj (by omega) (by omega) e)
        have q2 : ¬ (n : Int) = (m : Int) := by omega
        rw [beq_eq_false_iff_ne.2 q1, beq_eq_false_iff_ne.2 q2]; rfl
    have A := conv (c := c3) (O3.frame f8 (fun _ _ => id)).row' rfl
    have B := conv (c := c6) (o6.frame f8 (fun _ _ => id)).row' rfl
    by_cases hnm : (n : Int) > (m : Int)
    · simp only [hnm, decide_true, if_true]
      refine ⟨_, A, _, B, ?_⟩
      rw [fin]; exact hk h8 (F6.tt f8)
    · simp only [hnm, decide_false, Bool.false_eq_true, if_false]
      have hle : (encNum n).length ≤ (encNum m).length := by
        rw [encNum_size, encNum_size]; exact sizeN_mono 9 n m (by omega)
      have hle' : (((encNum n).length : Nat) : Int) ≤ (((encNum m).length : Nat) : Int) := by omega
      simp only [hle', decide_true, if_true]
      refine ⟨_, A, _, B, ?_⟩
      rw [fin]; exact hk h8 (F6.tt f8)
end Fld
end Go.Proofs.Ytdabecfpdlpgbaa
