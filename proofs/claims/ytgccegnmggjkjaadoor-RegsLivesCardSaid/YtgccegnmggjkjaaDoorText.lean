/-
  What is proved here: the texts of endpoints: ref04.Digits, ref04.Text, eid.path, eid.Text. No condition.
-/
import Derived.Test.YtgccegnmggjkjaaDoorRef04
import Derived.Test.YtgccegnmggjkjaaDoorNum
set_option maxRecDepth 100000
namespace Go.Proofs.YtgccegnmggjkjaaDoor
open Go.Den
namespace Eid
variable {h h' : Heap} {R : Value → Heap → Prop}
theorem str_app (a b : List UInt8) : str a ++ str b = str (a ++ b) := by
  unfold str
  apply ByteArray.ext
  rw [ByteArray.data_append]
  simp
theorem str_size (a : List UInt8) : (str a).size = a.length := by unfold str; rfl
theorem str_self (s : ByteArray) : s = str s.data.toList := (str_data s).symm
theorem data_len (s : ByteArray) : s.data.toList.length = s.size := by rw [Array.length_toList]; rfl
def textE (x : Ev) : List UInt8 :=
  if x = .zero then [100, 116, 110, 58, 110, 111, 110, 101]
  else if x.ipn = true then [105, 112, 110, 58] ++ Lib.decDigits x.node.toNat ++ [46] ++ Lib.decDigits x.svc.toNat
  else [100, 116, 110, 58] ++ ([47, 47] ++ x.host.data.toList ++ [47] ++ x.dem.data.toList)
theorem maxi : IntKind.max .i64 = 9223372036854775807 := rfl
theorem dec_len {u : Nat} (hu : u < 18446744073709551616) : (Lib.decDigits u).length ≤ 20 := by
  rw [Lib.decDigits_length]
  by_cases h0 : u < 10
  · rw [Lib.nDigits_small h0]; omega
  · have := Lib.numDigits_eq u (by omega) hu
    split at this <;> omega
theorem text_len {x : Ev} (hr : rightE x = true) (h1 : 0 ≤ x.svc) : (textE x).length ≤ 100 := by
  unfold textE
  unfold rightE at hr
  by_cases z : x = .zero
  · rw [if_pos z]; simp
  rw [if_neg z] at hr ⊢
  by_cases hi : x.ipn = true
  · rw [if_pos hi] at hr ⊢
    have hr := of_decide_eq_true hr
    have l1 := dec_len (u := x.node.toNat) (by omega)
    have l2 := dec_len (u := x.svc.toNat) (by omega)
    simp only [List.length_append, List.length_cons, List.length_nil]; omega
  · rw [if_neg hi] at hr ⊢
    simp only [Bool.and_eq_true, decide_eq_true_eq] at hr
    simp only [List.length_append, List.length_cons, List.length_nil, data_len]; omega
theorem rdigits_ok {n : Int} (k : Nat) (e : n = (k : Int)) (hu : k < 18446744073709551616) (hk : ∀ h', Fr (fun _ => False) h h' → R (.string (str (Lib.decDigits k))) h') : CallsH Tryd.prog F.ref04_Digits #[.int .u64 n] h R := by
  have hl := dec_len hu
  refine ref04_Digits.walk ⟨fun n1 out g => ∃ (m : Nat) (d : List UInt8), n1 = (m : Int) ∧ out = str d ∧ Fr (fun _ => False) h g ∧ m < 18446744073709551616 ∧ d.length ≤ 20 ∧ ((m = 0 ∧ d ≠ [] ∧ d = Lib.decDigits k) ∨ (¬ (m = 0 ∧ d ≠ []) ∧ Lib.decDigits m ++ d = Lib.decDigits k)), fun n1 out _ => 2 * n1.toNat + (if out.size = 0 then 1 else 0), ⟨k, [], e, rfl, Fr.refl _ _, hu, by simp, .inr ⟨by simp, by simp⟩⟩, ?_⟩
  rintro _ _ g ⟨m, d, rfl, rfl, fg, hm, hd, hinv⟩
  refine JoinP.of fun J hJ => ?_
  have more : ¬ (m = 0 ∧ d ≠ []) → J true g := fun hgo => by
    subst hJ
    dsimp only
    rw [if_pos rfl]
    have hdec : Lib.decDigits m ++ d = Lib.decDigits k := by
      rcases hinv with ⟨h1, h2, _⟩ | ⟨_, h2⟩
      · exact absurd ⟨h1, h2⟩ hgo
      · exact h2
    have em : Int.tmod (m : Int) 10 = ((m % 10 : Nat) : Int) := by rw [Int.tmod_eq_emod_of_nonneg (by omega)]; omega
    have ed : Int.tdiv (m : Int) 10 = ((m / 10 : Nat) : Int) := by rw [Int.tdiv_eq_ediv_of_nonneg (by omega)]; omega
    rw [em, ed, wrap_u64_nat (by omega)]
    have eb : IntKind.wrap .u8 (IntKind.wrap .u64 (48 + ((m % 10 : Nat) : Int))) = ((UInt8.ofNat (48 + m % 10)).toNat : Int) := by
      rw [wrap_u64 (by omega) (by omega), wrap_u8 (by omega) (by omega)]
      have : (UInt8.ofNat (48 + m % 10)).toNat = 48 + m % 10 := by rw [UInt8.toNat_ofNat']; omega
      rw [this]; omega
    rw [eb]
    refine newP_of ⟨str [UInt8.ofNat (48 + m % 10)], conv_str Num.tS Num.t8 Num.tT (bs := [UInt8.ofNat (48 + m % 10)]) row_new rfl, ?_, ?_, ?_⟩
    · rw [str_size, str_size, maxi]; simp only [List.length_cons, List.length_nil]; omega
    · have hd' : ([UInt8.ofNat (48 + m % 10)] ++ d).length ≤ 20 := by
        have := congrArg List.length hdec
        rw [List.length_append] at this
        have h1 : 1 ≤ (Lib.decDigits m).length := by rw [Lib.decDigits_length]; exact Lib.nDigits_pos m
        rw [List.length_append, List.length_cons, List.length_nil]; omega
      refine ⟨m / 10, [UInt8.ofNat (48 + m % 10)] ++ d, rfl, str_app _ _, fg.tt (Fr.push _ _), by omega, hd', ?_⟩
      by_cases hs : m < 10
      · rw [Lib.decDigits_one hs] at hdec
        refine .inl ⟨by omega, by simp, ?_⟩
        rw [← hdec, Nat.mod_eq_of_lt hs]
      · rw [Lib.decDigits, dif_neg hs, List.append_assoc] at hdec
        exact .inr ⟨fun q => by omega, hdec⟩
    · rw [str_app, str_size, str_size, if_neg (by simp)]
      simp only [Int.toNat_natCast]
      by_cases hm0 : m = 0
      · have : d = [] := by
          cases d with
          | nil => rfl
          | cons a l => exact absurd ⟨hm0, by simp⟩ hgo
        subst this; subst hm0; simp
      · split <;> omega
  by_cases hm0 : m = 0
  · subst hm0
    rw [if_neg (by simp)]
    rw [nil_eq]
    by_cases hd0 : d = []
    · subst hd0; exact more (by simp)
    · have hne : ¬ str d = ⟨#[]⟩ := fun e => hd0 (by have := congrArg (fun s => s.data.toList) e; simpa [str] using this)
      rw [decide_eq_false hne]
      clear more
      subst hJ
      have : d = Lib.decDigits k := by
        rcases hinv with ⟨_, _, h3⟩ | ⟨h1, _⟩
        · exact h3
        · exact absurd ⟨rfl, hd0⟩ h1
      rw [this]
      exact hk g fg
  · rw [if_pos (decide_eq_true (by omega))]
    exact more (by omega)
theorem path_ok (x : Ev) (h1 : x.host.size ≤ 1000) (h2 : x.dem.size ≤ 1000) (hk : ∀ h', Fr (fun _ => False) h h' → R (.string (str ([47, 47] ++ x.host.data.toList ++ [47] ++ x.dem.data.toList))) h') : CallsH Tryd.prog F.eid_path #[ev5 x] h R := by
  refine eid_path.walk (eid_Eid.box fun b h3 eb hb f3 => ⟨_, cell_at hb rfl, ?_⟩)
  have e1 : (⟨#[47, 47]⟩ : ByteArray) = str [47, 47] := rfl
  have e2 : (⟨#[47]⟩ : ByteArray) = str [47] := rfl
  have l1 := data_len x.host
  have l2 := data_len x.dem
  have K := hk h3 f3
  rw [e1, e2, maxi]
  refine ⟨?_, ?_, _, cell_at hb rfl, ?_, ?_⟩
  · rw [str_size]; simp; omega
  · rw [str_self x.host, str_app, str_size, str_size]; simp; omega
  · rw [str_self x.host, str_app, str_app, str_size]; simp; omega
  · rw [str_self x.host, str_self x.dem, str_app, str_app, str_app]; exact K
theorem text_ok (x : Ev) (tb : Num.Tab h) (w1 : 0 ≤ x.svc) (hk : ∀ h', Fr (fun _ => False) h h' → R (.tuple #[.string (if rightE x = true then str (textE x) else ⟨#[]⟩), .int .i64 (if rightE x = true then 0 else 3)]) h') : CallsH Tryd.prog F.eid_Text #[ev5 x] h R := by
  refine eid_Text.walk (eid_Eid.box fun b h1 eb hb f1 => eid_Eid.ld hb (right_ok x fun h2 f2 => ⟨_, rfl, ?_⟩))
  by_cases hr : rightE x = true
  · simp only [hr, if_true] at hk
    rw [if_neg (by simpa using hr)]
    have hb2 := f2.get hb id
    have F2 := f1.tt f2
    have tb2 := tb.on F2
    refine eid_Eid.ld hb2 ⟨_, eqv' (y := .zero) (x := x) rfl rfl, ?_⟩
    unfold textE at hk
    unfold rightE at hr
    by_cases z : x = .zero
    · rw [if_pos (decide_eq_true z)]
      rw [if_pos z] at hk
      exact hk h2 F2
    rw [if_neg (by simpa using z)]
    rw [if_neg z] at hr
    simp only [if_neg z] at hk
    refine ⟨_, cell_at hb2 rfl, ?_⟩
    have e1 : (⟨#[105, 112, 110, 58]⟩ : ByteArray) = str [105, 112, 110, 58] := rfl
    have e2 : (⟨#[46]⟩ : ByteArray) = str [46] := rfl
    have e3 : (⟨#[100, 116, 110, 58]⟩ : ByteArray) = str [100, 116, 110, 58] := rfl
    by_cases hi : x.ipn = true
    · rw [if_pos hi] at hr ⊢
      simp only [if_pos hi] at hk
      have hr := of_decide_eq_true hr
      have l1 := dec_len (u := x.node.toNat) (by omega)
      have l2 := dec_len (u := x.svc.toNat) (by omega)
      have n1 : x.node = ((x.node.toNat : Nat) : Int) := by omega
      have n2 : x.svc = ((x.svc.toNat : Nat) : Int) := by omega
      rw [e1, e2, maxi]
      refine ⟨_, cell_at hb2 rfl, _, cell_at hb2 rfl, ?_⟩
      rw [n1]
      refine Num.formatUint_ok tb2 (by omega) fun h3 f3 => ⟨_, rfl, cell_at (f3.get hb2 id) rfl, ?_⟩
      have c1 : (⟨(Lib.decDigits x.node.toNat).toArray⟩ : ByteArray) = str (Lib.decDigits x.node.toNat) := rfl
      have c2 : (⟨(Lib.decDigits x.svc.toNat).toArray⟩ : ByteArray) = str (Lib.decDigits x.svc.toNat) := rfl
      rw [c1]
      refine ⟨?_, ?_, ?_⟩
      · rw [str_size, str_size]; simp; omega
      · rw [str_app, str_size, str_size]; simp; omega
      rw [n2]
      refine Num.formatUint_ok (tb2.on f3) (by omega) fun h4 f4 => ⟨_, rfl, ?_⟩
      rw [c2]
      refine ⟨?_, ?_⟩
      · rw [str_app, str_app, str_size, str_size]; simp; omega
      · rw [str_app, str_app, str_app]; exact hk h4 (F2.tt (f3.tt f4))
    · rw [if_neg hi] at hr ⊢
      simp only [if_neg hi] at hk
      simp only [Bool.and_eq_true, decide_eq_true_eq] at hr
      refine eid_Eid.ld hb2 (path_ok x (by omega) (by omega) fun h3 f3 => ⟨_, rfl, ?_⟩)
      have l1 := data_len x.host
      have l2 := data_len x.dem
      rw [e3, maxi]
      refine ⟨?_, ?_⟩
      · rw [str_size, str_size]; simp; omega
      · rw [str_app]; exact hk h3 (F2.tt f3)
  · simp only [hr, Bool.false_eq_true, if_false] at hk
    rw [if_pos (by simpa using hr)]
    exact hk h2 (f1.tt f2)
theorem rtext_ok (x : Ev) (hr : rightE x = true) (w1 : 0 ≤ x.svc) (hk : ∀ h', Fr (fun _ => False) h h' → R (.string (str (textE x))) h') : CallsH Tryd.prog F.ref04_Text #[ev5 x] h R := by
  refine ref04_Text.walk (ref04_Eid.box fun b h1 eb hb f1 => ref04_Eid.ld hb (rkind_ok x fun h2 f2 => ⟨_, rfl, ?_⟩))
  have hb2 := f2.get hb id
  have F2 := f1.tt f2
  have ek : kindE x = classE x := by unfold kindE; rw [if_pos hr]
  rw [ek]
  unfold classE
  unfold textE at hk
  unfold rightE at hr
  by_cases z : x = .zero
  · rw [if_pos z, if_pos (by decide)]
    rw [if_pos z] at hk
    exact hk h2 F2
  rw [if_neg z] at hr ⊢
  simp only [if_neg z] at hk
  have e1 : (⟨#[105, 112, 110, 58]⟩ : ByteArray) = str [105, 112, 110, 58] := rfl
  have e2 : (⟨#[46]⟩ : ByteArray) = str [46] := rfl
  have e3 : (⟨#[100, 116, 110, 58, 47, 47]⟩ : ByteArray) = str [100, 116, 110, 58, 47, 47] := rfl
  have e4 : (⟨#[47]⟩ : ByteArray) = str [47] := rfl
  by_cases hi : x.ipn = true
  · rw [if_pos hi] at hr ⊢
    simp only [if_pos hi] at hk
    have hr := of_decide_eq_true hr
    have l1 := dec_len (u := x.node.toNat) (by omega)
    have l2 := dec_len (u := x.svc.toNat) (by omega)
    rw [if_neg (by decide), if_pos (by decide), e1, e2, maxi]
    refine ⟨_, cell_at hb2 rfl, _, cell_at hb2 rfl, ?_⟩
    refine rdigits_ok x.node.toNat (by omega) (by omega) fun h3 f3 => ⟨_, rfl, cell_at (f3.get hb2 id) rfl, ?_, ?_, ?_⟩
    · rw [str_size, str_size]; simp; omega
    · rw [str_app, str_size, str_size]; simp; omega
    refine rdigits_ok x.svc.toNat (by omega) (by omega) fun h4 f4 => ⟨_, rfl, ?_, ?_⟩
    · rw [str_app, str_app, str_size, str_size]; simp; omega
    · rw [str_app, str_app, str_app]; exact hk h4 (F2.tt (f3.tt f4))
  · rw [if_neg hi] at hr ⊢
    simp only [if_neg hi] at hk
    simp only [Bool.and_eq_true, decide_eq_true_eq] at hr
    have l1 := data_len x.host
    have l2 := data_len x.dem
    rw [if_neg (by decide), if_neg (by decide), e3, e4, maxi]
    refine ⟨_, cell_at hb2 rfl, ?_, ?_, _, cell_at hb2 rfl, ?_, ?_⟩
    · rw [str_size]; simp; omega
    · rw [str_self x.host, str_app, str_size, str_size]; simp; omega
    · rw [str_self x.host, str_app, str_app, str_size]; simp; omega
    · rw [str_self x.host, str_self x.dem, str_app, str_app, str_app]
      have := hk h2 F2
      simpa using this
end Eid
end Go.Proofs.YtgccegnmggjkjaaDoor
