/-
  What is proved here: what the functions of package fields do to bytes, writers and readers in memory. No condition.
-/
import Derived.Test.YtgccegnmggjkjaaDoorClone
import Derived.Test.YtgccegnmggjkjaaDoorBack
import Derived.Test.YtgccegnmggjkjaaDoorStep
set_option maxRecDepth 100000
namespace Go.Proofs.YtgccegnmggjkjaaDoor
open Go.Den Go.Fields
namespace Fld

variable {h h0 : Heap} {w r : Nat} {S : Nat → Prop} {bs : List UInt8} {e : Int} {R : Value → Heap → Prop}

/-! ### the writer -/
/-- w is a writer of bs; S: its blocks -/
def Wr (h : Heap) (w : Nat) (S : Nat → Prop) (bs : List UInt8) : Prop :=
  ∃ p c, h[w]? = some (.cells #[.bool true, .slice p bs.length c] T.fields_Writer (0, 0)) ∧ Own h p bs.length c 1 (bc bs) ∧ ¬ inBlk p w ∧ ∀ x, S x ↔ x = w ∨ inBlk p x
/-- w is a writer that no call made -/
def WrZ (h : Heap) (w : Nat) : Prop := h[w]? = some (.cells #[.bool false, .slice none 0 0] T.fields_Writer (0, 0))

theorem Wr.lt (H : Wr h w S bs) : ∀ x, S x → x < h.size := by
  obtain ⟨p, c, hb, o, _, hs⟩ := H
  intro x hx
  rcases (hs x).1 hx with rfl | hx
  · exact lt_of_get hb
  · exact o.blk_lt hx
theorem Wr.frame {Q : Nat → Prop} {h' : Heap} (H : Wr h w S bs) (hf : Fr Q h h') (hn : ∀ x, S x → ¬ Q x) : Wr h' w S bs := by
  obtain ⟨p, c, hb, o, hw, hs⟩ := H
  exact ⟨p, c, hf.get hb (hn w ((hs w).2 (.inl rfl))), o.frame hf (fun x hx => hn x ((hs x).2 (.inr hx))), hw, hs⟩
theorem Wr.self (H : Wr h w S bs) : S w := by
  obtain ⟨p, c, _, _, _, hs⟩ := H; exact (hs w).2 (.inl rfl)

theorem new_ok (hk : ∀ h' w S, Wr h' w S [] → Fr (fun _ => False) h h' → (∀ x, S x → h.size ≤ x) → R (.pointer (some ⟨w, 0, none⟩)) h') : CallsH Tryd.prog F.fields_New #[] h R := by
  refine fields_New.walk (newP_of ?_)
  refine hk _ _ (fun x => x = h.size) ⟨none, 0, push_new, .nil rfl rfl rfl rfl, (fun ⟨a, e, _⟩ => by cases e), fun x => ?_⟩ (Fr.push _ _) (fun x hx => by omega)
  constructor
  · exact .inl
  · rintro (hx | ⟨a, e, _⟩)
    · exact hx
    · cases e

theorem Wr.store {p p' : Option Addr} {c c' n : Nat} {h1 : Heap} {cs : List UInt8} {K : Heap → Prop} (hb : h[w]? = some (.cells #[.bool true, .slice p bs.length c] T.fields_Writer (0, 0))) (hw : ¬ inBlk p w) (hs : ∀ x, S x ↔ x = w ∨ inBlk p x)
    (o : Own h1 p' (bs.length + n) c' 1 (bc bs ++ bc cs)) (f : Fr (inBlk p) h h1) (g : ∀ x, inBlk p' x → inBlk p x ∨ h.size ≤ x) (hn : n = cs.length)
    (hk : ∀ h' S', Wr h' w S' (bs ++ cs) → Step S h S' h' → K h') : StoreP h1 ⟨w, 1, none⟩ (.slice p' (bs.length + n) c') K := by
  subst hn
  have hb1 := f.get hb hw
  have hlt := lt_of_get hb
  have hw' : ¬ inBlk p' w := fun hx => (g w hx).elim hw (fun h2 => by omega)
  refine storeP_blk hb1 (by simp) fun h' k1 k2 k3 => ?_
  have f2 : Fr (fun x => x = w) h1 h' := Fr.of_eq k2 k3
  refine hk h' (fun x => x = w ∨ inBlk p' x) ⟨p', c', ?_, ?_, hw', fun x => Iff.rfl⟩ ⟨?_, ?_⟩
  · rw [k1, List.length_append]; rfl
  · rw [List.length_append, bc_append]
    exact o.frame f2 (fun x hx e => hw' (e ▸ hx))
  · exact f.trans f2 (fun x _ hx => (hs x).2 (.inr hx)) (fun x _ hx => (hs x).2 (.inl hx))
  · rintro x (hx | hx)
    · exact .inl ((hs x).2 (.inl hx))
    · exact (g x hx).imp (fun h2 => (hs x).2 (.inr h2)) id

theorem Wr.push {x : Int} {b : UInt8} {K : Heap → Prop} (H : Wr h w S bs) (hl : bs.length ≤ 1099511627786) (hx : x = (b.toNat : Int)) (hk : ∀ h' S', Wr h' w S' (bs ++ [b]) → Step S h S' h' → K h') :
    ∃ (p : Option Addr) (l c : Nat), hcell h ⟨w, 1, none⟩ = some (.slice p l c) ∧
    NewP h (.cells #[.int .u8 x] T.uint8) fun b h_1 =>
    denSem Tryd.prog (Builtin.append_ #[T.s_uint8, T.s_uint8] T.s_uint8 #[.slice p l c, .slice (some ⟨b, 0, none⟩) 1 1]) h_1 fun v h_2 =>
    ∃ (q : Option Addr) (m d : Nat), v = .slice q m d ∧ StoreP h_2 ⟨w, 1, none⟩ (.slice q m d) K := by
  obtain ⟨p, c, hb, o, hw, hs⟩ := H
  refine ⟨p, bs.length, c, cell_at hb rfl, ?_⟩
  refine den_append1 tU uU o rfl (fun v hv => by simp at hv; subst hv; rfl) (by omega) (by omega) ?_
  intro p' c' h1 o1 f1 g1
  subst hx
  exact ⟨_, _, _, rfl, Wr.store (cs := [b]) hb hw hs o1 f1 g1 rfl hk⟩

def numI (h0 : Heap) (w : Nat) (S0 : Nat → Prop) (bs : List UInt8) (n0 : Nat) (n : Int) (h : Heap) : Prop :=
  ∃ (m : Nat) (S : Nat → Prop) (d : List UInt8), n = (m : Int) ∧ m < 18446744073709551616 ∧ Wr h w S (bs ++ d) ∧ d ++ encNum m = encNum n0 ∧ Step S0 h0 S h

theorem num_ok {n : Int} (k : Nat) (H : Wr h w S bs) (hl : bs.length ≤ 1099511627776) (e : n = (k : Int)) (hn : k < 18446744073709551616)
    (hk : ∀ h' S', Wr h' w S' (bs ++ encNum k) → Step S h S' h' → R (.pointer (some ⟨w, 0, none⟩)) h') : CallsH Tryd.prog F.fields_Writer_Num #[.pointer (some ⟨w, 0, none⟩), .int .u64 n] h R := by
  subst e
  refine fields_Writer_Num.walk ?_
  obtain ⟨p, c, hb, _⟩ := id H
  refine JoinP.of fun J hJ => ⟨true, cell_at hb rfl, ?_⟩
  subst hJ
  simp only [Bool.not_true, Bool.false_eq_true, if_false]
  clear hb
  refine ⟨numI h w S bs k, fun n _ => n.toNat, ⟨k, S, [], rfl, hn, by simpa using H, rfl, Step.refl _ _⟩, ?_⟩
  rintro _ h2 ⟨m, S2, d, rfl, hm, H2, hd, st⟩
  have hdl : d.length ≤ 10 := by
    have := congrArg List.length hd
    rw [List.length_append] at this
    have := (encNum_len k).2
    omega
  by_cases hgt : (m : Int) > 127
  · simp only [hgt, decide_true, if_true]
    refine H2.push (by rw [List.length_append]; omega) (or128 m) fun h5 S5 H5 st5 => ?_
    rw [shr7]
    refine ⟨⟨m / 128, S5, d ++ [UInt8.ofNat (m % 128 + 128)], rfl, by omega, by rwa [List.append_assoc] at H5, ?_, st.trans st5⟩, ?_⟩
    · rw [← hd, encNum_step hm, if_pos (by omega)]; simp
    · show Int.toNat ((m / 128 : Nat) : Int) < Int.toNat (m : Int)
      omega
  · simp only [hgt, decide_false, Bool.false_eq_true, if_false]
    refine H2.push (by rw [List.length_append]; omega) (b := UInt8.ofNat m) (by rw [wrap_u8_nat, UInt8.toNat_ofNat']) fun h5 S5 H5 st5 => ?_
    refine hk h5 S5 ?_ (st.trans st5)
    rwa [← hd, encNum_step hm, if_neg (by omega), ← List.append_assoc]
theorem num_zero {n : Int} (H : WrZ h w) (hk : R (.pointer (some ⟨w, 0, none⟩)) h) : CallsH Tryd.prog F.fields_Writer_Num #[.pointer (some ⟨w, 0, none⟩), .int .u64 n] h R := by
  refine fields_Writer_Num.walk (JoinP.of fun J hJ => ⟨false, cell_at H rfl, ?_⟩)
  subst hJ
  exact hk
theorem num_nil {n : Int} (hk : R (.pointer none) h) : CallsH Tryd.prog F.fields_Writer_Num #[.pointer none, .int .u64 n] h R :=
  fields_Writer_Num.nil.walk hk
theorem max0 (n : Int) (h2 : n ≤ 9223372036854775807) : IntKind.wrap .u64 (if 0 > n then 0 else n) = ((natOf n : Nat) : Int) := by
  unfold natOf
  split
  · rw [wrap_u64 (by omega) (by omega)]; omega
  · rw [wrap_u64 (by omega) (by omega)]; omega
theorem int_ok {n : Int} (H : Wr h w S bs) (hl : bs.length ≤ 1099511627776) (hn : n ≤ 9223372036854775807)
    (hk : ∀ h' S', Wr h' w S' (bs ++ encNum (natOf n)) → Step S h S' h' → R (.pointer (some ⟨w, 0, none⟩)) h') : CallsH Tryd.prog F.fields_Writer_Int #[.pointer (some ⟨w, 0, none⟩), .int .i64 n] h R :=
  fields_Writer_Int.walk (num_ok (natOf n) H hl (max0 n hn) (by unfold natOf; omega) fun h' S' H' st => ⟨_, rfl, hk h' S' H' st⟩)
theorem int_nil {n : Int} (hk : R (.pointer none) h) : CallsH Tryd.prog F.fields_Writer_Int #[.pointer none, .int .i64 n] h R :=
  fields_Writer_Int.nil.walk (num_nil ⟨_, rfl, hk⟩)
theorem text_ok' {p : Option Addr} {n c : Nat} {t : List UInt8} (H : Wr h w S bs) (hl : bs.length ≤ 1099511627776) (hr : Row h p (bc t)) (hn : n = t.length) (ht : t.length ≤ 1099511627776) (hp : ∀ x, inBlk p x → t ≠ [] → ¬ S x)
    (hk : ∀ h' S', Wr h' w S' (bs ++ encText t) → Step S h S' h' → R (.pointer (some ⟨w, 0, none⟩)) h') : CallsH Tryd.prog F.fields_Writer_Text #[.pointer (some ⟨w, 0, none⟩), .slice p n c] h R := by
  subst hn
  refine fields_Writer_Text.walk (num_ok t.length H hl (wrap_u64 (by omega) (by omega)) (by omega) fun h1 S1 H1 st1 => ⟨_, rfl, ?_⟩)
  obtain ⟨q, d, hb, o, hw, hs⟩ := H1
  refine JoinP.of fun J hJ => ⟨true, cell_at hb rfl, ?_⟩
  subst hJ
  refine JoinP.of fun J hJ => ?_
  simp only [if_true]
  subst hJ
  refine ⟨q, _, d, cell_at hb rfl, ?_⟩
  have hlen := (encNum_len t.length).2
  rw [List.length_append]
  rw [List.length_append] at o
  refine den_append tU uU o (by
    by_cases hne : t = []
    · rw [hne]; exact .inl rfl
    · exact hr.frame st1.fr (fun a e hx => hp _ ⟨a, e, rfl⟩ hne hx)) (by rw [bc_len, Nat.mul_one]) (bc_one t) (by omega) (by omega) ?_
  intro p' c' h' o1 _ f2 g
  refine ⟨_, _, _, rfl, ?_⟩
  rw [List.length_append] at hb
  have := Wr.store (n := t.length) (cs := t) (K := fun h_5 => R (Value.pointer (some { block := w, off := 0 })) h_5) (bs := bs ++ encNum t.length) (by rw [List.length_append]; exact hb) hw hs (by rw [List.length_append]; exact o1) f2 g rfl fun h2 S2 H2 st2 => ?_
  · rw [List.length_append] at this
    exact this
  · exact hk h2 S2 (by unfold encText; rwa [List.append_assoc] at H2) (st1.trans st2)
theorem text_ok {p : Option Addr} {n c : Nat} {t : List UInt8} (H : Wr h w S bs) (hl : bs.length ≤ 1099511627776) (hr : Row h p (bc t)) (hn : n = t.length) (ht : t.length ≤ 1099511627776) (hp : ∀ x, inBlk p x → ¬ S x)
    (hk : ∀ h' S', Wr h' w S' (bs ++ encText t) → Step S h S' h' → R (.pointer (some ⟨w, 0, none⟩)) h') : CallsH Tryd.prog F.fields_Writer_Text #[.pointer (some ⟨w, 0, none⟩), .slice p n c] h R :=
  text_ok' H hl hr hn ht (fun x hx _ => hp x hx) hk
theorem text_zero {p : Option Addr} {n c : Nat} (H : WrZ h w) (hk : R (.pointer (some ⟨w, 0, none⟩)) h) : CallsH Tryd.prog F.fields_Writer_Text #[.pointer (some ⟨w, 0, none⟩), .slice p n c] h R := by
  refine fields_Writer_Text.walk (num_zero H ⟨_, rfl, JoinP.of fun J hJ => ⟨false, cell_at H rfl, ?_⟩⟩)
  subst hJ
  exact hk
theorem text_nil {p : Option Addr} {n c : Nat} (hk : R (.pointer none) h) : CallsH Tryd.prog F.fields_Writer_Text #[.pointer none, .slice p n c] h R :=
  fields_Writer_Text.nil.walk (num_nil ⟨_, rfl, hk⟩)
theorem bytes_ok (H : Wr h w S bs) (hl : bs.length ≤ 70368744177664)
    (hk : ∀ p' c' h', Own h' p' bs.length c' 1 (bc bs) → Fr (fun _ => False) h h' → (∀ x, inBlk p' x → h.size ≤ x) → R (.slice p' bs.length c') h') : CallsH Tryd.prog F.fields_Writer_Bytes #[.pointer (some ⟨w, 0, none⟩)] h R := by
  obtain ⟨p, c, hb, o, hw, hs⟩ := H
  exact fields_Writer_Bytes.walk ⟨p, _, c, cell_at hb rfl, clone_ok o.row' rfl hl fun p' c' h' o1 f1 g1 => ⟨_, _, _, rfl, hk p' c' h' o1 f1 g1⟩⟩
theorem bytes_zero (H : WrZ h w) (hk : ∀ h', Fr (fun _ => False) h h' → R (.slice none 0 0) h') : CallsH Tryd.prog F.fields_Writer_Bytes #[.pointer (some ⟨w, 0, none⟩)] h R := by
  refine fields_Writer_Bytes.walk ⟨none, 0, 0, cell_at H rfl, ?_⟩
  refine slices_Clone_s_byte_byte.walk ?_
  exact ⟨_, _, _, rfl, hk h (Fr.refl _ _)⟩
theorem bytes_nil (hk : R (.slice none 0 0) h) : CallsH Tryd.prog F.fields_Writer_Bytes #[.pointer none] h R := fields_Writer_Bytes.nil.walk hk

end Fld
end Go.Proofs.YtgccegnmggjkjaaDoor
