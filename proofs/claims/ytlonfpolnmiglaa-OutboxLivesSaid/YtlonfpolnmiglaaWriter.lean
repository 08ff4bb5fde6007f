/-
  What is proved here: what the functions of package fields do to bytes, writers and readers in memory. No condition.
-/
import Derived.Test.YtlonfpolnmiglaaVcA
import Derived.Test.YtlonfpolnmiglaaBack
import Derived.Test.YtlonfpolnmiglaaStep
set_option maxRecDepth 100000
namespace Go.Proofs.Ytlonfpolnmiglaa
open Go.Den Go.Fields
namespace Fld

variable {h h0 : Heap} {w r : Nat} {S : Nat → Prop} {bs : List UInt8} {e : Int} {R : Value → Heap → Prop}

theorem tU : SlTy Try.prog T.s_uint8 T.uint8 1 1 (.int .u8 0) := ⟨by kernel_rfl, by kernel_rfl, rfl⟩
theorem uU : Try.prog.underlying T.s_uint8 = some (.slice T.uint8) := by kernel_rfl
theorem u8 : Try.prog.underlying T.uint8 = some (.int .u8) := by kernel_rfl
theorem uS : Try.prog.underlying T.string = some .string := by kernel_rfl
theorem conv {p : Option Addr} {n c : Nat} (hr : Row h p (bc bs)) (hn : n = bs.length) : ConvV Try.prog T.s_uint8 T.string (.slice p n c) h (str bs) := conv_str uU u8 uS hr hn

theorem clone_ok {p : Option Addr} {c n : Nat} (hr : Row h p (bc bs)) (hn : n = bs.length) (hl : bs.length ≤ 70368744177664)
    (hk : ∀ p' c' h', Own h' p' bs.length c' 1 (bc bs) → Fr (fun _ => False) h h' → (∀ x, inBlk p' x → h.size ≤ x) → R (.slice p' bs.length c') h') :
    CallsH Try.prog F.slices_Clone_s_byte_byte #[.slice p n c] h R := by
  subst hn
  refine slices_Clone_s_byte_byte.walk ?_
  unfold slices_Clone_s_byte_byte.vc
  cases p with
  | none =>
    have : bs = [] := by
      rcases hr with hr | ⟨a, e, _⟩
      · cases bs with
        | nil => rfl
        | cons b bs => cases hr
      · cases e
    subst this
    exact hk none 0 h (.nil rfl rfl rfl rfl) (Fr.refl _ _) (fun x ⟨a, e, _⟩ => by cases e)
  | some a =>
    simp only [Option.isNone_some, Bool.false_eq_true, if_false]
    refine newP_of ?_
    have f1 : Fr (fun _ => False) h (h.push (.cells #[] T.uint8)) := Fr.push _ _
    refine den_append (cs := []) tU uU (.row h.size 0 #[] T.uint8 rfl push_new (Nat.le_refl _) (by simp) rfl (fun j v hj => by cases hj)) (hr.frame f1 (fun _ _ => id)) (by rw [bc_len, Nat.mul_one]) (bc_one bs) (by omega) (by omega) ?_
    intro p' c' h' o1 _ f2 g
    rw [Nat.zero_add, List.nil_append] at o1
    refine ⟨_, _, _, rfl, ?_⟩
    rw [Nat.zero_add]
    have g' : ∀ x, inBlk p' x → h.size ≤ x := fun x hx => by
      rcases g x hx with ⟨a, e, rfl⟩ | h2
      · cases e; exact Nat.le_refl _
      · simp at h2; omega
    exact hk p' c' h' o1 (f1.step f2 (fun c hc ⟨a, e, e2⟩ => by cases e; simp at e2; omega)) g'

/-- bytes of a literal -/
theorem lit_ok {bs : List UInt8} {n : Nat} {cs : Array Value} {K : Option Addr → Nat → Nat → Heap → Prop} (hc : cs = (bc bs).toArray) (hk : ∀ h', Row h' (some ⟨h.size, 0, none⟩) (bc bs) → Fr (fun _ => False) h h' → K (some ⟨h.size, 0, none⟩) n n h') :
    NewP h (.cells cs T.uint8) fun b h_4 => denSem Try.prog (convert T.s_uint8 T.s_uint8 (.slice (some ⟨b, 0, none⟩) n n)) h_4 fun v h_5 => ∃ (p : Option Addr) (l c : Nat), v = .slice p l c ∧ K p l c h_5 := by
  subst hc
  refine newP_of (den_lit uU u8 (a := ⟨h.size, 0, none⟩) push_new fun h4 fz4 hb4 sz4 ot4 => ⟨_, _, _, rfl, ?_⟩)
  refine hk h4 (.inr ⟨_, rfl, heldL_blk hb4 (fun j v hj => by rw [Nat.zero_add]; simpa using hj)⟩) ⟨by rw [sz4]; simp, fun c hc _ => by rw [ot4 c (by simp; omega), Array.getElem?_push, if_neg (by omega)]⟩

/-! ### the writer -/
/-- w is a writer of bs; S: its blocks -/
def Wr (h : Heap) (w : Nat) (S : Nat → Prop) (bs : List UInt8) : Prop :=
  ∃ p c, h[w]? = some (.cells #[.bool true, .slice p bs.length c] T.fields_Writer (0, 0)) ∧ Own h p bs.length c 1 (bc bs) ∧ ¬ inBlk p w ∧ ∀ x, S x ↔ x = w ∨ inBlk p x
/-- w is a writer that no call made -/
def WrZ (h : Heap) (w : Nat) : Prop := h[w]? = some (.cells #[.bool false, .slice none 0 0] T.fields_Writer (0, 0))

theorem Wr.lt (H : Wr h w S bs) : ∀ x, S x → x < h.size := by
  obtain ⟨p, c, hb, o, _, hs⟩ := H
  intro x hx
  rcases (hs x).1 hx with rfl | hx
  · exact lt_of_get hb
  · exact o.blk_lt hx
theorem Wr.frame {Q : Nat → Prop} {h' : Heap} (H : Wr h w S bs) (hf : Fr Q h h') (hn : ∀ x, S x → ¬ Q x) : Wr h' w S bs := by
  obtain ⟨p, c, hb, o, hw, hs⟩ := H
  exact ⟨p, c, hf.get hb (hn w ((hs w).2 (.inl rfl))), o.frame hf (fun x hx => hn x ((hs x).2 (.inr hx))), hw, hs⟩
theorem Wr.self (H : Wr h w S bs) : S w := by
  obtain ⟨p, c, _, _, _, hs⟩ := H; exact (hs w).2 (.inl rfl)

theorem new_ok (hk : ∀ h' w S, Wr h' w S [] → Fr (fun _ => False) h h' → (∀ x, S x → h.size ≤ x) → R (.pointer (some ⟨w, 0, none⟩)) h') : CallsH Try.prog F.fields_New #[] h R := by
  refine fields_New.walk (newP_of ?_)
  refine hk _ _ (fun x => x = h.size) ⟨none, 0, push_new, .nil rfl rfl rfl rfl, (fun ⟨a, e, _⟩ => by cases e), fun x => ?_⟩ (Fr.push _ _) (fun x hx => by omega)
  constructor
  · exact .inl
  · rintro (hx | ⟨a, e, _⟩)
    · exact hx
    · cases e

theorem Wr.store {p p' : Option Addr} {c c' n : Nat} {h1 : Heap} {cs : List UInt8} {K : Heap → Prop} (hb : h[w]? = some (.cells #[.bool true, .slice p bs.length c] T.fields_Writer (0, 0))) (hw : ¬ inBlk p w) (hs : ∀ x, S x ↔ x = w ∨ inBlk p x)
    (o : Own h1 p' (bs.length + n) c' 1 (bc bs ++ bc cs)) (f : Fr (inBlk p) h h1) (g : ∀ x, inBlk p' x → inBlk p x ∨ h.size ≤ x) (hn : n = cs.length)
    (hk : ∀ h' S', Wr h' w S' (bs ++ cs) → Step S h S' h' → K h') : StoreP h1 ⟨w, 1, none⟩ (.slice p' (bs.length + n) c') K := by
  subst hn
  have hb1 := f.get hb hw
  have hlt := lt_of_get hb
  have hw' : ¬ inBlk p' w := fun hx => (g w hx).elim hw (fun h2 => by omega)
  refine storeP_blk hb1 (by simp) fun h' k1 k2 k3 => ?_
  have f2 : Fr (fun x => x = w) h1 h' := Fr.of_eq k2 k3
  refine hk h' (fun x => x = w ∨ inBlk p' x) ⟨p', c', ?_, ?_, hw', fun x => Iff.rfl⟩ ⟨?_, ?_⟩
  · rw [k1, List.length_append]; rfl
  · rw [List.length_append, bc_append]
    exact o.frame f2 (fun x hx e => hw' (e ▸ hx))
  · exact f.trans f2 (fun x _ hx => (hs x).2 (.inr hx)) (fun x _ hx => (hs x).2 (.inl hx))
  · rintro x (hx | hx)
    · exact .inl ((hs x).2 (.inl hx))
    · exact (g x hx).imp (fun h2 => (hs x).2 (.inr h2)) id

theorem Wr.push {x : Int} {b : UInt8} {K : Heap → Prop} (H : Wr h w S bs) (hl : bs.length ≤ 1099511627786) (hx : x = (b.toNat : Int)) (hk : ∀ h' S', Wr h' w S' (bs ++ [b]) → Step S h S' h' → K h') :
    ∃ (p : Option Addr) (l c : Nat), hcell h ⟨w, 1, none⟩ = some (.slice p l c) ∧
    NewP h (.cells #[.int .u8 x] T.uint8) fun b h_1 =>
    denSem Try.prog (Builtin.append_ #[T.s_uint8, T.s_uint8] T.s_uint8 #[.slice p l c, .slice (some ⟨b, 0, none⟩) 1 1]) h_1 fun v h_2 =>
    ∃ (q : Option Addr) (m d : Nat), v = .slice q m d ∧ StoreP h_2 ⟨w, 1, none⟩ (.slice q m d) K := by
  obtain ⟨p, c, hb, o, hw, hs⟩ := H
  refine ⟨p, bs.length, c, cell_at hb rfl, ?_⟩
  refine den_append1 tU uU o rfl (fun v hv => by simp at hv; subst hv; rfl) (by omega) (by omega) ?_
  intro p' c' h1 o1 f1 g1
  subst hx
  exact ⟨_, _, _, rfl, Wr.store (cs := [b]) hb hw hs o1 f1 g1 rfl hk⟩

def numI (h0 : Heap) (w : Nat) (S0 : Nat → Prop) (bs : List UInt8) (n0 : Nat) (n : Int) (h : Heap) : Prop :=
  ∃ (m : Nat) (S : Nat → Prop) (d : List UInt8), n = (m : Int) ∧ m < 18446744073709551616 ∧ Wr h w S (bs ++ d) ∧ d ++ encNum m = encNum n0 ∧ Step S0 h0 S h

theorem num_ok {n : Int} (k : Nat) (H : Wr h w S bs) (hl : bs.length ≤ 1099511627776) (e : n = (k : Int)) (hn : k < 18446744073709551616)
    (hk : ∀ h' S', Wr h' w S' (bs ++ encNum k) → Step S h S' h' → R (.pointer (some ⟨w, 0, none⟩)) h') : CallsH Try.prog F.fields_Writer_Num #[.pointer (some ⟨w, 0, none⟩), .int .u64 n] h R := by
  subst e
  refine fields_Writer_Num.walk ?_
  obtain ⟨p, c, hb, _⟩ := id H
  refine JoinP.of fun J hJ => ⟨true, cell_at hb rfl, ?_⟩
  subst hJ
  simp only [Bool.not_true, Bool.false_eq_true, if_false]
  clear hb
  refine ⟨numI h w S bs k, fun n _ => n.toNat, ⟨k, S, [], rfl, hn, by simpa using H, rfl, Step.refl _ _⟩, ?_⟩
  rintro _ h2 ⟨m, S2, d, rfl, hm, H2, hd, st⟩
  have hdl : d.length ≤ 10 := by
    have := congrArg List.length hd
    rw [List.length_append] at this
    have := (encNum_len k).2
    omega
  by_cases hgt : (m : Int) > 127
  · simp only [hgt, decide_true, if_true]
    refine H2.push (by rw [List.length_append]; omega) (or128 m) fun h5 S5 H5 st5 => ?_
    rw [shr7]
    refine ⟨⟨m / 128, S5, d ++ [UInt8.ofNat (m % 128 + 128)], rfl, by omega, by rwa [List.append_assoc] at H5, ?_, st.trans st5⟩, ?_⟩
    · rw [← hd, encNum_step hm, if_pos (by omega)]; simp
    · show Int.toNat ((m / 128 : Nat) : Int) < Int.toNat (m : Int)
      omega
  · simp only [hgt, decide_false, Bool.false_eq_true, if_false]
    refine H2.push (by rw [List.length_append]; omega) (b := UInt8.ofNat m) (by rw [wrap_u8_nat, UInt8.toNat_ofNat']) fun h5 S5 H5 st5 => ?_
    refine hk h5 S5 ?_ (st.trans st5)
    rwa [← hd, encNum_step hm, if_neg (by omega), ← List.append_assoc]
theorem num_zero {n : Int} (H : WrZ h w) (hk : R (.pointer (some ⟨w, 0, none⟩)) h) : CallsH Try.prog F.fields_Writer_Num #[.pointer (some ⟨w, 0, none⟩), .int .u64 n] h R := by
  refine fields_Writer_Num.walk (JoinP.of fun J hJ => ⟨false, cell_at H rfl, ?_⟩)
  subst hJ
  exact hk
theorem num_nil {n : Int} (hk : R (.pointer none) h) : CallsH Try.prog F.fields_Writer_Num #[.pointer none, .int .u64 n] h R :=
  fields_Writer_Num.nil.walk hk
theorem max0 (n : Int) (h2 : n ≤ 9223372036854775807) : IntKind.wrap .u64 (if 0 > n then 0 else n) = ((natOf n : Nat) : Int) := by
  unfold natOf
  split
  · rw [wrap_u64 (by omega) (by omega)]; omega
  · rw [wrap_u64 (by omega) (by omega)]; omega
theorem int_ok {n : Int} (H : Wr h w S bs) (hl : bs.length ≤ 1099511627776) (hn : n ≤ 9223372036854775807)
    (hk : ∀ h' S', Wr h' w S' (bs ++ encNum (natOf n)) → Step S h S' h' → R (.pointer (some ⟨w, 0, none⟩)) h') : CallsH Try.prog F.fields_Writer_Int #[.pointer (some ⟨w, 0, none⟩), .int .i64 n] h R :=
  fields_Writer_Int.walk (num_ok (natOf n) H hl (max0 n hn) (by unfold natOf; omega) fun h' S' H' st => ⟨_, rfl, hk h' S' H' st⟩)
theorem int_nil {n : Int} (hk : R (.pointer none) h) : CallsH Try.prog F.fields_Writer_Int #[.pointer none, .int .i64 n] h R :=
  fields_Writer_Int.nil.walk (num_nil ⟨_, rfl, hk⟩)
theorem text_ok' {p : Option Addr} {n c : Nat} {t : List UInt8} (H : Wr h w S bs) (hl : bs.length ≤ 1099511627776) (hr : Row h p (bc t)) (hn : n = t.length) (ht : t.length ≤ 1099511627776) (hp : ∀ x, inBlk p x → t ≠ [] → ¬ S x)
    (hk : ∀ h' S', Wr h' w S' (bs ++ encText t) → Step S h S' h' → R (.pointer (some ⟨w, 0, none⟩)) h') : CallsH Try.prog F.fields_Writer_Text #[.pointer (some ⟨w, 0, none⟩), .slice p n c] h R := by
  subst hn
  refine fields_Writer_Text.walk (num_ok t.length H hl (wrap_u64 (by omega) (by omega)) (by omega) fun h1 S1 H1 st1 => ⟨_, rfl, ?_⟩)
  obtain ⟨q, d, hb, o, hw, hs⟩ := H1
  refine JoinP.of fun J hJ => ⟨true, cell_at hb rfl, ?_⟩
  subst hJ
  refine JoinP.of fun J hJ => ?_
  simp only [if_true]
  subst hJ
  refine ⟨q, _, d, cell_at hb rfl, ?_⟩
  have hlen := (encNum_len t.length).2
  rw [List.length_append]
  rw [List.length_append] at o
  refine den_append tU uU o (by
    by_cases hne : t = []
    · rw [hne]; exact .inl rfl
    · exact hr.frame st1.fr (fun a e hx => hp _ ⟨a, e, rfl⟩ hne hx)) (by rw [bc_len, Nat.mul_one]) (bc_one t) (by omega) (by omega) ?_
  intro p' c' h' o1 _ f2 g
  refine ⟨_, _, _, rfl, ?_⟩
  rw [List.length_append] at hb
  have := Wr.store (n := t.length) (cs := t) (K := fun h_5 => R (Value.pointer (some { block := w, off := 0 })) h_5) (bs := bs ++ encNum t.length) (by rw [List.length_append]; exact hb) hw hs (by rw [List.length_append]; exact o1) f2 g rfl fun h2 S2 H2 st2 => ?_
  · rw [List.length_append] at this
    exact this
  · exact hk h2 S2 (by unfold encText; rwa [List.append_assoc] at H2) (st1.trans st2)
theorem text_ok {p : Option Addr} {n c : Nat} {t : List UInt8} (H : Wr h w S bs) (hl : bs.length ≤ 1099511627776) (hr : Row h p (bc t)) (hn : n = t.length) (ht : t.length ≤ 1099511627776) (hp : ∀ x, inBlk p x → ¬ S x)
    (hk : ∀ h' S', Wr h' w S' (bs ++ encText t) → Step S h S' h' → R (.pointer (some ⟨w, 0, none⟩)) h') : CallsH Try.prog F.fields_Writer_Text #[.pointer (some ⟨w, 0, none⟩), .slice p n c] h R :=
  text_ok' H hl hr hn ht (fun x hx _ => hp x hx) hk
theorem text_zero {p : Option Addr} {n c : Nat} (H : WrZ h w) (hk : R (.pointer (some ⟨w, 0, none⟩)) h) : CallsH Try.prog F.fields_Writer_Text #[.pointer (some ⟨w, 0, none⟩), .slice p n c] h R := by
  refine fields_Writer_Text.walk (num_zero H ⟨_, rfl, JoinP.of fun J hJ => ⟨false, cell_at H rfl, ?_⟩⟩)
  subst hJ
  exact hk
theorem text_nil {p : Option Addr} {n c : Nat} (hk : R (.pointer none) h) : CallsH Try.prog F.fields_Writer_Text #[.pointer none, .slice p n c] h R :=
  fields_Writer_Text.nil.walk (num_nil ⟨_, rfl, hk⟩)
theorem bytes_ok (H : Wr h w S bs) (hl : bs.length ≤ 70368744177664)
    (hk : ∀ p' c' h', Own h' p' bs.length c' 1 (bc bs) → Fr (fun _ => False) h h' → (∀ x, inBlk p' x → h.size ≤ x) → R (.slice p' bs.length c') h') : CallsH Try.prog F.fields_Writer_Bytes #[.pointer (some ⟨w, 0, none⟩)] h R := by
  obtain ⟨p, c, hb, o, hw, hs⟩ := H
  exact fields_Writer_Bytes.walk ⟨p, _, c, cell_at hb rfl, clone_ok o.row' rfl hl fun p' c' h' o1 f1 g1 => ⟨_, _, _, rfl, hk p' c' h' o1 f1 g1⟩⟩
theorem bytes_zero (H : WrZ h w) (hk : ∀ h', Fr (fun _ => False) h h' → R (.slice none 0 0) h') : CallsH Try.prog F.fields_Writer_Bytes #[.pointer (some ⟨w, 0, none⟩)] h R := by
  refine fields_Writer_Bytes.walk ⟨none, 0, 0, cell_at H rfl, ?_⟩
  refine slices_Clone_s_byte_byte.walk ?_
  exact ⟨_, _, _, rfl, hk h (Fr.refl _ _)⟩
theorem bytes_nil (hk : R (.slice none 0 0) h) : CallsH Try.prog F.fields_Writer_Bytes #[.pointer none] h R := fields_Writer_Bytes.nil.walk hk

/-! ### the reader -/
/-- r is a reader of bs, its fault is e; S: its blocks -/
def Rd (h : Heap) (r : Nat) (S : Nat → Prop) (e : Int) (bs : List UInt8) : Prop :=
  ∃ p c, h[r]? = some (.cells #[.int .i64 e, .bool true, .slice p bs.length c] T.fields_Reader (0, 0)) ∧ Own h p bs.length c 1 (bc bs) ∧ ¬ inBlk p r ∧ S r ∧ (∀ x, inBlk p x → S x) ∧ ∀ x, S x → x < h.size
theorem Rd.lt (H : Rd h r S e bs) : ∀ x, S x → x < h.size := by
  obtain ⟨p, c, _, _, _, _, _, hs⟩ := H; exact hs
theorem Rd.self (H : Rd h r S e bs) : S r := by
  obtain ⟨p, c, _, _, _, hs, _, _⟩ := H; exact hs
theorem Rd.frame {Q : Nat → Prop} {h' : Heap} (H : Rd h r S e bs) (hf : Fr Q h h') (hn : ∀ x, S x → ¬ Q x) : Rd h' r S e bs := by
  obtain ⟨p, c, hb, o, hr, h1, h2, h3⟩ := H
  exact ⟨p, c, hf.get hb (hn r h1), o.frame hf (fun x hx => hn x (h2 x hx)), hr, h1, h2, fun x hx => Nat.lt_of_lt_of_le (h3 x hx) hf.1⟩

theorem read_ok {p : Option Addr} {n c : Nat} (hr : Row h p (bc bs)) (hn : n = bs.length) (hl : bs.length ≤ 70368744177664)
    (hk : ∀ h' r S, Rd h' r S 0 bs → Fr (fun _ => False) h h' → (∀ x, S x → h.size ≤ x) → R (.pointer (some ⟨r, 0, none⟩)) h') : CallsH Try.prog F.fields_Read #[.slice p n c] h R := by
  refine fields_Read.walk (clone_ok hr hn hl fun p' c' h1 o1 f1 g1 => ⟨_, _, _, rfl, newP_of ?_⟩)
  refine hk _ _ (fun x => h.size ≤ x ∧ x ≤ h1.size) ⟨p', c', push_new, o1.frame (Fr.push (S := fun _ => False) _ _) (fun _ _ => id), ?_, ⟨f1.1, Nat.le_refl _⟩, ?_, ?_⟩ (Fr.on f1 (Fr.push _ _)) (fun x hx => hx.1)
  · intro hx; have := o1.blk_lt hx; omega
  · intro x hx; have := o1.blk_lt hx; exact ⟨g1 x hx, by omega⟩
  · intro x hx; rw [Array.size_push]; omega

theorem fail_ok {e' : Int} (H : Rd h r S e bs) (hk : ∀ h', Rd h' r S (failE e e') bs → Fr (fun x => x = r) h h' → R (.tuple #[]) h') : CallsH Try.prog F.fields_fault_fail #[.pointer (some ⟨r, 0, none⟩), .int .i64 e'] h R := by
  obtain ⟨p, c, hb, o, hr, h1, h2, h3⟩ := id H
  refine fields_fault_fail.walk ⟨e, cell_at hb rfl, ?_⟩
  unfold failE at hk
  by_cases h0 : e = 0
  · subst h0
    simp only [beq_self_eq_true, if_true]
    refine storeP_blk hb (by simp) fun h' k1 k2 k3 => ?_
    have f : Fr (fun x => x = r) h h' := Fr.of_eq k2 k3
    exact hk h' ⟨p, c, k1, o.frame f (fun x hx e => hr (e ▸ hx)), hr, h1, h2, fun x hx => by rw [k2]; exact h3 x hx⟩ f
  · simp only [beq_iff_eq, h0, if_false]
    simp only [h0, if_false] at hk
    exact hk h H (Fr.refl _ _)
theorem fine_ok (H : Rd h r S e bs) (hk : R (.bool (e == 0)) h) : CallsH Try.prog F.fields_Reader_fine #[.pointer (some ⟨r, 0, none⟩)] h R := by
  obtain ⟨p, c, hb, o, hr, h1, h2, h3⟩ := H
  exact fields_Reader_fine.walk ⟨true, cell_at hb rfl, e, cell_at hb rfl, hk⟩

def rnumI (h0 : Heap) (r : Nat) (S : Nat → Prop) (bs : List UInt8) (n i : Int) (h : Heap) : Prop :=
  ∃ (k a : Nat) (rest : List UInt8), i = (k : Int) ∧ n = (a : Int) ∧ k ≤ 10 ∧ a < 2 ^ (7 * k) ∧ a < 18446744073709551616 ∧ Rd h r S 0 rest ∧ Fr (fun x => x = r) h0 h ∧ rdN k a rest = rdN 0 0 bs

theorem rnum_ok (H : Rd h r S e bs) (hk : ∀ h', Rd h' r S (readNum e bs).2.1 (readNum e bs).2.2 → Fr (fun x => x = r) h h' → R (.int .u64 ((readNum e bs).1 : Int)) h') :
    CallsH Try.prog F.fields_Reader_Num #[.pointer (some ⟨r, 0, none⟩)] h R := by
  refine fields_Reader_Num.walk (JoinP.of fun J hJ => ?_)
  by_cases he : e = 0
  · subst he
    unfold readNum at hk
    rw [if_pos rfl] at hk
    refine ⟨rnumI h r S bs, fun _ i _ => 11 - i.toNat, ⟨0, 0, bs, rfl, rfl, by omega, by simp, by omega, H, Fr.refl _ _, rfl⟩, ?_⟩
    rintro _ _ h2 ⟨k, a, rest, rfl, rfl, hk10, ha, ha2, H2, f2, hrd⟩
    refine fine_ok H2 ⟨_, rfl, ?_⟩
    simp only [beq_self_eq_true, if_true]
    obtain ⟨p, c, hb, o, hr, h1, hsub, h3⟩ := id H2
    refine ⟨p, _, c, cell_at hb rfl, ?_⟩
    cases rest with
    | nil =>
      simp only [List.length_nil, Int.natCast_zero, beq_self_eq_true, if_true]
      refine fail_ok H2 fun h4 H4 f4 => ⟨rfl, ?_⟩
      subst hJ
      rw [rdN] at hrd
      rw [← hrd] at hk
      exact hk h4 H4 (f2.tt f4)
    | cons b rest =>
      have hne : ((((b :: rest).length : Nat) : Int) == 0) = false := by simp only [List.length_cons, beq_eq_false_iff_ne, ne_eq]; omega
      simp only [hne, Bool.false_eq_true, if_false]
      refine ⟨p, _, c, cell_at hb rfl, ⟨by omega, by simp only [List.length_cons]; omega⟩, ?_⟩
      obtain ⟨ab, aoff, rfl⟩ := o.some (by rw [bc_len]; simp)
      refine onSome_some.2 ⟨(b.toNat : Int), o.cell rfl, some ⟨ab, aoff, none⟩, _, c, cell_at hb rfl, ⟨by omega, by simp only [List.length_cons]; omega⟩, ?_⟩
      have o2 := o.sub (l := 1) (u := (b :: rest).length) (by simp) (Nat.le_refl _)
      have er : ((bc (b :: rest)).take ((b :: rest).length * 1)).drop (1 * 1) = bc rest := by
        simp only [Nat.mul_one]
        rw [List.take_of_length_le (by rw [bc_len]; exact Nat.le_refl _)]; rfl
      rw [er] at o2
      have el : (b :: rest).length - Int.toNat 1 = rest.length := by simp
      rw [el]
      have el2 : (b :: rest).length - 1 = rest.length := by simp
      rw [el2] at o2
      refine storeP_blk hb (by simp) fun h5 k1 k2 k3 => ?_
      have f5 : Fr (fun x => x = r) h2 h5 := Fr.of_eq k2 k3
      have H5 : Rd h5 r S 0 rest := ⟨_, _, k1, o2.frame f5 (fun x hx e => hr (e ▸ inBlk_sub hx)), fun hx => hr (inBlk_sub hx), h1, fun x hx => hsub x (inBlk_sub hx), fun x hx => by rw [k2]; exact h3 x hx⟩
      have f25 := f2.tt f5
      clear o2 k1 k2 k3 f5 er el el2 hne o hb hsub h3 hr
      have w1 : IntKind.wrap .i64 ((k : Int) * 7) = ((7 * k : Nat) : Int) := by rw [wrap_id (by omega) (by omega)]; omega
      have w2 : IntKind.wrap .i64 (7 * (k : Int)) = ((7 * k : Nat) : Int) := by rw [wrap_id (by omega) (by omega)]; omega
      have w3 : IntKind.wrap .i64 ((k : Int) + 1) = ((k + 1 : Nat) : Int) := by rw [wrap_id (by omega) (by omega)]; omega
      have hb := b.toNat_lt
      rw [rdN] at hrd
      refine JoinP.of fun J1 hJ1 => ?_
      have fin : J1 (decide (k = 10 ∨ (k = 9 ∧ b.toNat > 1) ∨ (b.toNat = 0 ∧ k > 0))) h5 := by
        subst hJ1
        by_cases hbad : k = 10 ∨ (k = 9 ∧ b.toNat > 1) ∨ (b.toNat = 0 ∧ k > 0)
        · simp only [hbad, decide_true, if_true]
          rw [if_pos hbad] at hrd
          refine fail_ok H5 fun h7 H7 f7 => ⟨rfl, ?_⟩
          subst hJ
          rw [← hrd] at hk
          exact hk h7 H7 (f25.tt f7)
        · simp only [hbad, decide_false, Bool.false_eq_true, if_false]
          rw [if_neg hbad] at hrd
          rw [w2, w3, if_neg (by omega), and128, and127]
          have hd : b.toNat % 128 * 2 ^ (7 * k) < 18446744073709551616 := by
            by_cases h9 : k = 9
            · subst h9
              have : b.toNat % 128 ≤ 1 := by omega
              have := Nat.mul_le_mul_right (2 ^ (7 * 9)) this
              omega
            · have h8 : k ≤ 8 := by omega
              have p1 : (2 : Nat) ^ (7 * k) ≤ 2 ^ 56 := Nat.pow_le_pow_right (by omega) (by omega)
              have p2 : b.toNat % 128 ≤ 127 := by omega
              have := Nat.mul_le_mul p2 p1
              omega
          have key : IntKind.wrap .u64 ((b.toNat % 128 : Nat) : Int) = ((b.toNat % 128 : Nat) : Int) := wrap_u64_nat (by omega)
          have k64 : 7 * k ≤ 64 := by omega
          rw [key, or_shl ha hd k64]
          by_cases hlt : b.toNat < 128
          · simp only [hlt, decide_true, if_true]
            rw [if_pos hlt] at hrd
            rw [← hrd] at hk
            exact hk h5 H5 f25
          · simp only [hlt, decide_false, Bool.false_eq_true, if_false]
            rw [if_neg hlt] at hrd
            have h9 : k ≤ 8 := by omega
            have p3 : (2 : Nat) ^ (7 * (k + 1)) = 128 * 2 ^ (7 * k) := by rw [Nat.mul_add, Nat.pow_add, Nat.mul_comm]
            have p4 : b.toNat % 128 + 1 ≤ 128 := by omega
            have p5 := Nat.mul_le_mul_right (2 ^ (7 * k)) p4
            rw [Nat.add_mul] at p5
            have p6 : (2 : Nat) ^ (7 * (k + 1)) ≤ 2 ^ 63 := Nat.pow_le_pow_right (by omega) (by omega)
            refine ⟨⟨k + 1, _, rest, rfl, rfl, by omega, by omega, by omega, H5, f25, hrd⟩, ?_⟩
            show 11 - Int.toNat ((k + 1 : Nat) : Int) < 11 - Int.toNat (k : Int)
            omega
      rw [w1]
      by_cases c1 : k = 10
      · subst c1; simpa using fin
      · have c1' : ((k : Int) == 10) = false := by simp only [beq_eq_false_iff_ne, ne_eq]; omega
        simp only [c1', Bool.false_eq_true, if_false]
        by_cases c2 : k = 9
        · subst c2
          by_cases c3 : b.toNat > 1
          · have c3' : (b.toNat : Int) > 1 := by omega
            have c4 : ¬ b.toNat = 0 := by omega
            simpa [c3, c3', c4] using fin
          · have c3' : ¬ (b.toNat : Int) > 1 := by omega
            by_cases c4 : b.toNat = 0
            · simpa [c3, c3', c4] using fin
            · simpa [c3, c3', c4] using fin
        · have c2' : (((7 * k : Nat) : Int) == 63) = false := by simp only [beq_eq_false_iff_ne, ne_eq]; omega
          simp only [c2', Bool.false_eq_true, if_false]
          by_cases c4 : b.toNat = 0
          · have c5 : decide ((k : Int) > 0) = decide (k > 0) := by simp
            simp only [c4, Int.natCast_zero, beq_self_eq_true, if_true, c5]
            simpa [c1, c2, c4] using fin
          · have c4' : ((b.toNat : Int) == 0) = false := by simp only [beq_eq_false_iff_ne, ne_eq]; omega
            simp only [c4', Bool.false_eq_true, if_false]
            simpa [c1, c2, c4] using fin
  · refine ⟨fun _ _ h2 => h2 = h, fun _ _ _ => 0, rfl, ?_⟩
    rintro _ _ h2 rfl
    refine fine_ok H ⟨_, rfl, ?_⟩
    have : (e == 0) = false := by simpa using he
    simp only [this, Bool.false_eq_true, if_false]
    subst hJ
    unfold readNum at hk
    rw [if_neg he] at hk
    exact hk _ H (Fr.refl _ _)

theorem most_ok (top : Nat) {t : Int} (ht : t = (top : Int)) (H : Rd h r S e bs) (hk : ∀ h', Rd h' r S (readMost top e bs).2.1 (readMost top e bs).2.2 → Fr (fun x => x = r) h h' → R (.int .u64 ((readMost top e bs).1 : Int)) h') :
    CallsH Try.prog F.fields_Reader_atMost #[.pointer (some ⟨r, 0, none⟩), .int .u64 t] h R := by
  subst ht
  refine fields_Reader_atMost.walk (rnum_ok H fun h1 H1 f1 => ⟨_, rfl, ?_⟩)
  unfold readMost at hk
  by_cases hgt : (readNum e bs).1 > top
  · have : ((readNum e bs).1 : Int) > (top : Int) := by omega
    simp only [this, decide_true, if_true]
    rw [if_pos hgt] at hk
    exact fail_ok H1 fun h2 H2 f2 => ⟨rfl, hk h2 H2 (f1.tt f2)⟩
  · have : ¬ ((readNum e bs).1 : Int) > (top : Int) := by omega
    simp only [this, decide_false, Bool.false_eq_true, if_false]
    rw [if_neg hgt] at hk
    exact hk h1 H1 f1
theorem rint_ok (H : Rd h r S e bs) (hk : ∀ h', Rd h' r S (readInt e bs).2.1 (readInt e bs).2.2 → Fr (fun x => x = r) h h' → R (.int .i64 ((readInt e bs).1 : Int)) h') :
    CallsH Try.prog F.fields_Reader_Int #[.pointer (some ⟨r, 0, none⟩)] h R :=
  fields_Reader_Int.walk (most_ok 1099511627776 rfl H fun h1 H1 f1 => ⟨_, rfl, by
    have := readMost_le 1099511627776 e bs
    rw [wrap_id (by omega) (by omega)]
    exact hk h1 H1 f1⟩)
theorem rtext_ok (H : Rd h r S e bs) (hl : bs.length ≤ 70368744177664)
    (hk : ∀ h' p c, Rd h' r S (readText e bs).2.1 (readText e bs).2.2 → Own h' p (readText e bs).1.length c 1 (bc (readText e bs).1) → (∀ x, inBlk p x → h.size ≤ x) → Fr (fun x => x = r) h h' → R (.slice p (readText e bs).1.length c) h') :
    CallsH Try.prog F.fields_Reader_Text #[.pointer (some ⟨r, 0, none⟩)] h R := by
  refine fields_Reader_Text.walk (rnum_ok H fun h1 H1 f1 => ⟨_, rfl, fine_ok H1 ⟨_, rfl, ?_⟩⟩)
  unfold readText at hk
  have hlt := readNum_lt e bs
  have hlen : (readNum e bs).2.2.length ≤ bs.length := by
    unfold readNum; split
    · exact rdN_len bs 0 0
    · exact Nat.le_refl _
  generalize readNum e bs = N at *
  obtain ⟨n, e', rest⟩ := N
  dsimp only at *
  by_cases h0 : e' = 0
  · subst h0
    simp only [beq_self_eq_true, Bool.not_true, Bool.false_eq_true, if_false]
    obtain ⟨p, c, hb, o, hr, k1, k2, k3⟩ := id H1
    refine ⟨p, _, c, cell_at hb rfl, ?_⟩
    rw [if_pos rfl] at hk
    rw [wrap_u64 (n := ((rest.length : Nat) : Int)) (by omega) (by omega)]
    by_cases hgt : n > rest.length
    · have : (n : Int) > (rest.length : Int) := by omega
      simp only [this, decide_true, if_true]
      rw [if_pos hgt] at hk
      exact fail_ok H1 fun h2 H2 f2 => ⟨rfl, hk h2 none 0 H2 (.nil rfl rfl rfl rfl) (fun x ⟨a, e, _⟩ => by cases e) (f1.tt f2)⟩
    · have : ¬ (n : Int) > (rest.length : Int) := by omega
      simp only [this, decide_false, Bool.false_eq_true, if_false]
      rw [if_neg hgt] at hk
      have hc := o.le
      refine ⟨p, _, c, cell_at hb rfl, ⟨by omega, by omega⟩, ?_⟩
      have oc := o.sub (l := 0) (u := n) (by omega) (by omega)
      simp only [Nat.mul_one, List.drop_zero, bc_take] at oc
      have etl : (rest.take n).length = n := by rw [List.length_take]; omega
      refine clone_ok oc.row' (by rw [etl]; omega) (by omega) fun p' c' h4 o4 f4 g4 => ⟨_, _, _, rfl, ?_⟩
      have H4 := H1.frame f4 (fun _ _ => id)
      obtain ⟨p2, c2, hb2, o2, hr2, k1', k2', k3'⟩ := H4
      refine ⟨p2, _, c2, cell_at hb2 rfl, ⟨by omega, by omega⟩, ?_⟩
      refine storeP_blk hb2 (by simp) fun h5 q1 q2 q3 => ?_
      have f5 : Fr (fun x => x = r) h4 h5 := Fr.of_eq q2 q3
      have os := o2.sub (l := n) (u := rest.length) (by omega) (Nat.le_refl _)
      rw [Nat.mul_one, Nat.mul_one, ← bc_len rest, List.take_length, bc_len, bc_drop] at os
      have edl : (rest.drop n).length = rest.length - n := by simp
      refine hk h5 p' c' ⟨slBase p2 c2 n 1, c2 - n, ?_, ?_, fun hx => hr2 (inBlk_sub hx), k1', fun x hx => k2' x (inBlk_sub hx), fun x hx => by rw [q2]; exact k3' x hx⟩ (o4.frame f5 (fun x hx e => ?_)) (fun x hx => ?_) (f1.tt ((f4.mono fun _ _ => False.elim).tt f5))
      · rw [edl]
        simpa using q1
      · rw [edl]
        exact os.frame f5 (fun x hx e => hr2 (e ▸ inBlk_sub hx))
      · have := g4 x hx; have := lt_of_get hb; omega
      · have := g4 x hx; have := f1.1; omega
  · have : (e' == 0) = false := by simpa using h0
    simp only [this, Bool.not_false, if_true]
    rw [if_neg h0] at hk
    exact hk h1 none 0 H1 (.nil rfl rfl rfl rfl) (fun x ⟨a, e, _⟩ => by cases e) f1
theorem rend_ok (H : Rd h r S e bs) (hk : R (.int .i64 (readEnd e bs)) h) : CallsH Try.prog F.fields_Reader_End #[.pointer (some ⟨r, 0, none⟩)] h R := by
  obtain ⟨p, c, hb, o, hr, k1, k2, k3⟩ := H
  refine fields_Reader_End.walk (JoinP.of fun J hJ => ⟨true, cell_at hb rfl, ?_⟩)
  subst hJ
  simp only [Bool.not_true, Bool.false_eq_true, if_false]
  refine ⟨e, cell_at hb rfl, ?_⟩
  unfold readEnd at hk
  by_cases h0 : e = 0
  · subst h0
    simp only [bne_self_eq_false, Bool.false_eq_true, if_false]
    refine ⟨p, _, c, cell_at hb rfl, ?_⟩
    rw [if_pos rfl] at hk
    cases bs with
    | nil => exact hk
    | cons b bs =>
      have : (((b :: bs).length : Nat) : Int) > 0 := by simp only [List.length_cons]; omega
      simp only [this, decide_true, if_true]
      rwa [if_neg (by simp)] at hk
  · have : (e != 0) = true := by simpa using h0
    simp only [this, if_true]
    rw [if_neg h0] at hk
    exact ⟨e, cell_at hb rfl, hk⟩
end Fld
end Go.Proofs.Ytlonfpolnmiglaa
