/-
  What is proved here: bytes in memory: a clone, a literal. No condition.
-/
import Derived.Test.YtgccegnmggjkjaaDoorVcA
import Derived.Test.YtgccegnmggjkjaaDoorBytes
import Derived.Test.YtgccegnmggjkjaaDoorStep
set_option maxRecDepth 100000
namespace Go.Proofs.YtgccegnmggjkjaaDoor
open Go.Den
namespace Fld
variable {h h0 : Heap} {bs : List UInt8} {R : Value → Heap → Prop}
theorem tU : SlTy Tryd.prog T.s_uint8 T.uint8 1 1 (.int .u8 0) := ⟨by kernel_rfl, by kernel_rfl, rfl⟩
theorem uU : Tryd.prog.underlying T.s_uint8 = some (.slice T.uint8) := by kernel_rfl
theorem u8 : Tryd.prog.underlying T.uint8 = some (.int .u8) := by kernel_rfl
theorem uS : Tryd.prog.underlying T.string = some .string := by kernel_rfl
theorem conv {p : Option Addr} {n c : Nat} (hr : Row h p (bc bs)) (hn : n = bs.length) : ConvV Tryd.prog T.s_uint8 T.string (.slice p n c) h (str bs) := conv_str uU u8 uS hr hn

theorem clone_ok {p : Option Addr} {c n : Nat} (hr : Row h p (bc bs)) (hn : n = bs.length) (hl : bs.length ≤ 70368744177664)
    (hk : ∀ p' c' h', Own h' p' bs.length c' 1 (bc bs) → Fr (fun _ => False) h h' → (∀ x, inBlk p' x → h.size ≤ x) → R (.slice p' bs.length c') h') :
    CallsH Tryd.prog F.slices_Clone_s_byte_byte #[.slice p n c] h R := by
  subst hn
  refine slices_Clone_s_byte_byte.walk ?_
  unfold slices_Clone_s_byte_byte.vc
  cases p with
  | none =>
    have : bs = [] := by
      rcases hr with hr | ⟨a, e, _⟩
      · cases bs with
        | nil => rfl
        | cons b bs => cases hr
      · cases e
    subst this
    exact hk none 0 h (.nil rfl rfl rfl rfl) (Fr.refl _ _) (fun x ⟨a, e, _⟩ => by cases e)
  | some a =>
    simp only [Option.isNone_some, Bool.false_eq_true, if_false]
    refine newP_of ?_
    have f1 : Fr (fun _ => False) h (h.push (.cells #[] T.uint8)) := Fr.push _ _
    refine den_append (cs := []) tU uU (.row h.size 0 #[] T.uint8 rfl push_new (Nat.le_refl _) (by simp) rfl (fun j v hj => by cases hj)) (hr.frame f1 (fun _ _ => id)) (by rw [bc_len, Nat.mul_one]) (bc_one bs) (by omega) (by omega) ?_
    intro p' c' h' o1 _ f2 g
    rw [Nat.zero_add, List.nil_append] at o1
    refine ⟨_, _, _, rfl, ?_⟩
    rw [Nat.zero_add]
    have g' : ∀ x, inBlk p' x → h.size ≤ x := fun x hx => by
      rcases g x hx with ⟨a, e, rfl⟩ | h2
      · cases e; exact Nat.le_refl _
      · simp at h2; omega
    exact hk p' c' h' o1 (f1.step f2 (fun c hc ⟨a, e, e2⟩ => by cases e; simp at e2; omega)) g'

/-- bytes of a literal -/
theorem lit_ok {bs : List UInt8} {n : Nat} {cs : Array Value} {K : Option Addr → Nat → Nat → Heap → Prop} (hc : cs = (bc bs).toArray) (hk : ∀ h', Row h' (some ⟨h.size, 0, none⟩) (bc bs) → Fr (fun _ => False) h h' → K (some ⟨h.size, 0, none⟩) n n h') :
    NewP h (.cells cs T.uint8) fun b h_4 => denSem Tryd.prog (convert T.s_uint8 T.s_uint8 (.slice (some ⟨b, 0, none⟩) n n)) h_4 fun v h_5 => ∃ (p : Option Addr) (l c : Nat), v = .slice p l c ∧ K p l c h_5 := by
  subst hc
  refine newP_of (den_lit uU u8 (a := ⟨h.size, 0, none⟩) push_new fun h4 fz4 hb4 sz4 ot4 => ⟨_, _, _, rfl, ?_⟩)
  refine hk h4 (.inr ⟨_, rfl, heldL_blk hb4 (fun j v hj => by rw [Nat.zero_add]; simpa using hj)⟩) ⟨by rw [sz4]; simp, fun c hc _ => by rw [ot4 c (by simp; omega), Array.getElem?_push, if_neg (by omega)]⟩

end Fld
end Go.Proofs.YtgccegnmggjkjaaDoor
