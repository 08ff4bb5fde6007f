/-
  What is proved here: what package outbox does with a box that is nil, or that no call made. No condition.
-/
import Derived.Test.YtlonfpolnmiglaaBoxSave
set_option maxRecDepth 100000
namespace Go.Proofs.Ytlonfpolnmiglaa
open Go.Den Go.Fields
namespace Obx
open Fld
variable {h h' : Heap} {b : Nat} {R : Value → Heap → Prop} {p : Option Addr}

/-- a box that no call made -/
def Zero (h : Heap) (b : Nat) : Prop := h[b]? = some (.cells #[.slice none 0 0, .int .i64 0, .int .i64 0, .int .i64 0, .int .i64 0, .pointer none] T.outbox_Box (0, 0))
theorem made_zero (Z : Zero h b) (hk : R (.bool false) h) : CallsH Try.prog F.outbox_Box_made #[.pointer (some ⟨b, 0, none⟩)] h R := outbox_Box_made.walk ⟨_, cell_at Z rfl, hk⟩
theorem made_nil (hk : R (.bool false) h) : CallsH Try.prog F.outbox_Box_made #[.pointer none] h R := outbox_Box_made.nil.walk hk
theorem add_nil {owner k : Int} {n m : Nat} (hk : R (.tuple #[.int .i64 0, .int .i64 6]) h) : CallsH Try.prog F.outbox_Box_Add #[.pointer none, .int .i64 owner, .slice p n m, .int .u64 k] h R :=
  outbox_Box_Add.nil.walk (made_nil ⟨_, rfl, by simpa using hk⟩)
theorem cancel_nil {num owner : Int} (hk : R (.int .i64 6) h) : CallsH Try.prog F.outbox_Box_Cancel #[.pointer none, .int .i64 num, .int .i64 owner] h R :=
  outbox_Box_Cancel.nil.walk (made_nil ⟨_, rfl, by rw [if_pos (by decide)]; exact hk⟩)
theorem cancel_zero {num owner : Int} (Z : Zero h b) (hk : R (.int .i64 6) h) : CallsH Try.prog F.outbox_Box_Cancel #[.pointer (some ⟨b, 0, none⟩), .int .i64 num, .int .i64 owner] h R :=
  outbox_Box_Cancel.walk (made_zero Z ⟨_, rfl, by rw [if_pos (by decide)]; exact hk⟩)
theorem pass_nil {k : Int} (hk : R (.slice none 0 0) h) : CallsH Try.prog F.outbox_Box_Pass #[.pointer none, .int .u64 k] h R :=
  outbox_Box_Pass.nil.walk (made_nil ⟨_, rfl, JoinP.of fun J hJ => by rw [if_neg (by simp)]; subst hJ; exact hk⟩)
theorem all_zero (Z : Zero h b) (hk : R (.slice none 0 0) h) : CallsH Try.prog F.outbox_Box_All #[.pointer (some ⟨b, 0, none⟩)] h R :=
  outbox_Box_All.walk (made_zero Z ⟨_, rfl, JoinP.of fun J hJ => by rw [if_neg (by simp)]; subst hJ; exact hk⟩)
theorem save_nil (hk : R (.slice none 0 0) h) : CallsH Try.prog F.outbox_Box_Save #[.pointer none] h R :=
  outbox_Box_Save.nil.walk (made_nil ⟨_, rfl, by rw [if_pos (by decide)]; exact hk⟩)
theorem take_zero (Z : Zero h b) (hk : ∀ h', Fr (fun _ => False) h h' → R (.tuple #[.agg #[.int .i64 0, .int .i64 0, .slice none 0 0, .int .u64 0], .int .i64 6]) h') : CallsH Try.prog F.outbox_Box_Take #[.pointer (some ⟨b, 0, none⟩)] h R := by
  refine outbox_Box_Take.walk (newP_of ?_)
  have f1 : Fr (fun _ => False) h (h.push (.cells #[.int .i64 0, .int .i64 0, .slice none 0 0, .int .u64 0] T.outbox_Item)) := Fr.push _ _
  have hb1 : outbox_Item.at (h.push (.cells #[.int .i64 0, .int .i64 0, .slice none 0 0, .int .u64 0] T.outbox_Item)) h.size 0 0 none 0 0 0 := push_new
  refine made_zero (f1.get Z id) ⟨_, rfl, ?_⟩
  rw [if_pos (by decide)]
  refine outbox_Item.set hb1 fun h2 a2 s2 o2 => outbox_Item.ld a2 (hk h2 (f1.fresh (S := fun y => y = h.size) ⟨by omega, fun y _ hn => o2 y hn⟩ (fun y e => Nat.le_of_eq e.symm)))
theorem counts_zero (Z : Zero h b) (hk : ∀ h', Fr (fun _ => False) h h' → R (.agg #[.int .i64 0, .int .i64 0, .int .i64 0, .int .i64 0, .int .i64 0]) h') : CallsH Try.prog F.outbox_Box_Counts #[.pointer (some ⟨b, 0, none⟩)] h R := by
  refine outbox_Box_Counts.walk (newP_of ?_)
  have f1 : Fr (fun _ => False) h (h.push (.cells #[.int .i64 0, .int .i64 0, .int .i64 0, .int .i64 0, .int .i64 0] T.a5_int)) := Fr.push _ _
  have hb1 : (h.push (.cells #[.int .i64 0, .int .i64 0, .int .i64 0, .int .i64 0, .int .i64 0] T.a5_int))[h.size]? = some (.cells #[.int .i64 0, .int .i64 0, .int .i64 0, .int .i64 0, .int .i64 0] T.a5_int (0, 0)) := push_new
  refine made_zero (f1.get Z id) ⟨_, rfl, ?_⟩
  rw [if_pos (by decide)]
  refine storeP_blk hb1 (by simp) fun g1 a1 b1' c1 => storeP_blk a1 (by simp) fun g2 a2 b2 c2 => storeP_blk a2 (by simp) fun g3 a3 b3 c3 => storeP_blk a3 (by simp) fun g4 a4 b4 c4 => storeP_blk a4 (by simp) fun g5 a5 b5 c5 => ?_
  refine ⟨_, cell_at a5 rfl, _, cell_at a5 rfl, _, cell_at a5 rfl, _, cell_at a5 rfl, _, cell_at a5 rfl, ?_⟩
  exact hk g5 (f1.fresh (S := fun y => y = h.size) ⟨by omega, fun y _ hn => by rw [c5 y hn, c4 y hn, c3 y hn, c2 y hn, c1 y hn]⟩ (fun y e => Nat.le_of_eq e.symm))
end Obx
end Go.Proofs.Ytlonfpolnmiglaa
