/-
  What is proved here: the law RegsLives on heaps ('regsLives_ok'). No condition.
-/
import Derived.Test.YtgccegnmggjkjaaDoorRegsSave
import Derived.Test.YtgccegnmggjkjaaDoorLaw22
set_option maxRecDepth 100000
namespace Go.Proofs.YtgccegnmggjkjaaDoor
open Go.Den Go.Fields Go.RowKit
namespace Regs
open Eid Fld
variable {h h' : Heap} {R : Value → Heap → Prop} {b x : Nat} {X Y : Ft} {L L' : List Rg} {p : Option Addr} {c n i : Nat} {r : Rg}
/-! ### what is not made -/
def Zero (h : Heap) (b : Nat) : Prop := h[b]? = some (.cells #[.map none] T.regs_Table (0, 0))
theorem made_zero (Z : Zero h b) (hk : R (.bool false) h) : CallsH Tryd.prog F.regs_Table_made #[.pointer (some ⟨b, 0, none⟩)] h R := regs_Table_made.walk ⟨_, cell_at Z rfl, hk⟩
theorem made_nil (hk : R (.bool false) h) : CallsH Tryd.prog F.regs_Table_made #[.pointer none] h R := regs_Table_made.nil.walk hk
theorem find_nil (x : Ev) (hk : ∀ v h', Fr (fun _ => False) h h' → R (.tuple #[Rg.val v, .bool false]) h') : CallsH Tryd.prog F.regs_Table_Find #[.pointer none, ev5 x] h R := by
  refine regs_Table_Find.nil.walk (eid_Eid.box fun b1 h1 e1 hb1 f1 => newP_of ?_)
  have hb2 : regs_Reg.at (h1.push (.cells #[.bool false, .int .u64 0, .int .u64 0, .string ⟨#[]⟩, .string ⟨#[]⟩, .int .i64 0, .int .i64 0] T.regs_Reg)) h1.size false 0 0 ⟨#[]⟩ ⟨#[]⟩ 0 0 := push_new
  have f2 : Fr (fun _ => False) h1 (h1.push (.cells #[.bool false, .int .u64 0, .int .u64 0, .string ⟨#[]⟩, .string ⟨#[]⟩, .int .i64 0, .int .i64 0] T.regs_Reg)) := Fr.push _ _
  refine made_nil ⟨_, rfl, ?_⟩
  rw [if_pos (by decide)]
  refine regs_Reg.set hb2 fun h3 a3 s3 o3 => regs_Reg.ld a3 (hk .zero h3 ((f1.tt f2).fresh (S := fun y => y = h1.size) ⟨by omega, fun y _ hn => o3 y hn⟩ (fun y e => by have := f1.1; omega)))
theorem find_zero (Z : Zero h b) (x : Ev) (hk : ∀ v h', Fr (fun _ => False) h h' → R (.tuple #[Rg.val v, .bool false]) h') : CallsH Tryd.prog F.regs_Table_Find #[.pointer (some ⟨b, 0, none⟩), ev5 x] h R := by
  refine regs_Table_Find.walk (eid_Eid.box fun b1 h1 e1 hb1 f1 => newP_of ?_)
  have hb2 : regs_Reg.at (h1.push (.cells #[.bool false, .int .u64 0, .int .u64 0, .string ⟨#[]⟩, .string ⟨#[]⟩, .int .i64 0, .int .i64 0] T.regs_Reg)) h1.size false 0 0 ⟨#[]⟩ ⟨#[]⟩ 0 0 := push_new
  have f2 : Fr (fun _ => False) h1 (h1.push (.cells #[.bool false, .int .u64 0, .int .u64 0, .string ⟨#[]⟩, .string ⟨#[]⟩, .int .i64 0, .int .i64 0] T.regs_Reg)) := Fr.push _ _
  refine made_zero ((f1.tt f2).get Z id) ⟨_, rfl, ?_⟩
  rw [if_pos (by decide)]
  refine regs_Reg.set hb2 fun h3 a3 s3 o3 => regs_Reg.ld a3 (hk .zero h3 ((f1.tt f2).fresh (S := fun y => y = h1.size) ⟨by omega, fun y _ hn => o3 y hn⟩ (fun y e => by have := f1.1; omega)))
theorem add_nil (r : Rg) (hk : ∀ h', Fr (fun _ => False) h h' → R (.int .i64 6) h') : CallsH Tryd.prog F.regs_Table_Add #[.pointer none, r.val] h R :=
  regs_Table_Add.nil.walk (regs_Reg.box fun b1 h1 e1 hb1 f1 => made_nil ⟨_, rfl, by rw [if_pos (by decide)]; exact hk h1 f1⟩)
theorem add_zero (Z : Zero h b) (r : Rg) (hk : ∀ h', Fr (fun _ => False) h h' → R (.int .i64 6) h') : CallsH Tryd.prog F.regs_Table_Add #[.pointer (some ⟨b, 0, none⟩), r.val] h R :=
  regs_Table_Add.walk (regs_Reg.box fun b1 h1 e1 hb1 f1 => made_zero (f1.get Z id) ⟨_, rfl, by rw [if_pos (by decide)]; exact hk h1 f1⟩)
theorem ask_nil (x : Ev) (o : Int) (hk : ∀ v h', Fr (fun _ => False) h h' → R (.tuple #[Rg.val v, .int .i64 6]) h') : CallsH Tryd.prog F.regs_Table_ask #[.pointer none, ev5 x, .int .i64 o] h R := by
  refine regs_Table_ask.nil.walk (eid_Eid.box fun b1 h1 e1 hb1 f1 => newP_of ?_)
  have hb2 : regs_Reg.at (h1.push (.cells #[.bool false, .int .u64 0, .int .u64 0, .string ⟨#[]⟩, .string ⟨#[]⟩, .int .i64 0, .int .i64 0] T.regs_Reg)) h1.size false 0 0 ⟨#[]⟩ ⟨#[]⟩ 0 0 := push_new
  have f2 : Fr (fun _ => False) h1 (h1.push (.cells #[.bool false, .int .u64 0, .int .u64 0, .string ⟨#[]⟩, .string ⟨#[]⟩, .int .i64 0, .int .i64 0] T.regs_Reg)) := Fr.push _ _
  refine made_nil ⟨_, rfl, ?_⟩
  rw [if_pos (by decide)]
  refine regs_Reg.set hb2 fun h3 a3 s3 o3 => regs_Reg.ld a3 (hk .zero h3 ((f1.tt f2).fresh (S := fun y => y = h1.size) ⟨by omega, fun y _ hn => o3 y hn⟩ (fun y e => by have := f1.1; omega)))
theorem ask_zero (Z : Zero h b) (x : Ev) (o : Int) (hk : ∀ v h', Fr (fun _ => False) h h' → R (.tuple #[Rg.val v, .int .i64 6]) h') : CallsH Tryd.prog F.regs_Table_ask #[.pointer (some ⟨b, 0, none⟩), ev5 x, .int .i64 o] h R := by
  refine regs_Table_ask.walk (eid_Eid.box fun b1 h1 e1 hb1 f1 => newP_of ?_)
  have hb2 : regs_Reg.at (h1.push (.cells #[.bool false, .int .u64 0, .int .u64 0, .string ⟨#[]⟩, .string ⟨#[]⟩, .int .i64 0, .int .i64 0] T.regs_Reg)) h1.size false 0 0 ⟨#[]⟩ ⟨#[]⟩ 0 0 := push_new
  have f2 : Fr (fun _ => False) h1 (h1.push (.cells #[.bool false, .int .u64 0, .int .u64 0, .string ⟨#[]⟩, .string ⟨#[]⟩, .int .i64 0, .int .i64 0] T.regs_Reg)) := Fr.push _ _
  refine made_zero ((f1.tt f2).get Z id) ⟨_, rfl, ?_⟩
  rw [if_pos (by decide)]
  refine regs_Reg.set hb2 fun h3 a3 s3 o3 => regs_Reg.ld a3 (hk .zero h3 ((f1.tt f2).fresh (S := fun y => y = h1.size) ⟨by omega, fun y _ hn => o3 y hn⟩ (fun y e => by have := f1.1; omega)))
theorem remove_nil (x : Ev) (o : Int) (hk : ∀ h', Fr (fun _ => False) h h' → R (.int .i64 6) h') : CallsH Tryd.prog F.regs_Table_Remove #[.pointer none, ev5 x, .int .i64 o] h R :=
  regs_Table_Remove.nil.walk (eid_Eid.box fun b1 h1 e1 hb1 f1 => eid_Eid.ld hb1 (ask_nil x o fun v h2 f2 => ⟨_, _, _, _, _, _, _, _, rfl, regs_Reg.new fun b2 h3 e3 hb3 f3 => JoinP.of fun J hJ => by
    rw [if_neg (by decide)]; subst hJ; exact hk h3 (f1.tt (f2.tt f3))⟩))
theorem policy_zero (Z : Zero h b) (x : Ev) (o q : Int) (hk : ∀ h', Fr (fun _ => False) h h' → R (.int .i64 6) h') : CallsH Tryd.prog F.regs_Table_Policy #[.pointer (some ⟨b, 0, none⟩), ev5 x, .int .i64 o, .int .i64 q] h R := by
  refine regs_Table_Policy.walk (eid_Eid.box fun b1 h1 e1 hb1 f1 => JoinP.of fun J hJ => made_zero (f1.get Z id) ⟨_, rfl, ?_⟩)
  rw [if_neg (by decide)]
  subst hJ
  dsimp only
  rw [if_neg (by decide)]
  refine eid_Eid.ld hb1 (ask_zero (f1.get Z id) x o fun v h2 f2 => ⟨_, _, _, _, _, _, _, _, rfl, regs_Reg.new fun b2 h3 e3 hb3 f3 => JoinP.of fun J hJ => ?_⟩)
  rw [if_neg (by decide)]; subst hJ; exact hk h3 (f1.tt (f2.tt f3))
theorem all_nil (hk : ∀ h', Fr (fun _ => False) h h' → R (.slice none 0 0) h') : CallsH Tryd.prog F.regs_Table_All #[.pointer none] h R := by
  refine regs_Table_All.nil.walk (made_nil ⟨_, rfl, JoinP.of fun J hJ => ?_⟩)
  rw [if_neg (by decide)]; subst hJ
  exact sort_ok (xs := []) (.nil rfl rfl rfl rfl) rfl (by simp) List.nodup_nil fun h2 ys o2 _ _ f2 => ⟨rfl, hk h2 (f2.mono (fun y _ ⟨a, e, _⟩ => by cases e))⟩
theorem all_zero (Z : Zero h b) (hk : ∀ h', Fr (fun _ => False) h h' → R (.slice none 0 0) h') : CallsH Tryd.prog F.regs_Table_All #[.pointer (some ⟨b, 0, none⟩)] h R := by
  refine regs_Table_All.walk (made_zero Z ⟨_, rfl, JoinP.of fun J hJ => ?_⟩)
  rw [if_neg (by decide)]; subst hJ
  exact sort_ok (xs := []) (.nil rfl rfl rfl rfl) rfl (by simp) List.nodup_nil fun h2 ys o2 _ _ f2 => ⟨rfl, hk h2 (f2.mono (fun y _ ⟨a, e, _⟩ => by cases e))⟩
theorem save_zero (Z : Zero h b) (hk : ∀ h', Fr (fun _ => False) h h' → R (.slice none 0 0) h') : CallsH Tryd.prog F.regs_Table_Save #[.pointer (some ⟨b, 0, none⟩)] h R := by
  refine regs_Table_Save.walk (all_zero Z fun h1 f1 => ⟨_, _, _, rfl, fun op ol oc t g => op = none ∧ ol = 0 ∧ oc = 0 ∧ t = 0 ∧ g = h1, fun _ _ _ _ _ => 0, ⟨rfl, rfl, rfl, rfl, rfl⟩, ?_⟩)
  rintro _ _ _ _ _ ⟨rfl, rfl, rfl, rfl, rfl⟩
  rw [if_neg (by decide)]
  exact hk _ f1
/-! ### the law's parts -/
theorem as_ok (r : Rg) (hk : ∀ h', Fr (fun _ => False) h h' → R r.val h') : CallsH Tryd.prog F.law22_as #[r.val] h R := by
  refine law22_as.walk (regs_Reg.box fun b1 h1 e1 hb1 f1 => newP_of ?_)
  have hb2 : ref22_Reg.at (h1.push (.cells #[.bool false, .int .u64 0, .int .u64 0, .string ⟨#[]⟩, .string ⟨#[]⟩, .int .i64 0, .int .i64 0] T.ref22_Reg)) h1.size false 0 0 ⟨#[]⟩ ⟨#[]⟩ 0 0 := push_new
  have f2 : Fr (fun _ => False) h1 (h1.push (.cells #[.bool false, .int .u64 0, .int .u64 0, .string ⟨#[]⟩, .string ⟨#[]⟩, .int .i64 0, .int .i64 0] T.ref22_Reg)) := Fr.push _ _
  have hb1' : r.at _ b1 := f2.get hb1 id
  refine ld_e hb1' ⟨_, cell_at hb1' rfl, _, cell_at hb1' rfl, Eid.as_ok r.e fun h3 f3 => ⟨_, _, _, _, _, rfl, cell_at (f3.get hb1' id) rfl, cell_at (f3.get hb1' id) rfl, ref22_Reg.set (f3.get hb2 id) fun h4 a4 s4 o4 => ref22_Reg.ld a4 ?_⟩⟩
  have := f1.1
  exact hk h4 ((f1.tt (f2.tt f3)).fresh (S := fun y => y = h1.size) ⟨by omega, fun y _ hn => o4 y hn⟩ (fun y e => by omega))
theorem eqvR (x : Rg) : EqV Tryd.prog T.ref22_Reg x.val x.val true := by
  have e : (eqB x.e x.e && ((x.pol == x.pol) && ((x.own == x.own) && true))) = true := by simp [eqB_iff.2]
  rw [← e]
  exact EqV.of (by unfold eqB; kernel_rfl)
theorem eqvZ : EqV Tryd.prog T.regs_Reg Rg.zero.val Rg.zero.val true := EqV.of (by kernel_rfl)
theorem same_ok (H : Tb h b X L) (B : Rt h x Y L) (hl : L.length ≤ 8) (hk : ∀ h', Fr (fun _ => False) h h' → R (.bool true) h') : CallsH Tryd.prog F.law22_Same #[.pointer (some ⟨b, 0, none⟩), .pointer (some ⟨x, 0, none⟩)] h R := by
  obtain ⟨p, c, B⟩ := B
  refine law22_Same.walk (all_ok H (by omega) fun h1 p1 c1 o1 n1 f1 => ⟨_, _, _, rfl, ?_⟩)
  have B1 := B.on f1
  refine ⟨_, _, _, cell_at B1.blk rfl, ?_⟩
  rw [if_neg (by simp)]
  refine ⟨fun t g => ∃ k : Nat, t = (k : Int) ∧ k ≤ L.length ∧ Fr (fun _ => False) h1 g, fun t _ => L.length - t.toNat, ⟨0, rfl, by omega, Fr.refl _ _⟩, ?_⟩
  rintro _ g ⟨k, rfl, hkn, fg⟩
  by_cases hlt : k < L.length
  · have q1 : (k : Int) < ((L.length : Nat) : Int) := by omega
    simp only [q1, decide_true, if_true, Int.toNat_natCast]
    have hx : L[k]? = some L[k] := List.getElem?_eq_getElem hlt
    generalize L[k] = v at hx
    have og := o1.frame fg (fun _ _ => id)
    have Bg := B1.on fg
    obtain ⟨ab, aoff, rfl⟩ := og.addr (by omega)
    obtain ⟨bb, boff, rfl⟩ := Bg.own.addr (by omega)
    refine ⟨⟨by first | trivial | omega, by first | trivial | omega⟩, onSome_some.2 (regs_Reg.ldA (og.heldAt genc_len hx) ⟨_, _, _, cell_at Bg.blk rfl, ⟨by first | trivial | omega, by first | trivial | omega⟩, onSome_some.2 (ref22_Reg.ldA (Bg.own.heldAt genc_len hx) (as_ok v fun g2 f2 => ⟨_, _, _, _, _, _, _, rfl, (Bg.on f2).own.heldAt genc_len hx, cell_at (Bg.on f2).blk rfl, _, eqvR v, ?_⟩))⟩)⟩
    rw [if_neg (by decide), wrap_id (by omega) (by omega)]
    exact ⟨⟨k + 1, by omega, by omega, fg.tt f2⟩, by show L.length - Int.toNat ((k : Int) + 1) < L.length - k; omega⟩
  · have q1 : ¬ (k : Int) < ((L.length : Nat) : Int) := by omega
    simp only [q1, decide_false, Bool.false_eq_true, if_false]
    exact hk g (f1.tt fg)
/-! ### its steps -/
structure OP where
  kind : Int
  pol : Int
  own : Int
  e : Ev
abbrev oenc (f : OP) : List Value := [.int .i64 f.kind, .int .i64 f.pol, .int .i64 f.own, .bool f.e.ipn, .int .u64 f.e.node, .int .u64 f.e.svc, .string f.e.host, .string f.e.dem]
abbrev OP.at (f : OP) (h : Heap) (b : Nat) : Prop := law22_Op.at h b f.kind f.pol f.own f.e.ipn f.e.node f.e.svc f.e.host f.e.dem
theorem oenc_len (f : OP) : (oenc f).length = 8 := rfl
theorem op_tl : tleaves Tryd.prog 5 T.law22_Op = some [T.int, T.int, T.int, T.bool, T.uint64, T.uint64, T.string, T.string] := by kernel_rfl
theorem Rok.str {m : Nat} {v : Value} (hr : Rok Tryd.prog h m T.string [v]) : ∃ s, v = .string s := by
  cases m with
  | zero => exact hr.elim
  | succ m =>
    unfold Rok at hr
    rw [uS] at hr
    obtain ⟨s, e, _⟩ := hr
    exact ⟨s, by simpa using e⟩
theorem op_dec (n : Nat) (cs : List Value) (hl : cs.length = 8) (hr : Rok Tryd.prog h n T.law22_Op cs) : ∃ f : OP, cs = oenc f ∧ 0 ≤ f.e.svc := by
  have L := tleaves_ok 5 n _ _ cs op_tl (by rw [hl]; rfl) hr
  match cs, hl with
  | [a, b, c, d, e, f, g, i], _ =>
    obtain ⟨k0, rfl, _⟩ := L.int 0 rfl rfl (k := .i64) (by kernel_rfl)
    obtain ⟨k1, rfl, _⟩ := L.int 1 rfl rfl (k := .i64) (by kernel_rfl)
    obtain ⟨k2, rfl, _⟩ := L.int 2 rfl rfl (k := .i64) (by kernel_rfl)
    obtain ⟨k3, rfl⟩ := L.bool 3 rfl rfl (by kernel_rfl)
    obtain ⟨k4, rfl, _⟩ := L.int 4 rfl rfl (k := .u64) (by kernel_rfl)
    obtain ⟨k5, rfl, w5⟩ := L.int 5 rfl rfl (k := .u64) (by kernel_rfl)
    obtain ⟨m6, hm6⟩ := L.get 6 rfl rfl
    obtain ⟨k6, rfl⟩ := Rok.str hm6
    obtain ⟨m7, hm7⟩ := L.get 7 rfl rfl
    obtain ⟨k7, rfl⟩ := Rok.str hm7
    exact ⟨⟨k0, k1, k2, ⟨k3, k4, k5, k6, k7⟩⟩, rfl, (wf_u64 w5).1⟩
theorem ops_read {l c : Nat} (hv : RokV Tryd.prog h T.s_law22_Op (.slice p l c)) : ∃ fs : List OP, fs.length = l ∧ Row h p (fs.flatMap oenc) ∧ ∀ f ∈ fs, 0 ≤ f.e.svc := by
  obtain ⟨xs, h1, _, _, h2, h3⟩ := RokV.slice (e := T.law22_Op) oenc 8 (fun f => 0 ≤ f.e.svc) (by kernel_rfl) (fun _ => rfl) (fun n cs hl hr => op_dec n cs hl hr) (by kernel_rfl) hv
  exact ⟨xs, h1, h2, h3⟩
/-! ### plain -/
structure okL (L : List Rg) : Prop where
  len : L.length ≤ 8
  all : ∀ r ∈ L, okR r
theorem okL.add (k : okL L) (r : Rg) (hs : 0 ≤ r.e.svc) : okL (addL L r) := by
  unfold addL
  rcases addE_cases L r with ⟨_, e⟩ | ⟨_, _, e⟩ | ⟨_, _, _, e⟩ | ⟨h1, _, h3, e⟩ <;> rw [e]
  · exact k
  · exact k
  · exact k
  · rw [if_pos rfl]
    exact ⟨by rw [insR_len]; omega, fun z hz => (insR_mem.1 hz).elim (fun e => e ▸ ⟨h1, hs⟩) (k.all z)⟩
theorem okL.rem (k : okL L) (x : Ev) (o : Int) : okL (remL L x o) := by
  unfold remL
  split
  · exact ⟨Nat.le_trans (List.length_filter_le _ _) k.len, fun z hz => k.all z (List.mem_filter.1 hz).1⟩
  · exact k
theorem okL.pol (k : okL L) (x : Ev) (o q : Int) : okL (polL L x o q) := by
  unfold polL
  split
  · rename_i he
    have hq : 0 ≤ q ∧ q ≤ 2 := by
      unfold polE at he
      split at he
      · assumption
      · cases he
    refine ⟨by unfold polR; rw [List.length_map]; exact k.len, fun z hz => ?_⟩
    obtain ⟨y, hy, rfl⟩ := List.mem_map.1 hz
    have ky := k.all y hy
    split
    · refine ⟨?_, ky.sv⟩
      have h1 := ky.rt
      unfold rightR at h1 ⊢
      simp only [Bool.and_eq_true, Bool.not_eq_true', decide_eq_true_eq, decide_eq_false_iff_not] at h1 ⊢
      exact ⟨h1.1, h1.2.1, ⟨hq.1, hq.2⟩, h1.2.2.2⟩
    · exact ky
  · exact k
abbrev Apart (X Y : Ft) : Prop := ∀ c, X.M c ∨ X.D c → ¬ (Y.M c ∨ Y.D c)
theorem Apart.symm {X Y : Ft} (a : Apart X Y) : Apart Y X := fun c h1 h2 => a c h2 h1

set_option maxHeartbeats 8000000 in
theorem _root_.Go.Proofs.YtgccegnmggjkjaaDoor.regsLives_ok (op : Option Addr) (ol oc : Nat) (hv : RokV Tryd.prog h T.s_law22_Op (.slice op ol oc)) (tb : Num.Tab h) : LawH Tryd.prog F.law22_RegsLives #[.slice op ol oc] h := by
  obtain ⟨fs, rfl, hrow, hok⟩ := ops_read hv
  clear hv
  unfold LawH
  generalize hR : (fun (v : Value) h' => v = .bool true ∧ Fr (fun _ => False) h h') = R
  have hk : ∀ h', Fr (fun _ => False) h h' → R (.bool true) h' := fun h' hf => by rw [← hR]; exact ⟨rfl, hf⟩
  clear hR
  refine law22_RegsLives.walk (Regs.new_ok fun h1 b X1 H1 u1 => ⟨_, rfl, newP_of ?_⟩)
  have f2 : Fr (fun _ => False) h1 (h1.push (.cells #[.slice none 0 0] T.ref22_Table)) := Fr.push _ _
  have hb2 : (h1.push (.cells #[.slice none 0 0] T.ref22_Table))[h1.size]? = some (.cells #[.slice none 0 0] T.ref22_Table (0, 0)) := push_new
  generalize h1.push (.cells #[.slice none 0 0] T.ref22_Table) = h2 at f2 hb2 ⊢
  have hx0 : ∀ c, X1.M c ∨ X1.D c → c < h1.size := fun c hc => H1.lt c hc
  have hx1 : h.size ≤ h1.size := u1.fr.1
  generalize h1.size = x at hb2 hx0 hx1 ⊢
  have B2 : Rt h2 x ⟨fun c => c = x, fun _ => False⟩ [] := ⟨none, 0, ⟨hb2, .nil rfl rfl rfl rfl, (fun c => ⟨.inl, fun hc => hc.resolve_right (fun ⟨a, e, _⟩ => by cases e)⟩), (fun c => id), (fun ⟨a, e, _⟩ => by cases e)⟩⟩
  refine ⟨fun i g => ∃ (k : Nat) (X Y : Ft) (L : List Rg), i = (k : Int) ∧ k ≤ 80 ∧ Tb g b X L ∧ Rt g x Y L ∧ UpF h X g ∧ UpF h Y g ∧ Apart X Y ∧ okL L, fun i _ => 80 - i.toNat,
    ⟨0, X1, _, [], rfl, by omega, H1.on f2, B2, u1.on f2, ⟨u1.fr.tt f2, fun c hc => by rcases hc with rfl | hc; exact hx1; exact hc.elim⟩, fun c h1 h2 => by rcases h2 with rfl | h2; exact absurd (hx0 _ h1) (Nat.lt_irrefl _); exact h2, ⟨by simp, fun r hr => by cases hr⟩⟩, ?_⟩
  clear B2 hb2 f2 u1 H1 hx0 hx1
  rintro _ h3 ⟨k, X, Y, L, rfl, hk80, H, B, u, w, ap, kL⟩
  refine JoinP.of fun J hJ => ?_
  by_cases hl : k < fs.length ∧ k < 80
  · have q1 : (k : Int) < ((fs.length : Nat) : Int) := by omega
    have q2 : (k : Int) < 80 := by omega
    simp only [q1, q2, decide_true, if_true]
    subst hJ
    simp only [if_true, Int.toNat_natCast]
    obtain ⟨f, hf⟩ : ∃ f, fs[k]? = some f := ⟨fs[k], List.getElem?_eq_getElem hl.1⟩
    have row3 := hrow.frame u.fr (fun _ _ => id)
    obtain ⟨a, rfl⟩ := row3.some (by intro e; cases fs with | nil => simp at hf | cons => simp at e)
    refine ⟨⟨by first | trivial | omega, by first | trivial | omega⟩, onSome_some.2 (law22_Op.ldA (row3.heldAt oenc_len hf) (law22_Op.new fun b1 h9 eb hb f9 => ⟨_, cell_at hb rfl, _, cell_at hb rfl, ?_⟩))⟩
    have nX : ¬ X.M b1 := fun hm => by have := H.lt b1 (.inl hm); omega
    have nY : ¬ Y.M b1 := fun hm => by have := B.lt b1 (.inl hm); omega
    have hsv := hok f (List.mem_of_getElem? hf)
    split
    · exact alive_ok fun h11 f11 => ⟨_, rfl, hk h11 ((u.on f9).fr.tt f11)⟩
    have lop : ∀ {g : Heap} {K : Bool → Int → Int → ByteArray → ByteArray → Prop}, f.at g b1 → K f.e.ipn f.e.node f.e.svc f.e.host f.e.dem → eid_Eid.LD g ⟨b1, 3, none⟩ K := fun hg hk => ⟨_, cell_at hg rfl, _, cell_at hg rfl, _, cell_at hg rfl, _, cell_at hg rfl, _, cell_at hg rfl, hk⟩
    refine lop hb (Eid.as_ok f.e fun h10 f10 => ⟨_, _, _, _, _, rfl, ref04_Eid.new fun b2 h12 eb2 hb2 f12 => ?_⟩)
    have F12 := f9.tt (f10.tt f12)
    have hb12 : f.at h12 b1 := (f10.tt f12).get hb id
    have H12 := H.on F12
    have B12 := B.on F12
    have u12 := u.on F12
    have w12 := w.on F12
    have lt2 := lt_of_get hb2
    have lt10 : h3.size ≤ h10.size := (f9.tt f10).1
    have n2X : ¬ X.M b2 := fun hm => by have := H.lt b2 (.inl hm); omega
    have n2Y : ¬ Y.M b2 := fun hm => by have := B.lt b2 (.inl hm); omega
    clear H B u w row3 f9 f10 hb
    refine ⟨_, cell_at hb12 rfl, JoinP.of fun J1 hJ1 => ?_⟩
    have fin : ∀ g X' Y' L', f.at g b1 → ref04_Eid.at g b2 f.e.ipn f.e.node f.e.svc f.e.host f.e.dem → Tb g b X' L' → Rt g x Y' L' → UpF h X' g → UpF h Y' g → Apart X' Y' → okL L' → J1 true g := by
      intro g X' Y' L' hg1 hg2 H' B' u' w' ap' k'
      subst hJ1
      dsimp only
      refine lop hg1 (find_ok H' f.e fun h13 f13 => ⟨_, _, _, _, _, _, _, _, rfl, regs_Reg.new fun b3 h14 eb3 hb3 f14 => ?_⟩)
      have F14 := f13.tt f14
      have go : ∀ (n : Int) (g5 : Heap), Fr (fun _ => False) h14 g5 → ((findR L' f.e).isSome = true ∧ (∃ (i : Nat) (r : Rg), n = (i : Int) ∧ L'[i]? = some r ∧ findR L' f.e = some r) ∨ findR L' f.e = none ∧ n = -1) → JoinP (fun (t150 : Bool) (h_16 : Heap) =>
              if t150 = true then
                R (.bool false) h_16
              else
                ((fun i g => ∃ (k : Nat) (X Y : Ft) (L : List Rg), i = (k : Int) ∧ k ≤ 80 ∧ Tb g b X L ∧ Rt g x Y L ∧ UpF h X g ∧ UpF h Y g ∧ Apart X Y ∧ okL L) (IntKind.wrap .i64 ((k : Int) + 1)) h_16 ∧ (fun (i : Int) (_ : Heap) => 80 - i.toNat) (IntKind.wrap .i64 ((k : Int) + 1)) h_16 < (fun (i : Int) (_ : Heap) => 80 - i.toNat) (k : Int) h3))
            (fun J_2 =>
              if (!true) = true then
                J_2 true g5
              else
                CallsH Tryd.prog F.law22_Same #[.pointer (some ⟨b, 0, none⟩), .pointer (some ⟨x, 0, none⟩)] g5 fun v_5 h_17 =>
                ∃ (t118 : Bool), v_5 = .bool t118 ∧
                if (!t118) = true then
                  J_2 true h_17
                else
                  if (!((findR L' f.e).isSome == (decide (n ≥ 0)))) = true then
                    J_2 true h_17
                  else
                    if (findR L' f.e).isSome = true then
                      regs_Reg.LD h_17 ⟨b3, 0, none⟩ fun t130_0 t130_1 t130_2 t130_3 t130_4 t130_5 t130_6 =>
                      ∃ (t135_p : Option Addr) (t135_l t135_c : Nat), hcell h_17 ⟨x, 0, none⟩ = some (.slice t135_p t135_l t135_c) ∧
                      ((0 : Int) ≤ n ∧ n < ((t135_l : Nat) : Int)) ∧
                      onSome t135_p fun a_1 =>
                      ref22_Reg.LD h_17 (a_1.add (Int.toNat n * 7)) fun t138_0 t138_1 t138_2 t138_3 t138_4 t138_5 t138_6 =>
                      CallsH Tryd.prog F.law22_as #[.agg #[.bool t130_0, .int .u64 t130_1, .int .u64 t130_2, .string t130_3, .string t130_4, .int .i64 t130_5, .int .i64 t130_6]] h_17 fun v_6 h_18 =>
                      ∃ (t131_0 : Bool), ∃ (t131_1 : Int), ∃ (t131_2 : Int), ∃ (t131_3 : ByteArray), ∃ (t131_4 : ByteArray), ∃ (t131_5 : Int), ∃ (t131_6 : Int), v_6 = .agg #[.bool t131_0, .int .u64 t131_1, .int .u64 t131_2, .string t131_3, .string t131_4, .int .i64 t131_5, .int .i64 t131_6] ∧
                      heldL (a_1.add (Int.toNat n * 7)) [.bool t138_0, .int .u64 t138_1, .int .u64 t138_2, .string t138_3, .string t138_4, .int .i64 t138_5, .int .i64 t138_6] 0 h_18 ∧
                      hcell h_18 ⟨x, 0, none⟩ = some (.slice t135_p t135_l t135_c) ∧
                      ∃ (eq : Bool), EqV Tryd.prog T.ref22_Reg (.agg #[.bool t131_0, .int .u64 t131_1, .int .u64 t131_2, .string t131_3, .string t131_4, .int .i64 t131_5, .int .i64 t131_6]) (.agg #[.bool t138_0, .int .u64 t138_1, .int .u64 t138_2, .string t138_3, .string t138_4, .int .i64 t138_5, .int .i64 t138_6]) eq ∧
                      if (!eq) = true then
                        J_2 true h_18
                      else
                        if (!(findR L' f.e).isSome) = true then
                          regs_Reg.LD h_18 ⟨b3, 0, none⟩ fun t146_0 t146_1 t146_2 t146_3 t146_4 t146_5 t146_6 =>
                          ∃ (eq_1 : Bool), EqV Tryd.prog T.regs_Reg (.agg #[.bool t146_0, .int .u64 t146_1, .int .u64 t146_2, .string t146_3, .string t146_4, .int .i64 t146_5, .int .i64 t146_6]) (.agg #[.bool false, .int .u64 0, .int .u64 0, .string (⟨#[]⟩ : ByteArray), .string (⟨#[]⟩ : ByteArray), .int .i64 0, .int .i64 0]) eq_1 ∧
                          J_2 (!eq_1) h_18
                        else
                          J_2 false h_18
                    else
                      if (!(findR L' f.e).isSome) = true then
                        regs_Reg.LD h_17 ⟨b3, 0, none⟩ fun t146_0_1 t146_1_1 t146_2_1 t146_3_1 t146_4_1 t146_5_1 t146_6_1 =>
                        ∃ (eq_2 : Bool), EqV Tryd.prog T.regs_Reg (.agg #[.bool t146_0_1, .int .u64 t146_1_1, .int .u64 t146_2_1, .string t146_3_1, .string t146_4_1, .int .i64 t146_5_1, .int .i64 t146_6_1]) (.agg #[.bool false, .int .u64 0, .int .u64 0, .string (⟨#[]⟩ : ByteArray), .string (⟨#[]⟩ : ByteArray), .int .i64 0, .int .i64 0]) eq_2 ∧
                        J_2 (!eq_2) h_17
                      else
                        J_2 false h_17) := by
        intro n g5 f5 hn
        refine JoinP.of fun J2 hJ2 => ?_
        rw [if_neg (by decide)]
        have F5 := F14.tt f5
        refine same_ok (H'.on F5) (B'.on F5) k'.len fun g6 f6 => ⟨_, rfl, ?_⟩
        rw [if_neg (by decide)]
        have F6 := F5.tt f6
        have hb6 := (f5.tt f6).get hb3 id
        have done : ∀ g7, Fr (fun _ => False) g6 g7 → J2 false g7 := fun g7 f7 => by
          subst hJ2
          dsimp only
          rw [if_neg (by decide), wrap_id (by omega) (by omega)]
          have F7 := F6.tt f7
          exact ⟨⟨k + 1, X', Y', L', by omega, by omega, H'.on F7, B'.on F7, u'.on F7, w'.on F7, ap', k'⟩, by show 80 - Int.toNat ((k : Int) + 1) < 80 - k; omega⟩
        clear hJ2
        rcases hn with ⟨hs, i, r, rfl, hi, hfr⟩ | ⟨hfr, rfl⟩
        · rw [hfr] at hb6 ⊢
          have qi : (i : Int) ≥ 0 := by omega
          simp only [Option.isSome_some, qi, decide_true, beq_self_eq_true, Bool.not_true, Bool.false_eq_true, if_false, if_true]
          obtain ⟨p, c, B'⟩ := B'
          have B6 := B'.on F6
          have hil := (List.getElem?_eq_some_iff.1 hi).1
          obtain ⟨ab, aoff, rfl⟩ := B6.own.addr (by omega)
          simp only [Int.toNat_natCast]
          refine regs_Reg.ld hb6 ⟨_, _, _, cell_at B6.blk rfl, ⟨by first | trivial | omega, by first | trivial | omega⟩, onSome_some.2 (ref22_Reg.ldA (B6.own.heldAt genc_len hi) (as_ok r fun g7 f7 => ⟨_, _, _, _, _, _, _, rfl, (B6.on f7).own.heldAt genc_len hi, cell_at (B6.on f7).blk rfl, _, eqvR r, ?_⟩))⟩
          simp only [Bool.not_true, Bool.false_eq_true, if_false]
          exact done g7 f7
        · rw [hfr] at hb6 ⊢
          have e1 : ((none : Option Rg).isSome == decide ((-1 : Int) ≥ 0)) = true := by decide
          rw [if_neg (by rw [e1]; decide), if_neg (by decide), if_pos (by decide)]
          refine regs_Reg.ld hb6 ⟨_, eqvZ, done g6 (Fr.refl _ _)⟩
      have hg14 := F14.get hg2 id
      refine ref04_Eid.ld hg14 (rfind_ok (B'.on F14) f.e (by have := k'.len; omega) (fun i r hi hre hfr g5 f5 => ⟨_, rfl, ?_⟩) (fun hfr g5 f5 => ⟨_, rfl, ?_⟩))
      · exact go i g5 f5 (.inl ⟨by rw [hfr]; rfl, i, r, rfl, hi, hfr⟩)
      · exact go (-1) g5 f5 (.inr ⟨hfr, rfl⟩)
    clear hJ1
    obtain ⟨mm, HH⟩ := id H12
    have so := HH.so
    have keep : ∀ {g X'}, StepF X h12 X' g → Rt g x Y L ∧ Apart X' Y ∧ UpF h Y g := fun st =>
      ⟨B12.frame st.fr (fun y hy hm => ap y (.inl hm) hy), st.apart ap (fun c hc => B12.lt c hc), ⟨(u12.step st).fr, w12.ge⟩⟩
    have fin2 : ∀ {g g' X' Y' L1}, Tb g b X' L1 → StepF X h12 X' g → Rt g' x Y' L1 → StepF Y g Y' g' → okL L1 → J1 true g' := by
      intro g g' X' Y' L1 H' st B' st' k1
      obtain ⟨Bg, ap', w'⟩ := keep st
      have u' := u12.step st
      have w2 := w'.step st'
      refine fin g' X' Y' L1 (st'.fr.get (st.fr.get hb12 nX) nY) (st'.fr.get (st.fr.get hb2 n2X) n2Y) (H'.frame st'.fr (fun y hy hm => ap' y hy (.inl hm))) B' ⟨w2.fr, u'.ge⟩ w2 (Apart.symm (st'.apart ap'.symm (fun c hc => H'.lt c hc))) k1
    have hl8 := kL.len
    refine JoinP.of fun J3 hJ3 => ?_
    subst hJ3
    split
    · refine lop hb12 ⟨_, cell_at hb12 rfl, _, cell_at hb12 rfl, ref04_Eid.ld hb2 ⟨_, cell_at hb12 rfl, _, cell_at hb12 rfl, Regs.add_ok H12 ⟨f.e, f.pol, f.own⟩ hl8 fun g H' st => ?_⟩⟩
      have hg1 : f.at g b1 := st.fr.get hb12 nX
      have hg2 := st.fr.get hb2 n2X
      have hop : heldL ⟨b1, 3, none⟩ [.bool f.e.ipn, .int .u64 f.e.node, .int .u64 f.e.svc, .string f.e.host, .string f.e.dem] 0 g := ⟨cell_at hg1 rfl, cell_at hg1 rfl, cell_at hg1 rfl, cell_at hg1 rfl, cell_at hg1 rfl, trivial⟩
      obtain ⟨Bg, _, _⟩ := keep st
      refine ⟨_, rfl, cell_at hg1 rfl, cell_at hg1 rfl, ref04_Eid.held hg2, cell_at hg1 rfl, cell_at hg1 rfl, hop, radd_ok Bg ⟨f.e, f.pol, f.own⟩ hl8 fun g' Y' B' st' => ?_⟩
      have hg1' : f.at g' b1 := st'.fr.get hg1 nY
      have hg2' := st'.fr.get hg2 n2Y
      have hop' : heldL ⟨b1, 3, none⟩ [.bool f.e.ipn, .int .u64 f.e.node, .int .u64 f.e.svc, .string f.e.host, .string f.e.dem] 0 g' := ⟨cell_at hg1' rfl, cell_at hg1' rfl, cell_at hg1' rfl, cell_at hg1' rfl, cell_at hg1' rfl, trivial⟩
      refine ⟨_, rfl, cell_at hg1' rfl, cell_at hg1' rfl, ref04_Eid.held hg2', cell_at hg1' rfl, cell_at hg1' rfl, hop', ?_⟩
      rw [beq_self_eq_true]
      exact fin2 H' st B' st' (kL.add _ hsv)
    refine JoinP.of fun J4 hJ4 => ?_
    subst hJ4
    split
    · refine lop hb12 ⟨_, cell_at hb12 rfl, ref04_Eid.ld hb2 ⟨_, cell_at hb12 rfl, Regs.remove_ok H12 f.e f.own fun g H' st => ?_⟩⟩
      have hg1 : f.at g b1 := st.fr.get hb12 nX
      have hg2 := st.fr.get hb2 n2X
      obtain ⟨Bg, _, _⟩ := keep st
      refine ⟨_, rfl, cell_at hg1 rfl, ref04_Eid.held hg2, rremove_ok Bg so f.e f.own (by omega) fun g' Y' B' st' => ⟨_, rfl, ?_⟩⟩
      rw [beq_self_eq_true]
      exact fin2 H' st B' st' (kL.rem _ _)
    refine JoinP.of fun J5 hJ5 => ?_
    subst hJ5
    split
    · refine lop hb12 ⟨_, cell_at hb12 rfl, _, cell_at hb12 rfl, ref04_Eid.ld hb2 ⟨_, cell_at hb12 rfl, _, cell_at hb12 rfl, Regs.policy_ok H12 f.e f.own f.pol fun g H' st => ?_⟩⟩
      have hg1 : f.at g b1 := st.fr.get hb12 nX
      have hg2 := st.fr.get hb2 n2X
      obtain ⟨Bg, _, _⟩ := keep st
      refine ⟨_, rfl, cell_at hg1 rfl, cell_at hg1 rfl, ref04_Eid.held hg2, rpolicy_ok Bg so f.e f.own f.pol (by omega) fun g' B' st' => ⟨_, rfl, ?_⟩⟩
      rw [beq_self_eq_true]
      exact fin2 H' st B' st' (kL.pol _ _ _)
    · exact fin h12 X Y L hb12 hb2 H12 B12 u12 w12 ap kL
  · have hJf : J false h3 := by
      subst hJ
      dsimp only
      rw [if_neg (by decide)]
      refine newP_of ?_
      have f4 : Fr (fun _ => False) h3 (h3.push (.cells #[.map none] T.regs_Table)) := Fr.push _ _
      have Z4 : Zero (h3.push (.cells #[.map none] T.regs_Table)) h3.size := push_new
      generalize h3.push (.cells #[.map none] T.regs_Table) = h4 at f4 Z4 ⊢
      generalize h3.size = z at Z4 ⊢
      refine home_ok fun h5 f5 => ⟨_, _, _, _, _, rfl, find_nil (ip 7 1) fun v h6 f6 => ⟨_, _, _, _, _, _, _, _, rfl, regs_Reg.new fun b7 h7 e7 hb7 f7 => ?_⟩⟩
      have F7 := f5.tt (f6.tt f7)
      refine home_ok fun h8 f8 => ⟨_, _, _, _, _, rfl, find_zero ((F7.tt f8).get Z4 id) (ip 7 1) fun v h9 f9 => ⟨_, _, _, _, _, _, _, _, rfl, regs_Reg.new fun b10 h10 e10 hb10 f10 => ?_⟩⟩
      have F10 := F7.tt (f8.tt (f9.tt f10))
      refine alive_ok fun h11 f11 => ⟨_, rfl, ?_⟩
      rw [if_pos rfl]
      have F11 := f4.tt (F10.tt f11)
      have hl8 := kL.len
      refine save_ok (H.on F11) (by omega) kL.all (tb.on (u.fr.tt F11)) fun h12 p12 l12 c12 B12 f12 => ⟨_, _, _, rfl, ?_⟩
      refine rsave_ok (B.on (F11.tt f12)) (by omega) kL.all fun h13 p13 l13 c13 B13 f13 => ⟨_, _, _, rfl, ?_⟩
      obtain ⟨xs, r1, e1⟩ := (B12.on f13).to_rows
      obtain ⟨ys, r2, e2⟩ := B13.to_rows
      have ln := B12.len
      rw [List.length_map] at ln
      refine Fld.same_ok r1 r2 (by omega) ⟨_, rfl, ?_⟩
      rw [decide_eq_true (e1.trans e2.symm), if_pos rfl, if_pos (by decide), if_pos (by decide)]
      have F13 := F10.tt (f11.tt (f12.tt f13))
      refine add_nil .zero fun h14 f14 => ⟨_, rfl, ?_⟩
      rw [if_pos (by decide)]
      refine add_zero ((F13.tt f14).get Z4 id) .zero fun h15 f15 => ⟨_, rfl, ?_⟩
      rw [if_pos (by decide)]
      refine home_ok fun h16 f16 => ⟨_, _, _, _, _, rfl, remove_nil (ip 7 1) 1 fun h17 f17 => ⟨_, rfl, ?_⟩⟩
      rw [if_pos (by decide)]
      have F17 := F13.tt (f14.tt (f15.tt (f16.tt f17)))
      refine home_ok fun h18 f18 => ⟨_, _, _, _, _, rfl, policy_zero ((F17.tt f18).get Z4 id) (ip 7 1) 1 9 fun h19 f19 => ⟨_, rfl, ?_⟩⟩
      rw [if_pos (by decide)]
      refine all_nil fun h20 f20 => ⟨_, _, _, rfl, ?_⟩
      have F20 := F17.tt (f18.tt (f19.tt f20))
      refine save_zero (F20.get Z4 id) fun h21 f21 => ⟨_, _, _, rfl, ?_⟩
      exact hk h21 (u.fr.tt (f4.tt (F20.tt f21)))
    by_cases q1 : k < fs.length
    · have q2 : ¬ k < 80 := fun e => hl ⟨q1, e⟩
      have q1 : (k : Int) < ((fs.length : Nat) : Int) := by omega
      have q2 : ¬ (k : Int) < 80 := by omega
      simp only [q1, q2, decide_true, decide_false, if_true]
      exact hJf
    · have q1 : ¬ (k : Int) < ((fs.length : Nat) : Int) := by omega
      simp only [q1, decide_false, Bool.false_eq_true, if_false]
      exact hJf
end Regs
end Go.Proofs.YtgccegnmggjkjaaDoor
