/-
  What is proved here: parts of the proof, one behind the other (texts of this work, merged by a program; what the theorem does not use is left out). No condition.
-/
import Derived.Lib.LaidU8
import Derived.Lib.LaidTab
import Derived.Test.YtgccegnmggjkjaaGreatDoorMStesd
set_option maxRecDepth 100000
namespace Go.Proofs.YtgccegnmggjkjaaGreatDoor
open Go.Den Go.Fields
namespace Ses
open Fld
variable {h h' h0 : Heap} {t : Nat} {X : Ft} {R : Value → Heap → Prop} {p q : Option Addr} {c d i : Nat} {lab : Lab} {D : Nat → Prop} {L : List SC} {A : List Ses}
abbrev senc (s : SC) : List Value := [.int .i64 (s.num : Int), .int .u64 (s.token : Int), .bool s.up, .bool s.watch, .slice s.kp s.kept.length s.kc, .slice s.np s.notes.length s.nc]
theorem senc_len (s : SC) : (senc s).length = 6 := rfl
theorem tS : SlTy Tryz.prog T.s_sessions_Session T.sessions_Session 6 72 (.agg #[.int .i64 0, .int .u64 0, .bool false, .bool false, .slice none 0 0, .slice none 0 0]) := ⟨by kernel_rfl, by kernel_rfl, rfl⟩
theorem uSe : Tryz.prog.underlying T.s_sessions_Session = some (.slice T.sessions_Session) := by kernel_rfl
structure SRow (h : Heap) (D : Nat → Prop) (s : SC) : Prop where
  k : Row h s.kp (s.kept.flatMap AV.enc)
  kD : s.kept ≠ [] → ∀ y, inBlk s.kp y → D y
  kd : ∀ a ∈ s.kept, a.v.ok h D
  n : Row h s.np (s.notes.flatMap nenc)
  nD : s.notes ≠ [] → ∀ y, inBlk s.np y → D y
  nd : ∀ n ∈ s.notes, n.ok h D
theorem SRow.frame {Q : Nat → Prop} {s : SC} (H : SRow h D s) (f : Fr Q h h') (hq : ∀ y, D y → ¬ Q y) : SRow h' D s := by
  refine ⟨?_, H.kD, fun a ha => (H.kd a ha).frame f hq, ?_, H.nD, fun a ha => (H.nd a ha).frame f hq⟩
  · by_cases e : s.kept = []
    · rw [e]; exact .inl rfl
    · exact H.k.frame f (fun a ea => hq _ (H.kD e _ ⟨a, ea, rfl⟩))
  · by_cases e : s.notes = []
    · rw [e]; exact .inl rfl
    · exact H.n.frame f (fun a ea => hq _ (H.nD e _ ⟨a, ea, rfl⟩))
theorem SRow.mono {D' : Nat → Prop} {s : SC} (H : SRow h D s) (hd : ∀ y, D y → D' y) : SRow h D' s :=
  ⟨H.k, fun e y hy => hd y (H.kD e y hy), fun a ha => (H.kd a ha).mono hd, H.n, fun e y hy => hd y (H.nD e y hy), fun a ha => (H.nd a ha).mono hd⟩
def SL (h0 h : Heap) (p : Option Addr) (l c : Nat) (A : List Ses) : Prop :=
  ∃ (xs : List SC) (D : Nat → Prop), l = xs.length ∧ Own h p l c 6 (xs.flatMap senc) ∧ xs.map SC.abs = A ∧ (∀ x ∈ xs, SRow h D x) ∧ (∀ y, D y → h0.size ≤ y ∧ y < h.size ∧ ¬ inBlk p y) ∧ ∀ y, inBlk p y → h0.size ≤ y
theorem SL.len {l : Nat} (H : SL h0 h p l c A) : l = A.length := by
  obtain ⟨xs, D, h1, _, h3, _⟩ := H
  rw [h1, ← h3, List.length_map]
structure Cp (g h : Heap) (b : Nat) (s : SC) (E : Nat → Prop) : Prop where
  fr : Fr (fun _ => False) g h
  blk : sessions_Session.at h b (s.num : Int) (s.token : Int) s.up s.watch s.kp s.kept.length s.kc s.np s.notes.length s.nc
  gb : g.size ≤ b
  ko : Own h s.kp s.kept.length s.kc 2 (s.kept.flatMap AV.enc)
  kg : ∀ y, inBlk s.kp y → g.size ≤ y ∧ y ≠ b ∧ ¬ E y
  no : Own h s.np s.notes.length s.nc 1 (s.notes.flatMap nenc)
  ng : ∀ y, inBlk s.np y → g.size ≤ y ∧ y ≠ b ∧ ¬ E y ∧ ¬ inBlk s.kp y
  kd : ∀ a ∈ s.kept, a.v.ok h E
  nd : ∀ n ∈ s.notes, n.ok h E
  eg : ∀ y, E y → g.size ≤ y ∧ y < h.size ∧ y ≠ b
theorem Cp.answer {g : Heap} {b : Nat} {s : SC} {E : Nat → Prop} {a : AV} {K : Heap → Prop} (C : Cp g h b s E) (hr : Row h a.v.p (bc a.v.b)) (hlb : a.v.b.length ≤ 1000) (hkl : s.kept.length ≤ 1000)
    (hk : ∀ h' s' E', Cp g h' b s' E' → s'.abs = { s.abs with kept := s.abs.kept ++ [a.abs] } → K h') :
    NewP h (.cells #[.int .u64 0, .slice none 0 0] T.sessions_Answer) fun b_1 h_12 =>
          StoreP h_12 ⟨b_1, 0, none⟩ (.int .u64 (a.id : Int)) fun h_13 =>
          StoreP h_13 ⟨b_1, 1, none⟩ (.slice a.v.p a.v.b.length a.v.c) fun h_14 =>
          ∃ (t37_p : Option Addr) (t37_l t37_c : Nat), hcell h_14 ⟨b, 4, none⟩ = some (.slice t37_p t37_l t37_c) ∧
          ∃ (t39 : Int), hcell h_14 ⟨b_1, 0, none⟩ = some (.int .u64 t39) ∧
          ∃ (t41_p : Option Addr) (t41_l t41_c : Nat), hcell h_14 ⟨b_1, 1, none⟩ = some (.slice t41_p t41_l t41_c) ∧
          CallsH Tryz.prog F.slices_Clone_s_byte_byte #[.slice t41_p t41_l t41_c] h_14 fun v h_15 =>
          ∃ (t42_p : Option Addr) (t42_l t42_c : Nat), v = .slice t42_p t42_l t42_c ∧
          hcell h_15 ⟨b_1, 0, none⟩ = some (.int .u64 t39) ∧
          hcell h_15 ⟨b, 4, none⟩ = some (.slice t37_p t37_l t37_c) ∧
          NewP h_15 (.cells #[.int .u64 t39, .slice t42_p t42_l t42_c] T.sessions_Answer) fun b_2 h_16 =>
          hcell h_16 ⟨b_1, 0, none⟩ = some (.int .u64 t39) ∧
          hcell h_16 ⟨b, 4, none⟩ = some (.slice t37_p t37_l t37_c) ∧
          denSem Tryz.prog (Builtin.append_ #[T.s_sessions_Answer, T.s_sessions_Answer] T.s_sessions_Answer #[.slice t37_p t37_l t37_c, .slice (some ⟨b_2, 0, none⟩) 1 1]) h_16 fun v_1 h_17 =>
          ∃ (t45_p : Option Addr) (t45_l t45_c : Nat), v_1 = .slice t45_p t45_l t45_c ∧
          hcell h_17 ⟨b_1, 0, none⟩ = some (.int .u64 t39) ∧
          StoreP h_17 ⟨b, 4, none⟩ (.slice t45_p t45_l t45_c) fun h_18 => K h_18 := by
  refine sessions_Answer.new fun b1 h14 eb1 hb1 f14 => ?_
  have k14 := f14.get C.blk id
  have zb : b < h.size := lt_of_get C.blk
  refine ⟨_, _, _, cell_at k14 rfl, _, cell_at hb1 rfl, _, _, _, cell_at hb1 rfl, clone_ok (hr.frame f14 (fun _ _ => id)) rfl (by omega) fun p15 c15 h15 o15 f15 g15 => ⟨_, _, _, rfl, cell_at (f15.get hb1 id) rfl, cell_at (f15.get k14 id) rfl, newP_of ?_⟩⟩
  have f16 : Fr (fun _ => False) h15 (h15.push (.cells #[.int .u64 (a.id : Int), .slice p15 a.v.b.length c15] T.sessions_Answer)) := Fr.push _ _
  have row16 : Row (h15.push (.cells #[.int .u64 (a.id : Int), .slice p15 a.v.b.length c15] T.sessions_Answer)) (some ⟨h15.size, 0, none⟩) (AV.enc ⟨a.id, ⟨p15, c15, a.v.b⟩⟩) := row_new (cs := AV.enc ⟨a.id, ⟨p15, c15, a.v.b⟩⟩)
  have sz16 : (h15.push (.cells #[.int .u64 (a.id : Int), .slice p15 a.v.b.length c15] T.sessions_Answer)).size = h15.size + 1 := Array.size_push _
  generalize h15.push (.cells #[.int .u64 (a.id : Int), .slice p15 a.v.b.length c15] T.sessions_Answer) = h16 at f16 row16 sz16 ⊢
  have f1416 := f15.tt f16
  have f016 := f14.tt f1416
  have k16 := f1416.get k14 id
  have b116 := f1416.get hb1 id
  refine ⟨cell_at b116 rfl, cell_at k16 rfl, ?_⟩
  have zh14 := f14.1
  have zh15 := f15.1
  have zg := C.fr.1
  have nkb : ∀ y, inBlk s.kp y → y ≠ b := fun y hy => (C.kg y hy).2.1
  have lk : ∀ y, inBlk s.kp y → y < h.size := fun y hy => C.ko.blk_lt hy
  refine den_append tA uA (C.ko.frame f016 (fun _ _ => id)) row16 rfl (fun v hv => by simp at hv; rcases hv with rfl | rfl <;> rfl) (by omega) (by omega) ?_
  intro p17 c17 h17 o17 _ f17 g17
  have b117 := f17.get b116 (fun hx => by have := lk _ hx; omega)
  refine ⟨_, _, _, rfl, cell_at b117 rfl, ?_⟩
  have k17 := f17.get k16 (fun hx => nkb _ hx rfl)
  refine storeP_blk k17 (by simp) fun h18 q1 q2 q3 => ?_
  have f18 : Fr (fun x => x = b) h17 h18 := Fr.of_eq q2 q3
  have F18 : Fr (fun x => x = b ∨ inBlk s.kp x) h h18 := (f016.mono (fun _ _ => False.elim)).tt ((f17.mono (fun _ _ hx => .inr hx)).tt (f18.mono (fun _ _ hx => .inl hx)))
  have z17 := f17.1
  have z18 := f18.1
  have n17 : ∀ y, inBlk p17 y → inBlk s.kp y ∨ h16.size ≤ y := g17
  have b15 : ∀ y, inBlk p15 y → h.size ≤ y ∧ y < h15.size := fun y hy => ⟨by have := g15 y hy; omega, o15.blk_lt hy⟩
  have o1518 : Own h18 p15 a.v.b.length c15 1 (bc a.v.b) := ((o15.frame f16 (fun _ _ => id)).frame f17 (fun y hy hx => by have := b15 y hy; have := lk y hx; omega)).frame f18 (fun y hy e => by have := b15 y hy; omega)
  have eQ : ∀ y, E y → ¬ (y = b ∨ inBlk s.kp y) := fun y hy hx => hx.elim (C.eg y hy).2.2 (fun hx => (C.kg y hx).2.2 hy)
  have o18 := o17.frame f18 (fun y hy e => (n17 y hy).elim (fun hx => nkb y hx e) (fun hx => by omega))
  refine hk h18 { s with kept := s.kept ++ [⟨a.id, ⟨p15, c15, a.v.b⟩⟩], kp := p17, kc := c17 } (fun y => E y ∨ inBlk p15 y) ⟨?_, ?_, C.gb, ?_, ?_, ?_, ?_, ?_, ?_, ?_⟩ ?_
  · exact C.fr.step F18 (fun y hy hx => hx.elim (fun e => by have := C.gb; omega) (fun hx => by have := (C.kg y hx).1; omega))
  · show h18[b]? = _
    rw [q1]
    dsimp only
    rw [List.length_append]; rfl
  · show Own h18 p17 (s.kept ++ [_]).length c17 2 ((s.kept ++ [_]).flatMap AV.enc)
    rw [List.length_append, List.flatMap_append]
    simpa using o18
  · intro y hy
    rcases n17 y hy with hx | hx
    · exact ⟨(C.kg y hx).1, (C.kg y hx).2.1, fun he => he.elim (C.kg y hx).2.2 (fun h2 => by have := b15 y h2; have := lk y hx; omega)⟩
    · exact ⟨by omega, by omega, fun he => he.elim (fun h2 => by have := (C.eg y h2).2.1; omega) (fun h2 => by have := b15 y h2; omega)⟩
  · exact C.no.frame F18 (fun y hy hx => hx.elim (C.ng y hy).2.1 (C.ng y hy).2.2.2)
  · intro y hy
    have hy' := C.ng y hy
    have ly : y < h.size := C.no.blk_lt hy
    exact ⟨hy'.1, hy'.2.1, fun he => he.elim hy'.2.2.1 (fun h2 => by have := b15 y h2; omega), fun hx => (n17 y hx).elim hy'.2.2.2 (fun h2 => by omega)⟩
  · intro x hx
    rcases List.mem_append.1 hx with hx | hx
    · exact ((C.kd x hx).frame F18 eQ).mono (fun y => .inl)
    · simp at hx; subst hx; exact BV.of_own o1518 (fun y => .inr)
  · intro x hx
    exact ((C.nd x hx).frame F18 eQ).mono (fun y => .inl)
  · rintro y (hy | hy)
    · exact ⟨(C.eg y hy).1, by have := (C.eg y hy).2.1; omega, (C.eg y hy).2.2⟩
    · exact ⟨by have := b15 y hy; omega, by have := b15 y hy; omega, by have := b15 y hy; omega⟩
  · unfold SC.abs
    dsimp only
    rw [List.map_append]; rfl
theorem Cp.note {g : Heap} {b : Nat} {s : SC} {E : Nat → Prop} {n : BV} {K : Heap → Prop} (C : Cp g h b s E) (hr : Row h n.p (bc n.b)) (hlb : n.b.length ≤ 1000) (hkl : s.notes.length ≤ 1000)
    (hk : ∀ h' s' E', Cp g h' b s' E' → s'.abs = { s.abs with notes := s.abs.notes ++ [n.b] } → K h') :
    ∃ (t58_p : Option Addr) (t58_l t58_c : Nat), hcell h ⟨b, 5, none⟩ = some (.slice t58_p t58_l t58_c) ∧
              CallsH Tryz.prog F.slices_Clone_s_byte_byte #[.slice n.p n.b.length n.c] h fun v_2 h_20 =>
              ∃ (t60_p : Option Addr) (t60_l t60_c : Nat), v_2 = .slice t60_p t60_l t60_c ∧
              hcell h_20 ⟨b, 5, none⟩ = some (.slice t58_p t58_l t58_c) ∧
              NewP h_20 (.cells #[.slice t60_p t60_l t60_c] T.s_uint8) fun b_3 h_21 =>
              hcell h_21 ⟨b, 5, none⟩ = some (.slice t58_p t58_l t58_c) ∧
              denSem Tryz.prog (Builtin.append_ #[T.s_s_uint8, T.s_s_uint8] T.s_s_uint8 #[.slice t58_p t58_l t58_c, .slice (some ⟨b_3, 0, none⟩) 1 1]) h_21 fun v_3 h_22 =>
              ∃ (t62_p : Option Addr) (t62_l t62_c : Nat), v_3 = .slice t62_p t62_l t62_c ∧
              StoreP h_22 ⟨b, 5, none⟩ (.slice t62_p t62_l t62_c) fun h_23 => K h_23 := by
  have zb : b < h.size := lt_of_get C.blk
  refine ⟨_, _, _, cell_at C.blk rfl, clone_ok hr rfl (by omega) fun p15 c15 h15 o15 f15 g15 => ⟨_, _, _, rfl, cell_at (f15.get C.blk id) rfl, newP_of ?_⟩⟩
  have f16 : Fr (fun _ => False) h15 (h15.push (.cells #[.slice p15 n.b.length c15] T.s_uint8)) := Fr.push _ _
  have row16 : Row (h15.push (.cells #[.slice p15 n.b.length c15] T.s_uint8)) (some ⟨h15.size, 0, none⟩) (nenc ⟨p15, c15, n.b⟩) := row_new (cs := nenc ⟨p15, c15, n.b⟩)
  have sz16 : (h15.push (.cells #[.slice p15 n.b.length c15] T.s_uint8)).size = h15.size + 1 := Array.size_push _
  generalize h15.push (.cells #[.slice p15 n.b.length c15] T.s_uint8) = h16 at f16 row16 sz16 ⊢
  have f016 := f15.tt f16
  have k16 := f016.get C.blk id
  refine ⟨cell_at k16 rfl, ?_⟩
  have zh15 := f15.1
  have zg := C.fr.1
  have nkb : ∀ y, inBlk s.np y → y ≠ b := fun y hy => (C.ng y hy).2.1
  have lk : ∀ y, inBlk s.np y → y < h.size := fun y hy => C.no.blk_lt hy
  refine den_append tN uN (C.no.frame f016 (fun _ _ => id)) row16 rfl (fun v hv => by simp at hv; subst hv; rfl) (by omega) (by omega) ?_
  intro p17 c17 h17 o17 _ f17 g17
  refine ⟨_, _, _, rfl, ?_⟩
  have k17 := f17.get k16 (fun hx => nkb _ hx rfl)
  refine storeP_blk k17 (by simp) fun h18 q1 q2 q3 => ?_
  have f18 : Fr (fun x => x = b) h17 h18 := Fr.of_eq q2 q3
  have F18 : Fr (fun x => x = b ∨ inBlk s.np x) h h18 := (f016.mono (fun _ _ => False.elim)).tt ((f17.mono (fun _ _ hx => .inr hx)).tt (f18.mono (fun _ _ hx => .inl hx)))
  have z17 := f17.1
  have z18 := f18.1
  have n17 : ∀ y, inBlk p17 y → inBlk s.np y ∨ h16.size ≤ y := g17
  have b15 : ∀ y, inBlk p15 y → h.size ≤ y ∧ y < h15.size := fun y hy => ⟨g15 y hy, o15.blk_lt hy⟩
  have o1518 : Own h18 p15 n.b.length c15 1 (bc n.b) := ((o15.frame f16 (fun _ _ => id)).frame f17 (fun y hy hx => by have := b15 y hy; have := lk y hx; omega)).frame f18 (fun y hy e => by have := b15 y hy; omega)
  have eQ : ∀ y, E y → ¬ (y = b ∨ inBlk s.np y) := fun y hy hx => hx.elim (C.eg y hy).2.2 (fun hx => (C.ng y hx).2.2.1 hy)
  have o18 := o17.frame f18 (fun y hy e => (n17 y hy).elim (fun hx => nkb y hx e) (fun hx => by omega))
  refine hk h18 { s with notes := s.notes ++ [⟨p15, c15, n.b⟩], np := p17, nc := c17 } (fun y => E y ∨ inBlk p15 y) ⟨?_, ?_, C.gb, ?_, ?_, ?_, ?_, ?_, ?_, ?_⟩ ?_
  · exact C.fr.step F18 (fun y hy hx => hx.elim (fun e => by have := C.gb; omega) (fun hx => by have := (C.ng y hx).1; omega))
  · show h18[b]? = _
    rw [q1]
    dsimp only
    rw [List.length_append]; rfl
  · exact C.ko.frame F18 (fun y hy hx => hx.elim (C.kg y hy).2.1 (fun h2 => (C.ng y h2).2.2.2 hy))
  · intro y hy
    have hy' := C.kg y hy
    have ly : y < h.size := C.ko.blk_lt hy
    exact ⟨hy'.1, hy'.2.1, fun he => he.elim hy'.2.2 (fun h2 => by have := b15 y h2; omega)⟩
  · show Own h18 p17 (s.notes ++ [_]).length c17 1 ((s.notes ++ [_]).flatMap nenc)
    rw [List.length_append, List.flatMap_append]
    simpa using o18
  · intro y hy
    rcases n17 y hy with hx | hx
    · exact ⟨(C.ng y hx).1, (C.ng y hx).2.1, fun he => he.elim (C.ng y hx).2.2.1 (fun h2 => by have := b15 y h2; have := lk y hx; omega), (C.ng y hx).2.2.2⟩
    · exact ⟨by omega, by omega, fun he => he.elim (fun h2 => by have := (C.eg y h2).2.1; omega) (fun h2 => by have := b15 y h2; omega), fun h2 => by have := C.ko.blk_lt h2; omega⟩
  · intro x hx
    exact ((C.kd x hx).frame F18 eQ).mono (fun y => .inl)
  · intro x hx
    rcases List.mem_append.1 hx with hx | hx
    · exact ((C.nd x hx).frame F18 eQ).mono (fun y => .inl)
    · simp at hx; subst hx; exact BV.of_own o1518 (fun y => .inr)
  · rintro y (hy | hy)
    · exact ⟨(C.eg y hy).1, by have := (C.eg y hy).2.1; omega, (C.eg y hy).2.2⟩
    · exact ⟨by have := b15 y hy; omega, by have := b15 y hy; omega, by have := b15 y hy; omega⟩
  · unfold SC.abs
    dsimp only
    rw [List.map_append]; rfl
theorem all_ok (H : Has h t X A) (ok : okA A) (hk : ∀ h' p' l' c', SL h h' p' l' c' A → Fr (fun _ => False) h h' → R (.slice p' l' c') h') : CallsH Tryz.prog F.sessions_Table_All #[.pointer (some ⟨t, 0, none⟩)] h R := by
  obtain ⟨_, lab, L, TB, rfl, _, hS⟩ := H
  have hl := ok.le
  rw [List.length_map] at hl
  obtain ⟨tp, tc, htb, town, _⟩ := TB.blk
  refine sessions_Table_All.walk ⟨_, _, _, cell_at htb rfl, ?_⟩
  refine ⟨fun op ol oc i h1 => ∃ k : Nat, i = (k : Int) ∧ k ≤ L.length ∧ SL h h1 op ol oc ((L.map SC.abs).take k) ∧ Fr (fun _ => False) h h1, fun _ _ _ i _ => L.length - i.toNat, ⟨0, rfl, by omega, ⟨[], fun _ => False, rfl, .nil rfl rfl rfl rfl, rfl, (fun x hx => by cases hx), (fun y hy => hy.elim), fun y ⟨a, e, _⟩ => by cases e⟩, Fr.refl _ _⟩, ?_⟩
  rintro op ol oc _ g ⟨k, rfl, hkn, O, fg⟩
  have TBg := TB.on fg
  have htg := fg.get htb id
  have owng := town.frame fg (fun _ _ => id)
  have olen := O.len
  rw [List.length_take, List.length_map] at olen
  by_cases hlt : k < L.length
  · have q1 : (k : Int) < (L.length : Int) := by omega
    simp only [q1, decide_true, if_true, Int.toNat_natCast]
    have hs : L[k]? = some L[k] := List.getElem?_eq_getElem hlt
    generalize L[k] = s at hs
    have SA := TBg.ses k s hs
    have okS := ok.at_ k _ (abs_at hs)
    have kl : s.kept.length ≤ 6 := by have := okS.kl; rwa [show s.abs.kept.length = s.kept.length from List.length_map _] at this
    have nl : s.notes.length ≤ 6 := by have := okS.nl; rwa [show s.abs.notes.length = s.notes.length from List.length_map _] at this
    have kb : ∀ a ∈ s.kept, a.v.b.length ≤ 1000 := fun a ha => (okS.kd a.abs (List.mem_map_of_mem ha)).2
    have nb : ∀ a ∈ s.notes, a.b.length ≤ 1000 := fun a ha => by have := (okS.nd a.b (List.mem_map_of_mem ha)).2; omega
    obtain ⟨ab, aoff, rfl⟩ := owng.addr (by omega)
    refine ⟨⟨by first | trivial | omega, by first | trivial | omega⟩, onSome_some.2 ⟨some ⟨s.b, 0, none⟩, ?_, onSome_some.2 ?_⟩⟩
    · rw [Nat.mul_one]; exact owng.cell (by rw [List.getElem?_map, hs]; rfl)
    refine sessions_Session.ld SA.blk (sessions_Session.new fun b h8 eb hb8 f8 => ?_)
    refine storeP_blk hb8 (by simp) fun h9 a1 a2 a3 => storeP_blk a1 (by simp) fun h10 b1 b2 b3 => onSome_some.2 ?_
    have f10 : Fr (fun _ => False) g h10 := f8.step ((Fr.of_eq (S := fun x => x = b) a2 a3).tt (Fr.of_eq b2 b3)) (fun y hy e => by omega)
    have SA10 := SA.frame f10 (fun _ _ _ _ _ => id) (fun _ _ => id)
    refine ⟨_, _, _, cell_at SA10.blk rfl, ?_⟩
    have C10 : Cp g h10 b ⟨b, s.num, s.token, s.up, s.watch, [], none, 0, [], none, 0⟩ (fun _ => False) :=
      ⟨f10, b1, by omega, .nil rfl rfl rfl rfl, (fun y ⟨a, e, _⟩ => by cases e), .nil rfl rfl rfl rfl, (fun y ⟨a, e, _⟩ => by cases e), (fun a ha => by cases ha), (fun a ha => by cases ha), fun y hy => hy.elim⟩
    refine ⟨fun i h' => ∃ (j : Nat) (s' : SC) (E : Nat → Prop), i = (j : Int) ∧ j ≤ s.kept.length ∧ Cp g h' b s' E ∧ s'.abs = ⟨s.num, s.token, s.up, s.watch, s.abs.kept.take j, []⟩, fun i _ => s.kept.length - i.toNat, ⟨0, _, _, rfl, by omega, C10, rfl⟩, ?_⟩
    clear C10 SA10 f10 b1 b2 b3 a1 a2 a3 hb8 f8
    rintro _ h11 ⟨j, s', E, rfl, hj, C, hab⟩
    have SA11 := SA.frame C.fr (fun _ _ _ _ _ => id) (fun _ _ => id)
    by_cases hjl : j < s.kept.length
    · have q2 : (j : Int) < (s.kept.length : Int) := by omega
      simp only [q2, decide_true, if_true, Int.toNat_natCast]
      have ha : s.kept[j]? = some s.kept[j] := List.getElem?_eq_getElem hjl
      generalize s.kept[j] = a at ha
      have own11 := SA11.kown
      obtain ⟨kb', koff, hkp⟩ := own11.addr (by omega)
      rw [hkp] at own11
      refine ⟨⟨by first | trivial | omega, by first | trivial | omega⟩, ?_⟩
      rw [hkp]
      refine onSome_some.2 (sessions_Answer.ldA (own11.heldAt aenc_len ha) ?_)
      have s'l : s'.kept.length = j := by
        have := congrArg (fun x => x.kept.length) hab
        have e1 : s'.abs.kept.length = s'.kept.length := List.length_map _
        dsimp only at this
        rw [e1, List.length_take] at this
        have e2 : s.abs.kept.length = s.kept.length := List.length_map _
        omega
      refine C.answer (SA11.kd a (List.mem_of_getElem? ha)).row (kb a (List.mem_of_getElem? ha)) (by omega) fun h18 s18 E18 C18 hab18 => ?_
      rw [wrap_id (by omega) (by omega)]
      refine ⟨⟨j + 1, s18, E18, by omega, by omega, C18, ?_⟩, ?_⟩
      · rw [hab18, hab]
        dsimp only
        congr 1
        rw [List.take_add_one, show s.abs.kept[j]? = some a.abs by show (s.kept.map AV.abs)[j]? = _; rw [List.getElem?_map, ha]; rfl]; rfl
      · show s.kept.length - Int.toNat ((j : Int) + 1) < s.kept.length - Int.toNat (j : Int); omega
    · have q2 : ¬ (j : Int) < (s.kept.length : Int) := by omega
      simp only [q2, decide_false, Bool.false_eq_true, if_false]
      refine onSome_some.2 ⟨_, _, _, cell_at SA11.blk rfl, ?_⟩
      have hab0 : s'.abs = ⟨s.num, s.token, s.up, s.watch, s.abs.kept, s.abs.notes.take 0⟩ := by
        rw [hab, List.take_of_length_le (by have : s.abs.kept.length = s.kept.length := List.length_map _; omega)]; rfl
      refine ⟨fun i h' => ∃ (j : Nat) (s' : SC) (E : Nat → Prop), i = (j : Int) ∧ j ≤ s.notes.length ∧ Cp g h' b s' E ∧ s'.abs = ⟨s.num, s.token, s.up, s.watch, s.abs.kept, s.abs.notes.take j⟩, fun i _ => s.notes.length - i.toNat, ⟨0, s', E, rfl, by omega, C, hab0⟩, ?_⟩
      clear C SA11 hab hab0 hj hjl q2
      rintro _ h19 ⟨j, s', E, rfl, hj, C, hab⟩
      have SA19 := SA.frame C.fr (fun _ _ _ _ _ => id) (fun _ _ => id)
      by_cases hjl : j < s.notes.length
      · have q2 : (j : Int) < (s.notes.length : Int) := by omega
        simp only [q2, decide_true, if_true, Int.toNat_natCast]
        have ha : s.notes[j]? = some s.notes[j] := List.getElem?_eq_getElem hjl
        generalize s.notes[j] = a at ha
        have own19 := SA19.nown
        obtain ⟨nb', noff, hnp⟩ := own19.addr (by omega)
        rw [hnp] at own19
        refine ⟨⟨by first | trivial | omega, by first | trivial | omega⟩, ?_⟩
        rw [hnp]
        refine onSome_some.2 ⟨a.p, a.b.length, a.c, ?_, ?_⟩
        · have := (own19.heldAt nenc_len ha).1
          rwa [add_zero_addr] at this
        have s'l : s'.notes.length = j := by
          have := congrArg (fun x => x.notes.length) hab
          have e1 : s'.abs.notes.length = s'.notes.length := List.length_map _
          dsimp only at this
          rw [e1, List.length_take] at this
          have e2 : s.abs.notes.length = s.notes.length := List.length_map _
          omega
        refine C.note (SA19.nd a (List.mem_of_getElem? ha)).row (nb a (List.mem_of_getElem? ha)) (by omega) fun h18 s18 E18 C18 hab18 => ?_
        rw [wrap_id (by omega) (by omega)]
        refine ⟨⟨j + 1, s18, E18, by omega, by omega, C18, ?_⟩, ?_⟩
        · rw [hab18, hab]
          dsimp only
          congr 1
          rw [List.take_add_one, show s.abs.notes[j]? = some a.b by show (s.notes.map BV.b)[j]? = _; rw [List.getElem?_map, ha]; rfl]; rfl
        · show s.notes.length - Int.toNat ((j : Int) + 1) < s.notes.length - Int.toNat (j : Int); omega
      · have q2 : ¬ (j : Int) < (s.notes.length : Int) := by omega
        simp only [q2, decide_false, Bool.false_eq_true, if_false]
        have hab1 : s'.abs = s.abs := by
          rw [hab, List.take_of_length_le (by have : s.abs.notes.length = s.notes.length := List.length_map _; omega)]; rfl
        refine sessions_Session.ld C.blk ?_
        obtain ⟨xs, D, hx1, hx2, hx3, hx4, hx5, hx6⟩ := O
        have own19 := hx2.frame C.fr (fun _ _ => id)
        refine den_append1 tS uSe own19 rfl (fun v hv => by simp at hv; rcases hv with rfl | rfl | rfl | rfl | rfl | rfl <;> rfl) (by omega) (by omega) ?_
        intro p25 c25 h25 o25 f25 g25
        refine ⟨_, _, _, rfl, ?_⟩
        rw [wrap_id (by omega) (by omega)]
        have z19 := C.fr.1
        have zg := fg.1
        have opg : ∀ y, inBlk op y → y < g.size := fun y hy => hx2.blk_lt hy
        refine ⟨⟨k + 1, by omega, by omega, ⟨xs ++ [s'], fun y => D y ∨ E y ∨ inBlk s'.kp y ∨ inBlk s'.np y, by rw [List.length_append, hx1]; rfl, ?_, ?_, ?_, ?_, ?_⟩, ?_⟩, ?_⟩
        · rw [List.flatMap_append]; simpa using o25
        · rw [List.map_append, hx3, List.take_add_one, List.getElem?_map, hs]
          show _ ++ [s'.abs] = _ ++ [s.abs]
          rw [hab1]
        · intro x hx
          rcases List.mem_append.1 hx with hx | hx
          · refine (((hx4 x hx).frame C.fr (fun _ _ => id)).frame f25 (fun y hy => (hx5 y hy).2.2)).mono (fun y => .inl)
          · simp at hx; subst hx
            refine SRow.frame (h := h19) ⟨C.ko.row', fun _ y hy => .inr (.inr (.inl hy)), fun a ha => (C.kd a ha).mono (fun y hy => .inr (.inl hy)), C.no.row', fun _ y hy => .inr (.inr (.inr hy)), fun a ha => (C.nd a ha).mono (fun y hy => .inr (.inl hy))⟩ f25 ?_
            rintro y (hy | hy | hy | hy) ho
            · exact (hx5 y hy).2.2 ho
            · have := opg y ho; have := (C.eg y hy).1; omega
            · have := opg y ho; have := (C.kg y hy).1; omega
            · have := opg y ho; have := (C.ng y hy).1; omega
        · have z25 := f25.1
          rintro y (hy | hy | hy | hy)
          · exact ⟨(hx5 y hy).1, by have := (hx5 y hy).2.1; omega, fun ho => (g25 y ho).elim (hx5 y hy).2.2 (fun h2 => by have := (hx5 y hy).2.1; omega)⟩
          · have a := C.eg y hy
            exact ⟨by omega, by omega, fun ho => (g25 y ho).elim (fun h2 => by have := opg y h2; omega) (fun h2 => by omega)⟩
          · have a := C.kg y hy
            have b := C.ko.blk_lt hy
            exact ⟨by omega, by omega, fun ho => (g25 y ho).elim (fun h2 => by have := opg y h2; omega) (fun h2 => by omega)⟩
          · have a := C.ng y hy
            have b := C.no.blk_lt hy
            exact ⟨by omega, by omega, fun ho => (g25 y ho).elim (fun h2 => by have := opg y h2; omega) (fun h2 => by omega)⟩
        · intro y hy
          rcases g25 y hy with h2 | h2
          · exact hx6 y h2
          · omega
        · exact (fg.tt C.fr).step f25 (fun y hy ho => by have := hx6 y ho; omega)
        · show L.length - Int.toNat ((k : Int) + 1) < L.length - Int.toNat (k : Int); omega
  · have q1 : ¬ (k : Int) < (L.length : Int) := by omega
    simp only [q1, decide_false, Bool.false_eq_true, if_false]
    rw [List.take_of_length_le (by rw [List.length_map]; omega)] at O
    exact hk g op ol oc O fg
end Ses
end Go.Proofs.YtgccegnmggjkjaaGreatDoor
set_option maxRecDepth 100000
namespace Go.Proofs.YtgccegnmggjkjaaGreatDoor
open Go.Den Go.Fields
namespace Ses
open Fld
variable {h h' h0 : Heap} {t : Nat} {X : Ft} {R : Value → Heap → Prop} {p q : Option Addr} {c d i : Nat} {A : List Ses}
def headR (s : Ses) : List UInt8 := encNum s.num ++ encNum s.token ++ encNum (bit s.up) ++ encNum (bit s.watch) ++ encNum s.kept.length ++ encNum s.notes.length
def ansR (a : Nat × List UInt8) : List UInt8 := encNum a.1 ++ encText a.2
def recS (s : Ses) : List (List UInt8) := headR s :: (s.kept.map ansR ++ s.notes.map encText)
def recs (A : List Ses) : List (List UInt8) := A.flatMap recS
theorem recS_len (s : Ses) : (recS s).length = 1 + s.kept.length + s.notes.length := by unfold recS; simp; omega
theorem recs_le (ok : okA A) : (recs A).length ≤ 13 * A.length := by
  have key : ∀ B : List Ses, (∀ s ∈ B, s.kept.length ≤ 6 ∧ s.notes.length ≤ 6) → (recs B).length ≤ 13 * B.length := by
    intro B
    induction B with
    | nil => intro _; simp [recs]
    | cons s B ih =>
      intro hB
      have h1 := hB s List.mem_cons_self
      have h2 := ih (fun x hx => hB x (List.mem_cons_of_mem _ hx))
      unfold recs at *
      rw [List.flatMap_cons, List.length_append, recS_len, List.length_cons]
      omega
  refine key A fun s hs => ?_
  obtain ⟨i, hi⟩ := List.getElem?_of_mem hs
  exact ⟨(ok.at_ i s hi).kl, (ok.at_ i s hi).nl⟩
theorem save_ok (H : Has h t X A) (ok : okA A) (hk : ∀ h' p' l' c', BL h h' p' l' c' (recs A) → Fr (fun _ => False) h h' → R (.slice p' l' c') h') : CallsH Tryz.prog F.sessions_Table_Save #[.pointer (some ⟨t, 0, none⟩)] h R := by
  refine sessions_Table_Save.walk (all_ok H ok fun h1 p1 l1 c1 O1 f1 => ⟨_, _, _, rfl, ?_⟩)
  obtain ⟨xs, D, rfl, hx2, rfl, hx4, hx5, hx6⟩ := O1
  have hxl := ok.le
  rw [List.length_map] at hxl
  refine ⟨fun op ol oc i h2 => ∃ k : Nat, i = (k : Int) ∧ k ≤ xs.length ∧ BL h1 h2 op ol oc (recs ((xs.map SC.abs).take k)) ∧ ol ≤ 13 * k ∧ Fr (fun _ => False) h1 h2, fun _ _ _ i _ => xs.length - i.toNat, ⟨0, rfl, by omega, BL.nil, by omega, Fr.refl _ _⟩, ?_⟩
  rintro op ol oc _ g ⟨k, rfl, hkn, B, hol, fg⟩
  by_cases hlt : k < xs.length
  · have q1 : (k : Int) < (xs.length : Int) := by omega
    simp only [q1, decide_true, if_true, Int.toNat_natCast]
    have hs : xs[k]? = some xs[k] := List.getElem?_eq_getElem hlt
    generalize xs[k] = s at hs
    have hsA : (xs.map SC.abs)[k]? = some s.abs := by rw [List.getElem?_map, hs]; rfl
    have okS := ok.at_ k _ hsA
    have kl : s.kept.length ≤ 6 := by have := okS.kl; rwa [show s.abs.kept.length = s.kept.length from List.length_map _] at this
    have nl : s.notes.length ≤ 6 := by have := okS.nl; rwa [show s.abs.notes.length = s.notes.length from List.length_map _] at this
    have onum : s.num = k + 1 := okS.num
    have otk : s.token ≤ 2147483648 := okS.tk.2
    have kb : ∀ a ∈ s.kept, a.id ≤ 1099511627776 ∧ a.v.b.length ≤ 1000 := fun a ha => okS.kd a.abs (List.mem_map_of_mem ha)
    have nb : ∀ a ∈ s.notes, a.b.length ≤ 600 := fun a ha => (okS.nd a.b (List.mem_map_of_mem ha)).2
    have owng := hx2.frame fg (fun _ _ => id)
    have SRg : ∀ {h' : Heap}, Fr (fun _ => False) g h' → SRow h' D s := fun f => (hx4 s (List.mem_of_getElem? hs)).frame (fg.tt f) (fun _ _ => id)
    obtain ⟨ab, aoff, rfl⟩ := owng.addr (by omega)
    have zg := fg.1
    have zh := f1.1
    refine ⟨⟨by first | trivial | omega, by first | trivial | omega⟩, onSome_some.2 (sessions_Session.ldA (owng.heldAt senc_len hs) (sessions_Session.new fun b h9 eb hb9 f9 => ?_))⟩
    refine ⟨_, cell_at hb9 rfl, _, cell_at hb9 rfl, _, cell_at hb9 rfl, _, cell_at hb9 rfl, _, _, _, cell_at hb9 rfl, _, _, _, cell_at hb9 rfl, ?_⟩
    refine Fld.new_ok fun h10 w S10 W10 f10 g10 => ⟨_, rfl, ?_⟩
    have u10 : Up h9 S10 h10 := ⟨f10, g10⟩
    have nbS : ∀ {S : Nat → Prop} {h' : Heap}, Up h9 S h' → ¬ S b := fun u hx => by have := u.ge b hx; have := lt_of_get hb9; omega
    have b10 := f10.get hb9 id
    refine ⟨cell_at b10 rfl, cell_at b10 rfl, cell_at b10 rfl, cell_at b10 rfl, cell_at b10 rfl, cell_at b10 rfl, ?_⟩
    refine int_ok W10 (by simp) (by omega) fun h11 S11 W11 s11 => ⟨_, rfl, ?_⟩
    have b11 := s11.fr.get b10 (nbS u10)
    have u11 := u10.step s11
    have e1 : natOf (s.num : Int) = s.num := by unfold natOf; omega
    rw [e1, List.nil_append] at W11
    have l1 := (encNum_len s.num).2
    refine ⟨cell_at b11 rfl, cell_at b11 rfl, cell_at b11 rfl, cell_at b11 rfl, cell_at b11 rfl, ?_⟩
    refine num_ok s.token W11 (by omega) rfl (by omega) fun h12 S12 W12 s12 => ⟨_, rfl, ?_⟩
    have b12 := s12.fr.get b11 (nbS u11)
    have u12 := u11.step s12
    have l2 := (encNum_len s.token).2
    refine ⟨cell_at b12 rfl, cell_at b12 rfl, cell_at b12 rfl, cell_at b12 rfl, ?_⟩
    refine bool_ok W12 (by rw [List.length_append]; omega) fun h13 S13 W13 s13 => ⟨_, rfl, ?_⟩
    have b13 := s13.fr.get b12 (nbS u12)
    have u13 := u12.step s13
    have l3 := (encNum_len (bit s.up)).2
    refine ⟨cell_at b13 rfl, cell_at b13 rfl, cell_at b13 rfl, ?_⟩
    refine bool_ok W13 (by simp only [List.length_append]; omega) fun h14 S14 W14 s14 => ⟨_, rfl, ?_⟩
    have b14 := s14.fr.get b13 (nbS u13)
    have u14 := u13.step s14
    have l4 := (encNum_len (bit s.watch)).2
    refine ⟨cell_at b14 rfl, cell_at b14 rfl, ?_⟩
    refine int_ok W14 (by simp only [List.length_append]; omega) (by omega) fun h15 S15 W15 s15 => ⟨_, rfl, ?_⟩
    have b15 := s15.fr.get b14 (nbS u14)
    have u15 := u14.step s15
    have e5 : natOf ((s.kept.length : Nat) : Int) = s.kept.length := by unfold natOf; omega
    rw [e5] at W15
    have l5 := (encNum_len s.kept.length).2
    refine ⟨cell_at b15 rfl, cell_at b15 rfl, ?_⟩
    refine int_ok W15 (by simp only [List.length_append]; omega) (by omega) fun h16 S16 W16 s16 => ⟨_, rfl, ?_⟩
    have b16 := s16.fr.get b15 (nbS u15)
    have u16 := u15.step s16
    have e6 : natOf ((s.notes.length : Nat) : Int) = s.notes.length := by unfold natOf; omega
    rw [e6] at W16
    have l6 := (encNum_len s.notes.length).2
    refine ⟨cell_at b16 rfl, cell_at b16 rfl, ?_⟩
    have eh : encNum s.num ++ encNum s.token ++ encNum (bit s.up) ++ encNum (bit s.watch) ++ encNum s.kept.length ++ encNum s.notes.length = headR s.abs := by
      unfold headR
      rw [show s.abs.kept.length = s.kept.length from List.length_map _, show s.abs.notes.length = s.notes.length from List.length_map _]; rfl
    have hl6 : (headR s.abs).length ≤ 60 := by rw [← eh]; simp only [List.length_append]; omega
    rw [eh] at W16
    refine bytes_ok W16 (by omega) fun q17 d17 h17 o17 f17 g17 => ⟨_, _, _, rfl, ?_⟩
    have b17 := f17.get b16 id
    refine ⟨cell_at b17 rfl, cell_at b17 rfl, ?_⟩
    have F17 : Fr (fun _ => False) g h17 := f9.tt (u16.fr.tt f17)
    have z9 := f9.1
    have z16 := u16.fr.1
    have zF17 := F17.1
    obtain ⟨ys, DB, hy1, hy2, hy3, hy4, hy5, hy6⟩ := B
    refine newP_of ?_
    have f18 : Fr (fun _ => False) h17 (h17.push (.cells #[.slice q17 (headR s.abs).length d17] T.s_uint8)) := Fr.push _ _
    have row18 : Row (h17.push (.cells #[.slice q17 (headR s.abs).length d17] T.s_uint8)) (some ⟨h17.size, 0, none⟩) (nenc ⟨q17, d17, headR s.abs⟩) := row_new (cs := nenc ⟨q17, d17, headR s.abs⟩)
    have sz18 : (h17.push (.cells #[.slice q17 (headR s.abs).length d17] T.s_uint8)).size = h17.size + 1 := Array.size_push _
    generalize h17.push (.cells #[.slice q17 (headR s.abs).length d17] T.s_uint8) = h18 at f18 row18 sz18 ⊢
    have b18 := f18.get b17 id
    refine ⟨cell_at b18 rfl, cell_at b18 rfl, ?_⟩
    have opg : ∀ y, inBlk op y → y < g.size := fun y hy => hy2.blk_lt hy
    have nbo : ¬ inBlk op b := fun hx => by have := opg b hx; omega
    refine den_append tN uN ((hy2.frame F17 (fun _ _ => id)).frame f18 (fun _ _ => id)) row18 rfl (fun v hv => by simp at hv; subst hv; rfl) (by omega) (by omega) ?_
    intro p19 c19 h19 o19 _ f19 g19
    have b19 := f19.get b18 nbo
    refine ⟨_, _, _, rfl, cell_at b19 rfl, cell_at b19 rfl, ?_⟩
    have z19 := f19.1
    have b17' : ∀ y, inBlk q17 y → h16.size ≤ y ∧ y < h17.size := fun y hy => ⟨g17 y hy, o17.blk_lt hy⟩
    have B19 : BL h1 h19 p19 (ol + 1) c19 (recs ((xs.map SC.abs).take k) ++ [headR s.abs]) := by
      refine ⟨ys ++ [⟨q17, d17, headR s.abs⟩], fun y => DB y ∨ inBlk q17 y, by rw [List.length_append, hy1]; rfl, ?_, ?_, ?_, ?_, ?_⟩
      · rw [List.flatMap_append]; simpa using o19
      · rw [List.map_append, hy3]; rfl
      · intro x hx
        rcases List.mem_append.1 hx with hx | hx
        · exact ((((hy4 x hx).frame F17 (fun _ _ => id)).frame f18 (fun _ _ => id)).frame f19 (fun y hy => (hy5 y hy).2.2)).mono (fun y => .inl)
        · simp at hx; subst hx
          exact BV.of_own ((o17.frame f18 (fun _ _ => id)).frame f19 (fun y hy ho => by have := b17' y hy; have := opg y ho; omega)) (fun y => .inr)
      · rintro y (hy | hy)
        · have a := hy5 y hy
          exact ⟨a.1, by omega, fun ho => (g19 y ho).elim a.2.2 (fun h2 => by omega)⟩
        · have a := b17' y hy
          exact ⟨by omega, by omega, fun ho => (g19 y ho).elim (fun h2 => by have := opg y h2; omega) (fun h2 => by omega)⟩
      · intro y hy
        rcases g19 y hy with h2 | h2
        · exact hy6 y h2
        · omega
    have F19 : Fr (fun _ => False) h1 h19 := (fg.tt (F17.tt f18)).step f19 (fun y hy ho => by have := hy6 y ho; omega)
    have zb19 : b < h19.size := lt_of_get b19
    have hb1 : h1.size ≤ b := by omega
    have npb : ¬ inBlk p19 b := fun ho => (g19 b ho).elim nbo (fun h2 => by omega)
    have SR : ∀ {h' : Heap}, Fr (fun _ => False) h1 h' → SRow h' D s := fun f => (hx4 s (List.mem_of_getElem? hs)).frame f (fun _ _ => id)
    clear o19 f19 g19 row18 sz18 f18 b18 b17 o17 f17 g17 W16 b16 W15 b15 W14 b14 W13 b13 W12 b12 W11 b11 W10 b10 hb9 s16 s15 s14 s13 s12 s11 f10 g10 u10 u11 u12 u13 u14 u15 u16 b17' hy2 hy4 hy5 F17 f9
    refine ⟨_, _, _, cell_at b19 rfl, ?_⟩
    refine ⟨fun op' ol' oc' i h' => ∃ j : Nat, i = (j : Int) ∧ j ≤ s.kept.length ∧ BL h1 h' op' ol' oc' (recs ((xs.map SC.abs).take k) ++ [headR s.abs] ++ (s.abs.kept.map ansR).take j) ∧ ol' ≤ ol + 1 + j ∧ Fr (fun _ => False) h1 h' ∧
      sessions_Session.at h' b (s.num : Int) (s.token : Int) s.up s.watch s.kp s.kept.length s.kc s.np s.notes.length s.nc ∧ ¬ inBlk op' b, fun _ _ _ i _ => s.kept.length - i.toNat, ⟨0, rfl, by omega, by simpa using B19, by omega, F19, b19, npb⟩, ?_⟩
    clear B19 F19 b19 npb
    rintro op' ol' oc' _ h20 ⟨j, rfl, hj, B20, hol', F20, b20, nb20⟩
    have z20 := F20.1
    by_cases hjl : j < s.kept.length
    · have q2 : (j : Int) < (s.kept.length : Int) := by omega
      simp only [q2, decide_true, if_true, Int.toNat_natCast]
      have ha : s.kept[j]? = some s.kept[j] := List.getElem?_eq_getElem hjl
      generalize s.kept[j] = a at ha
      have row20 := (SR F20).k
      obtain ⟨ka, hkp⟩ := row20.some (fun e => by have := congrArg List.length e; rw [flat_len AV.enc 2 aenc_len, List.length_nil] at this; omega)
      rw [hkp] at row20
      refine ⟨⟨by first | trivial | omega, by first | trivial | omega⟩, ?_⟩
      rw [hkp]
      have kba := kb a (List.mem_of_getElem? ha)
      refine onSome_some.2 (sessions_Answer.ldA (row20.heldAt aenc_len ha) (sessions_Answer.new fun b2 h23 eb2 hb2 f23 => ⟨_, cell_at hb2 rfl, _, _, _, cell_at hb2 rfl, ?_⟩))
      refine Fld.new_ok fun h24 w S24 W24 f24 g24 => ⟨_, rfl, ?_⟩
      have u24 : Up h23 S24 h24 := ⟨f24, g24⟩
      have b24 := f24.get hb2 id
      refine ⟨cell_at b24 rfl, cell_at b24 rfl, ?_⟩
      refine num_ok a.id W24 (by simp) rfl (by omega) fun h25 S25 W25 s25 => ⟨_, rfl, ?_⟩
      rw [List.nil_append] at W25
      have u25 := u24.step s25
      have b25 := s25.fr.get b24 (fun hx => by have := u24.ge b2 hx; have := lt_of_get hb2; omega)
      refine ⟨cell_at b25 rfl, ?_⟩
      have F25 : Fr (fun _ => False) h1 h25 := F20.tt (f23.tt u25.fr)
      have l7 := (encNum_len a.id).2
      have rowa := ((SR F25).kd a (List.mem_of_getElem? ha)).row
      refine text_ok' W25 (by omega) rowa rfl (by omega) (fun y hy hne hS => ?_) fun h26 S26 W26 s26 => ⟨_, rfl, ?_⟩
      · have a1 := (hx4 s (List.mem_of_getElem? hs)).kd a (List.mem_of_getElem? ha)
        have a2 := (hx5 y (a1.own hne y hy)).2.1
        have a3 := u25.ge y hS
        have a4 := f23.1
        omega
      have u26 := u25.step s26
      have l8 := (encNum_len a.v.b.length).2
      have el : (encText a.v.b).length = (encNum a.v.b.length).length + a.v.b.length := by unfold encText; rw [List.length_append]
      refine bytes_ok W26 (by rw [List.length_append]; omega) fun q27 d27 h27 o27 f27 g27 => ⟨_, _, _, rfl, ?_⟩
      have F27 : Fr (fun _ => False) h20 h27 := f23.tt (u26.fr.tt f27)
      have z27 := F27.1
      have zu := (f23.tt u26.fr).1
      have er : encNum a.id ++ encText a.v.b = ansR a.abs := rfl
      rw [er] at o27 ⊢
      refine (B20.on F27).push (by omega) o27 (fun y hy => ⟨by have := g27 y hy; omega, fun ho => by have := B20.lt ho; have := g27 y hy; omega⟩) (by omega) ?_
      intro p29 c29 h29 B29 f29 g29
      refine ⟨_, _, _, rfl, ?_⟩
      rw [wrap_id (by omega) (by omega)]
      refine ⟨⟨j + 1, by omega, by omega, ?_, by omega, ?_, (by rw [← hkp]; exact f29.get (F27.get b20 id) nb20), ?_⟩, ?_⟩
      · rw [List.append_assoc] at B29
        rw [List.take_add_one, show (s.abs.kept.map ansR)[j]? = some (ansR a.abs) by show ((s.kept.map AV.abs).map ansR)[j]? = _; rw [List.getElem?_map, List.getElem?_map, ha]; rfl]
        rw [← List.append_assoc] at B29 ⊢
        exact B29
      · refine (F20.tt F27).step f29 (fun y hy ho => ?_)
        obtain ⟨_, _, _, _, _, _, _, h6'⟩ := B20
        have := h6' y ho; omega
      · intro ho
        rcases g29 b ho with h2 | h2
        · exact nb20 h2
        · have := lt_of_get (F27.get b20 id); omega
      · show s.kept.length - Int.toNat ((j : Int) + 1) < s.kept.length - Int.toNat (j : Int); omega
    · have q2 : ¬ (j : Int) < (s.kept.length : Int) := by omega
      simp only [q2, decide_false, Bool.false_eq_true, if_false]
      rw [List.take_of_length_le (l := s.abs.kept.map ansR) (by rw [List.length_map, show s.abs.kept.length = s.kept.length from List.length_map _]; omega)] at B20
      refine ⟨_, _, _, cell_at b20 rfl, ?_⟩
      refine ⟨fun op' ol' oc' i h' => ∃ j : Nat, i = (j : Int) ∧ j ≤ s.notes.length ∧ BL h1 h' op' ol' oc' (recs ((xs.map SC.abs).take k) ++ [headR s.abs] ++ s.abs.kept.map ansR ++ (s.abs.notes.map encText).take j) ∧ ol' ≤ ol + 7 + j ∧ Fr (fun _ => False) h1 h', fun _ _ _ i _ => s.notes.length - i.toNat, ⟨0, rfl, by omega, by simpa using B20, by omega, F20⟩, ?_⟩
      clear B20 F20 b20 nb20 z20 hol' hjl hj q2
      rintro op' ol' oc' _ h30 ⟨j, rfl, hj, B30, hol', F30⟩
      have z30 := F30.1
      by_cases hjl : j < s.notes.length
      · have q2 : (j : Int) < (s.notes.length : Int) := by omega
        simp only [q2, decide_true, if_true, Int.toNat_natCast]
        have ha : s.notes[j]? = some s.notes[j] := List.getElem?_eq_getElem hjl
        generalize s.notes[j] = a at ha
        have row30 := (SR F30).n
        obtain ⟨ka, hnp⟩ := row30.some (fun e => by have := congrArg List.length e; rw [flat_len nenc 1 nenc_len, List.length_nil] at this; omega)
        rw [hnp] at row30
        refine ⟨⟨by first | trivial | omega, by first | trivial | omega⟩, ?_⟩
        rw [hnp]
        have nba := nb a (List.mem_of_getElem? ha)
        refine onSome_some.2 ⟨a.p, a.b.length, a.c, ?_, ?_⟩
        · have := (row30.heldAt nenc_len ha).1
          rwa [add_zero_addr] at this
        refine Fld.new_ok fun h31 w S31 W31 f31 g31 => ⟨_, rfl, ?_⟩
        have u31 : Up h30 S31 h31 := ⟨f31, g31⟩
        have rowa := ((SR (F30.tt f31)).nd a (List.mem_of_getElem? ha)).row
        refine text_ok' W31 (by simp) rowa rfl (by omega) (fun y hy hne hS => ?_) fun h32 S32 W32 s32 => ⟨_, rfl, ?_⟩
        · have a1 := (hx4 s (List.mem_of_getElem? hs)).nd a (List.mem_of_getElem? ha)
          have a2 := (hx5 y (a1.own hne y hy)).2.1
          have a3 := u31.ge y hS
          omega
        rw [List.nil_append] at W32
        have u32 := u31.step s32
        have l8 := (encNum_len a.b.length).2
        have el : (encText a.b).length = (encNum a.b.length).length + a.b.length := by unfold encText; rw [List.length_append]
        refine bytes_ok W32 (by omega) fun q33 d33 h33 o33 f33 g33 => ⟨_, _, _, rfl, ?_⟩
        have F33 : Fr (fun _ => False) h30 h33 := u32.fr.tt f33
        have z33 := F33.1
        have zu := u32.fr.1
        refine (B30.on F33).push (by omega) o33 (fun y hy => ⟨by have := g33 y hy; omega, fun ho => by have := B30.lt ho; have := g33 y hy; omega⟩) (by omega) ?_
        intro p35 c35 h35 B35 f35 g35
        refine ⟨_, _, _, rfl, ?_⟩
        rw [wrap_id (by omega) (by omega)]
        refine ⟨⟨j + 1, by omega, by omega, ?_, by omega, ?_⟩, ?_⟩
        · rw [List.append_assoc] at B35
          rw [List.take_add_one, show (s.abs.notes.map encText)[j]? = some (encText a.b) by show ((s.notes.map BV.b).map encText)[j]? = _; rw [List.getElem?_map, List.getElem?_map, ha]; rfl]
          rw [← List.append_assoc] at B35 ⊢
          exact B35
        · refine (F30.tt F33).step f35 (fun y hy ho => ?_)
          obtain ⟨_, _, _, _, _, _, _, h6'⟩ := B30
          have := h6' y ho; omega
        · show s.notes.length - Int.toNat ((j : Int) + 1) < s.notes.length - Int.toNat (j : Int); omega
      · have q2 : ¬ (j : Int) < (s.notes.length : Int) := by omega
        simp only [q2, decide_false, Bool.false_eq_true, if_false]
        rw [List.take_of_length_le (l := s.abs.notes.map encText) (by rw [List.length_map, show s.abs.notes.length = s.notes.length from List.length_map _]; omega)] at B30
        rw [wrap_id (by omega) (by omega)]
        refine ⟨⟨k + 1, by omega, by omega, ?_, by omega, F30⟩, ?_⟩
        · have e : recs ((xs.map SC.abs).take (k + 1)) = recs ((xs.map SC.abs).take k) ++ [headR s.abs] ++ s.abs.kept.map ansR ++ s.abs.notes.map encText := by
            unfold recs
            rw [List.take_add_one, hsA, List.flatMap_append]
            simp [recS]
          rw [e]; exact B30
        · show xs.length - Int.toNat ((k : Int) + 1) < xs.length - Int.toNat (k : Int); omega
  · have q1 : ¬ (k : Int) < (xs.length : Int) := by omega
    simp only [q1, decide_false, Bool.false_eq_true, if_false]
    rw [List.take_of_length_le (by rw [List.length_map]; omega)] at B
    exact hk g op ol oc (B.mono f1.1) (f1.tt fg)
end Ses
end Go.Proofs.YtgccegnmggjkjaaGreatDoor
set_option maxRecDepth 100000
namespace Go.Proofs.YtgccegnmggjkjaaGreatDoor
open Go.Den Go.Fields
namespace Fld
variable {h h' h0 : Heap} {R : Value → Heap → Prop} {p q : Option Addr} {l c : Nat} {bs : List (List UInt8)}
structure RS where
  p : Option Addr
  c : Nat
  xs : List BV
abbrev RS.val (t : RS) : Value := .slice t.p t.xs.length t.c
theorem nflat_len (xs : List BV) : (xs.flatMap nenc).length = xs.length := by
  rw [flat_len nenc 1 nenc_len, Nat.mul_one]
theorem growN_ok {n : Nat} (hn : n ≤ 1000000) (hk : ∀ p' c' h', Own h' p' 0 c' 1 [] → Fr (fun _ => False) h h' → (∀ y, inBlk p' y → h.size ≤ y) → R (.slice p' 0 c') h') :
    CallsH Tryz.prog F.slices_Grow_s_s_byte_s_byte #[.slice none 0 0, .int .i64 (n : Int)] h R := by
  refine slices_Grow_s_s_byte_s_byte.walk (JoinP.of fun J hJ => ?_)
  have e2 : IntKind.wrap .i64 ((n : Int) - (IntKind.wrap .i64 (((0 : Nat) : Int) - ((0 : Nat) : Int)))) = (n : Int) := by
    rw [show IntKind.wrap .i64 (((0 : Nat) : Int) - ((0 : Nat) : Int)) = 0 from rfl, wrap_id (by omega) (by omega)]; omega
  rw [if_neg (fun e => by have := of_decide_eq_true e; omega)]
  subst hJ
  refine JoinP.of fun J1 hJ1 => ?_
  rw [e2]
  by_cases hz : n = 0
  · subst hz
    rw [if_neg (by simp)]
    subst hJ1
    exact hk none 0 h (.nil rfl rfl rfl rfl) (Fr.refl _ _) (fun y ⟨a, e, _⟩ => by cases e)
  · rw [if_pos (decide_eq_true (by omega))]
    refine ⟨⟨by omega, by omega⟩, ?_⟩
    rw [slBase_zero]
    refine den_grow tN (by kernel_rfl) (by omega) (by omega) (by omega) fun cap' h' o hc f => ⟨_, _, _, rfl, ⟨by omega, by omega⟩, ?_⟩
    rw [slBase_zero]
    subst hJ1
    exact hk _ cap' h' o f (fun y ⟨a, e, e2⟩ => by cases e; exact Nat.le_of_eq e2)
theorem take_flat {ts : List RS} {j : Nat} {t : RS} (ht : ts[j]? = some t) : (ts.take (j + 1)).flatMap RS.xs = (ts.take j).flatMap RS.xs ++ t.xs := by
  rw [List.take_add_one, ht, List.flatMap_append]; simp
theorem concatN_ok {a : Addr} {ts : List RS} {n m : Nat} (hh : Row h (some a) (ts.map RS.val)) (hr : ∀ t ∈ ts, Row h t.p (t.xs.flatMap nenc)) (hn : n = ts.length) (ht : ts.length ≤ 1000) (hl : (ts.flatMap RS.xs).length ≤ 1000000)
    (hk : ∀ h' p' c', Own h' p' (ts.flatMap RS.xs).length c' 1 ((ts.flatMap RS.xs).flatMap nenc) → Fr (fun _ => False) h h' → (∀ y, inBlk p' y → h.size ≤ y) → R (.slice p' (ts.flatMap RS.xs).length c') h') :
    CallsH Tryz.prog F.slices_Concat_s_s_byte_s_byte #[.slice (some a) n m] h R := by
  subst hn
  have tl : ∀ j, ((ts.take j).flatMap RS.xs).length ≤ (ts.flatMap RS.xs).length := fun j => by
    conv => rhs; rw [← List.take_append_drop j ts]
    rw [List.flatMap_append, List.length_append]; omega
  have at_ : ∀ {g : Heap} {j : Nat} {t : RS}, Fr (fun _ => False) h g → ts[j]? = some t → hcell g (a.add (Int.toNat (j : Int) * 1)) = some t.val := fun f ht => by
    rw [Int.toNat_natCast, Nat.mul_one]
    exact (hh.frame f (fun _ _ => id)).cell (by rw [List.getElem?_map, ht]; rfl)
  refine slices_Concat_s_s_byte_s_byte.walk ⟨fun size i g => g = h ∧ ∃ j : Nat, i = (j : Int) ∧ j ≤ ts.length ∧ size = ((((ts.take j).flatMap RS.xs).length : Nat) : Int), fun _ i _ => ts.length - i.toNat, ⟨rfl, 0, rfl, Nat.zero_le _, rfl⟩, ?_⟩
  rintro _ _ g ⟨rfl, j, rfl, hj, rfl⟩
  by_cases hlt : j < ts.length
  · rw [if_pos (decide_eq_true (by omega))]
    have hg := List.getElem?_eq_getElem hlt
    have e1 := congrArg List.length (take_flat hg)
    rw [List.length_append] at e1
    have t1 := tl (j + 1)
    refine JoinP.of fun J hJ => ⟨⟨by omega, by omega⟩, onSome_some.2 ⟨_, _, _, at_ (Fr.refl _ _) hg, JoinP.of fun J1 hJ1 => ?_⟩⟩
    have e : IntKind.wrap .i64 (((((ts.take j).flatMap RS.xs).length : Nat) : Int) + ((ts[j].xs.length : Nat) : Int)) = ((((ts.take (j + 1)).flatMap RS.xs).length : Nat) : Int) := by rw [wrap_id (by omega) (by omega)]; omega
    rw [e] at hJ1 ⊢
    rw [if_neg (fun e => by have := of_decide_eq_true e; omega)]
    subst hJ1; subst hJ
    dsimp only
    rw [wrap_id (by omega) (by omega)]
    exact ⟨⟨rfl, j + 1, by omega, by omega, rfl⟩, by show ts.length - Int.toNat ((j : Int) + 1) < ts.length - Int.toNat (j : Int); omega⟩
  · rw [if_neg (fun e => by have := of_decide_eq_true e; omega)]
    have ej : j = ts.length := by omega
    subst ej
    rw [List.take_length]
    refine growN_ok (by omega) fun p4 c4 h4 o4 f4 g4 => ⟨_, _, _, rfl, ?_⟩
    refine ⟨fun np nl nc i g' => Fr (fun _ => False) g g' ∧ (∀ y, inBlk np y → g.size ≤ y) ∧ ∃ j : Nat, i = (j : Int) ∧ j ≤ ts.length ∧ nl = ((ts.take j).flatMap RS.xs).length ∧ Own g' np nl nc 1 (((ts.take j).flatMap RS.xs).flatMap nenc), fun _ _ _ i _ => ts.length - i.toNat, ⟨f4, g4, 0, rfl, Nat.zero_le _, rfl, o4⟩, ?_⟩
    rintro np nl nc i g' ⟨fg, gg, j, rfl, hj, rfl, o⟩
    by_cases hlt : j < ts.length
    · rw [if_pos (decide_eq_true (by omega))]
      have hg := List.getElem?_eq_getElem hlt
      have e1 := congrArg List.length (take_flat hg)
      rw [List.length_append] at e1
      have t1 := tl (j + 1)
      refine ⟨⟨by omega, by omega⟩, onSome_some.2 ⟨_, _, _, at_ fg hg, ?_⟩⟩
      refine den_append tN uN o ((hr _ (List.getElem_mem hlt)).frame fg (fun _ _ => id)) (by rw [nflat_len, Nat.mul_one]) (nenc_one _) (by omega) (by omega) fun p6 c6 h6 o6 _ f6 g6 => ⟨_, _, _, rfl, ?_⟩
      rw [← List.flatMap_append, ← take_flat hg, ← e1] at o6
      rw [← e1, wrap_id (by omega) (by omega)]
      have z := fg.1
      exact ⟨⟨fg.fresh f6 gg, (fun y hy => (g6 y hy).elim (gg y) (fun h2 => by omega)), j + 1, by omega, by omega, rfl, o6⟩, by show ts.length - Int.toNat ((j : Int) + 1) < ts.length - Int.toNat (j : Int); omega⟩
    · rw [if_neg (fun e => by have := of_decide_eq_true e; omega)]
      have ej : j = ts.length := by omega
      subst ej
      rw [List.take_length] at o ⊢
      exact hk g' np nc o fg gg
theorem BL.frame {Q : Nat → Prop} (H : BL h0 h p l c bs) (f : Fr Q h h') (hq : ∀ y, h0.size ≤ y → ¬ Q y) : BL h0 h' p l c bs := by
  obtain ⟨xs, D, h1, h2, h3, h4, h5, h6⟩ := H
  exact ⟨xs, D, h1, h2.frame f (fun y hy => hq y (h6 y hy)), h3, fun x hx => (h4 x hx).frame f (fun y hy => hq y (h5 y hy).1), fun y hy => ⟨(h5 y hy).1, Nat.lt_of_lt_of_le (h5 y hy).2.1 f.1, (h5 y hy).2.2⟩, h6⟩
end Fld
end Go.Proofs.YtgccegnmggjkjaaGreatDoor
set_option maxRecDepth 100000
namespace Go.Proofs.YtgccegnmggjkjaaGreatDoor
open Go.Den Go.Fields
namespace Stt
open Eid (Ev rightE ev5 textE)
open Fld
variable {h h' : Heap} {R : Value → Heap → Prop} {s k : Nat} {X : Ft} {I : Ids} {σ : SS} {p : Option Addr}
theorem last_ok {e : Ev} {tm sq : Nat} (M : Mk h k e tm sq) (hk : ∀ h', Fr (fun _ => False) h h' → R (.agg #[.bool e.ipn, .int .u64 e.node, .int .u64 e.svc, .string e.host, .string e.dem, .int .u64 (tm : Int), .int .u64 (sq : Int)]) h') :
    CallsH Tryz.prog F.ident_Maker_Last #[pt k] h R := by
  refine ident_Maker_Last.walk (ident_Ident.box fun b h1 eb hb f1 => ?_)
  have M1 := f1.get M id
  refine JoinP.of fun J hJ => ⟨_, cell_at M1 rfl, ?_⟩
  subst hJ
  dsimp only
  rw [if_neg (by decide)]
  refine ⟨_, cell_at M1 rfl, _, cell_at M1 rfl, _, cell_at M1 rfl, _, cell_at M1 rfl, _, cell_at M1 rfl, _, cell_at M1 rfl, _, cell_at M1 rfl, ident_Ident.set hb fun h2 a1 a2 a3 => ident_Ident.ld a1 (hk h2 (f1.fresh (Fr.of_eq (S := fun y => y = b) a2 a3) (fun y e => by omega)))⟩
def recsS (σ : SS) : List (List UInt8) := Ses.recs σ.A ++ (σ.G.map Regs.recR ++ (Cps.recsC σ.C ++ Obx.recsB σ.B))
def headS (σ : SS) : List UInt8 := encText (textE σ.e) ++ encNum σ.now ++ encNum σ.rf ++ encNum σ.tm ++ encNum σ.sq ++ encNum (Ses.recs σ.A).length ++ encNum (σ.G.map Regs.recR).length ++ encNum (Cps.recsC σ.C).length ++ encNum (Obx.recsB σ.B).length
theorem head_ok {w b : Nat} {S : Nat → Prop} {t : List UInt8} {tl c : Nat} {e : Ev} {now rf tm sq : Nat} {K : Option Addr → Heap → Prop} (W : Wr h w S []) (r : Row h p (bc t)) (ht : tl = t.length) (hl : t.length ≤ 100000000) (hn : now < 18446744073709551616 ∧ rf ≤ 1000000000 ∧ tm < 18446744073709551616 ∧ sq < 18446744073709551616) (hp : ∀ y, inBlk p y → t ≠ [] → ¬ S y) (B : Bk h s I now rf)
    (hb : ident_Ident.at h b e.ipn e.node e.svc e.host e.dem (tm : Int) (sq : Int)) (nb : ¬ S b) (ns : ¬ S s) (hk : ∀ g S', Wr g w S' (encText t ++ encNum now ++ encNum rf ++ encNum tm ++ encNum sq) → Step S h S' g → K (some ⟨w, 0, none⟩) g) :
    Cl F.fields_Writer_Text #[.pointer (some ⟨w, 0, none⟩), .slice p tl c] h fun v_14 h_28 =>
      ∃ t48, v_14 = .pointer t48 ∧
      hcell h_28 ⟨b, 6, none⟩ = some (.int .u64 (sq : Int)) ∧
      hcell h_28 ⟨b, 5, none⟩ = some (.int .u64 (tm : Int)) ∧
      hcell h_28 ⟨s, 7, none⟩ = some (.int .i64 (rf : Int)) ∧
      hcell h_28 ⟨s, 6, none⟩ = some (.int .u64 (now : Int)) ∧
      Cl F.fields_Writer_Num #[.pointer t48, .int .u64 (now : Int)] h_28 fun v_15 h_29 =>
      ∃ t53, v_15 = .pointer t53 ∧
      hcell h_29 ⟨b, 6, none⟩ = some (.int .u64 (sq : Int)) ∧
      hcell h_29 ⟨b, 5, none⟩ = some (.int .u64 (tm : Int)) ∧
      hcell h_29 ⟨s, 7, none⟩ = some (.int .i64 (rf : Int)) ∧
      Cl F.fields_Writer_Int #[.pointer t53, .int .i64 (rf : Int)] h_29 fun v_16 h_30 =>
      ∃ t58, v_16 = .pointer t58 ∧
      hcell h_30 ⟨b, 6, none⟩ = some (.int .u64 (sq : Int)) ∧
      hcell h_30 ⟨b, 5, none⟩ = some (.int .u64 (tm : Int)) ∧
      Cl F.fields_Writer_Num #[.pointer t58, .int .u64 (tm : Int)] h_30 fun v_17 h_31 =>
      ∃ t61, v_17 = .pointer t61 ∧
      hcell h_31 ⟨b, 6, none⟩ = some (.int .u64 (sq : Int)) ∧
      Cl F.fields_Writer_Num #[.pointer t61, .int .u64 (sq : Int)] h_31 fun v_18 h_32 =>
      ∃ t64, v_18 = .pointer t64 ∧ K t64 h_32 := by
  subst ht
  have cb : ∀ {g S'} (i : Nat) (v : Value), Step S h S' g → (#[Value.bool e.ipn, .int .u64 e.node, .int .u64 e.svc, .string e.host, .string e.dem, .int .u64 (tm : Int), .int .u64 (sq : Int)])[i]? = some v → hcell g ⟨b, i, none⟩ = some v := fun i v st hv => st.fr.cell (cell_at hb hv) nb
  have cs : ∀ {g S'} (i : Nat) (v : Value), Step S h S' g → (#[pt I.t, pt I.r, pt I.c, pt I.o, pt I.p, pt I.k, .int .u64 (now : Int), .int .i64 (rf : Int)])[i]? = some v → hcell g ⟨s, i, none⟩ = some v := fun i v st hv => st.fr.cell (cell_at B hv) ns
  have l0 : (encText t).length ≤ 200000000 := by unfold encText; rw [List.length_append]; have := encNum_len t.length; omega
  have ln := encNum_len now
  have lr := encNum_len rf
  have lt := encNum_len tm
  refine text_ok' W (by simp) r rfl (by omega) hp fun g1 S1 W1 s1 => ⟨_, rfl, cb _ _ s1 rfl, cb _ _ s1 rfl, cs _ _ s1 rfl, cs _ _ s1 rfl, ?_⟩
  rw [List.nil_append] at W1
  refine num_ok now W1 (by omega) rfl hn.1 fun g2 S2 W2 s2 => ⟨_, rfl, ?_⟩
  have s2 := s1.trans s2
  refine ⟨cb _ _ s2 rfl, cb _ _ s2 rfl, cs _ _ s2 rfl, int_ok W2 (by rw [List.length_append]; omega) (by omega) fun g3 S3 W3 s3 => ⟨_, rfl, ?_⟩⟩
  have s3 := s2.trans s3
  have W3 : Wr g3 w S3 (encText t ++ encNum now ++ encNum rf) := W3
  refine ⟨cb _ _ s3 rfl, cb _ _ s3 rfl, num_ok tm W3 (by simp only [List.length_append]; omega) rfl hn.2.2.1 fun g4 S4 W4 s4 => ⟨_, rfl, ?_⟩⟩
  have s4 := s3.trans s4
  refine ⟨cb _ _ s4 rfl, num_ok sq W4 (by simp only [List.length_append]; omega) rfl hn.2.2.2 fun g5 S5 W5 s5 => ⟨_, rfl, hk g5 S5 W5 (s4.trans s5)⟩⟩
set_option maxHeartbeats 2000000 in
theorem save_ok (H : Pt h s X I σ) (G : Good σ k) (hk8 : k ≤ 30000) (tb : Num.Tab h) (hk : ∀ h' p' l' c', BL h h' p' l' c' (headS σ :: recsS σ) → Fr (fun _ => False) h h' → R (.slice p' l' c') h') :
    CallsH Tryz.prog F.state_State_Save #[pt s] h R := by
  refine state_State_Save.walk (made_ok H.blk ⟨_, rfl, ?_⟩)
  rw [if_neg (by decide)]
  obtain ⟨Y, hp, _⟩ := id H
  obtain ⟨M, _⟩ := hp 5
  refine ⟨_, cell_at H.blk rfl, last_ok M fun h2 f2 => ⟨_, _, _, _, _, _, _, rfl, ident_Ident.new fun b h10 eb hb f10 => ⟨_, cell_at hb rfl, _, cell_at hb rfl, _, cell_at hb rfl, _, cell_at hb rfl, _, cell_at hb rfl, ?_⟩⟩⟩
  have F10 := f2.tt f10
  refine Eid.text_ok σ.e (tb.on F10) G.e.2.2 fun h11 f11 => ⟨_, _, rfl, JoinP.of fun J hJ => ?_⟩
  rw [if_pos G.e.1] at hJ
  have F11 := F10.tt f11
  have hb11 := f11.get hb id
  have B : ∀ {g}, Fr (fun _ => False) h11 g → Bk g s I σ.now σ.rf := fun f => f.get (F11.get H.blk id) id
  have O := H.ord
  have sm := G.small O (by omega)
  have gl := G.c.L
  obtain ⟨Lb, okb⟩ := H.okB
  have s0 : ∀ {g : Heap} {K : Option Addr → Nat → Nat → Heap → Prop}, Fr (fun _ => False) h11 g → (∀ g' p l c, BL g g' p l c (Ses.recs σ.A) → Fr (fun _ => False) g g' → K p l c g') → Cl F.sessions_Table_Save #[pt I.t] g fun v g' => ∃ p l c, v = .slice p l c ∧ K p l c g' := fun f hK =>
    Ses.save_ok (Ses.Has.frame (hp 0) (F11.tt f) (fun _ _ => id)) G.a fun g' p l c L f' => ⟨p, l, c, rfl, hK g' p l c L f'⟩
  have s1 : ∀ {g : Heap} {K : Option Addr → Nat → Nat → Heap → Prop}, Fr (fun _ => False) h11 g → (∀ g' p l c, BL g g' p l c (σ.G.map Regs.recR) → Fr (fun _ => False) g g' → K p l c g') → Cl F.regs_Table_Save #[pt I.r] g fun v g' => ∃ p l c, v = .slice p l c ∧ K p l c g' := fun f hK =>
    Regs.save_ok (Regs.Tb.on (hp 1) (F11.tt f)) (by have := G.g.len; omega) G.g.all (tb.on (F11.tt f)) fun g' p l c L f' => ⟨p, l, c, rfl, hK g' p l c L f'⟩
  have s2 : ∀ {g : Heap} {K : Option Addr → Nat → Nat → Heap → Prop}, Fr (fun _ => False) h11 g → (∀ g' p l c, BL g g' p l c (Cps.recsC σ.C) → Fr (fun _ => False) g g' → K p l c g') → Cl F.copies_Table_Save #[pt I.c] g fun v g' => ∃ p l c, v = .slice p l c ∧ K p l c g' := fun f hK =>
    Cps.save_ok (Cps.Ct.on (hp 2) (F11.tt f)) sm (by omega) G.c.all (tb.on (F11.tt f)) fun g' p l c L f' => ⟨p, l, c, rfl, hK g' p l c L f'⟩
  have s3 : ∀ {g : Heap} {K : Option Addr → Nat → Nat → Heap → Prop}, Fr (fun _ => False) h11 g → (∀ g' p l c, BL g g' p l c (Obx.recsB σ.B) → Fr (fun _ => False) g g' → K p l c g') → Cl F.outbox_Box_Save #[pt I.o] g fun v g' => ∃ p l c, v = .slice p l c ∧ K p l c g' := fun f hK =>
    Obx.save_ok (Obx.Box.on (hp 3) (F11.tt f)) (by have := G.b; omega) fun g' p l c L f' => ⟨p, l, c, rfl, hK g' p l c L f'⟩
  have fin : ∀ {g : Heap} {b4 : Nat} {p1 p2 p3 p4 : Option Addr} {l1 c1 l2 c2 l3 c3 l4 c4 : Nat}, a4_s_s_uint8.at g b4 p1 l1 c1 p2 l2 c2 p3 l3 c3 p4 l4 c4 → BL h11 g p1 l1 c1 (Ses.recs σ.A) → BL h11 g p2 l2 c2 (σ.G.map Regs.recR) → BL h11 g p3 l3 c3 (Cps.recsC σ.C) → BL h11 g p4 l4 c4 (Obx.recsB σ.B) → Fr (fun _ => False) h11 g → J (some ⟨b4, 0, none⟩) g := by
    intro g b4 p1 p2 p3 p4 l1 c1 l2 c2 l3 c3 l4 c4 ha L1 L2 L3 L4 fg
    subst hJ
    dsimp only
    have hbg := fg.get hb11 id
    have lb := lt_of_get hbg
    have ls := lt_of_get (B fg)
    refine JoinP.of fun J1 hJ1 => ?_
    have tl : (textE σ.e).length ≤ 100000000 := Nat.le_trans (Eid.text_len G.e.1 G.e.2.2) (by omega)
    have W : ∀ {g2 : Heap} {w : Nat} {S : Nat → Prop}, Wr g2 w S (encText (textE σ.e) ++ encNum σ.now ++ encNum σ.rf ++ encNum σ.tm ++ encNum σ.sq) → Fr (fun _ => False) g g2 → (∀ y, S y → g.size ≤ y) → J1 (some ⟨w, 0, none⟩) g2 := by
      intro g2 w S W2 fg2 gS
      subst hJ1
      dsimp only
      have hag := fg2.get ha id
      obtain ⟨q0, q1, q2, q3, _⟩ := a4_s_s_uint8.held hag
      rw [add_zero_addr] at q0
      refine onSome_some.2 ⟨_, _, _, q0, _, _, _, q1, _, _, _, q2, _, _, _, q3, ?_⟩
      obtain ⟨xs1, D1, rfl, o1, e1, d1, b1, i1⟩ := L1
      obtain ⟨xs2, D2, rfl, o2, e2, d2, b2, i2⟩ := L2
      obtain ⟨xs3, D3, rfl, o3, e3, d3, b3, i3⟩ := L3
      obtain ⟨xs4, D4, rfl, o4, e4, d4, b4', i4⟩ := L4
      have n1 := congrArg List.length e1
      have n2 := congrArg List.length e2
      have n3 := congrArg List.length e3
      have n4 := congrArg List.length e4
      rw [List.length_map] at n1 n2 n3 n4
      have m1 := Ses.recs_le G.a
      have m1' := G.a.le
      have m2 := G.g.len
      have m3 : (Cps.recsC σ.C).length = σ.C.L.length + 1 := by unfold Cps.recsC; simp
      have m4 : (Obx.recsB σ.B).length = σ.B.items.length + 1 := by unfold Obx.recsB; simp
      have m4' := okb.le
      rw [List.length_map] at n2
      let cs : List Nat := [xs1.length, xs2.length, xs3.length, xs4.length]
      have hl0 : (encText (textE σ.e) ++ encNum σ.now ++ encNum σ.rf ++ encNum σ.tm ++ encNum σ.sq).length ≤ 1000000000 := by
        have := encNum_len σ.now; have := encNum_len σ.rf; have := encNum_len σ.tm; have := encNum_len σ.sq; have := encNum_len (textE σ.e).length
        simp only [List.length_append, encText]; omega
      generalize hh0 : encText (textE σ.e) ++ encNum σ.now ++ encNum σ.rf ++ encNum σ.tm ++ encNum σ.sq = hd0 at W2 hl0
      have fl : ∀ l : List Nat, (l.flatMap encNum).length ≤ 10 * l.length := fun l => by
        induction l with
        | nil => exact Nat.le_refl _
        | cons n l ih => rw [List.flatMap_cons, List.length_append, List.length_cons]; have := encNum_len n; omega
      refine ⟨fun i g3 => ∃ (j : Nat) (S' : Nat → Prop), i = (j : Int) ∧ j ≤ 4 ∧ Wr g3 w S' (hd0 ++ (cs.take j).flatMap encNum) ∧ Step S g2 S' g3, fun i _ => 4 - i.toNat, ⟨0, S, rfl, by omega, by simpa using W2, Step.refl _ _⟩, ?_⟩
      rintro _ g3 ⟨j, S', rfl, hj, W3, st3⟩
      have lj : (hd0 ++ (cs.take j).flatMap encNum).length ≤ 1000000100 := by
        have := fl (cs.take j)
        rw [List.length_take] at this
        rw [List.length_append]
        have : min j cs.length ≤ 4 := by omega
        omega
      have one : ∀ (n : Nat), cs[j]? = some n → n ≤ 40000 → Cl F.fields_Writer_Int #[.pointer (some ⟨w, 0, none⟩), .int .i64 (n : Int)] g3 fun v h15 => ∃ t72, v = .pointer t72 ∧ ((∃ (j' : Nat) (S' : Nat → Prop), IntKind.wrap .i64 ((j : Int) + 1) = (j' : Int) ∧ j' ≤ 4 ∧ Wr h15 w S' (hd0 ++ (cs.take j').flatMap encNum) ∧ Step S g2 S' h15) ∧ 4 - (IntKind.wrap .i64 ((j : Int) + 1)).toNat < 4 - Int.toNat (j : Int)) := by
        intro n hn hb
        have hj4 : j < 4 := (List.getElem?_eq_some_iff.1 hn).1
        refine int_ok W3 (by omega) (by omega) fun g4 S4 W4 st4 => ⟨_, rfl, ?_⟩
        have W4 : Wr g4 w S4 ((hd0 ++ (cs.take j).flatMap encNum) ++ encNum n) := W4
        rw [wrap_id (by omega) (by omega)]
        refine ⟨⟨j + 1, S4, by omega, by omega, ?_, st3.trans st4⟩, by omega⟩
        rw [List.take_add_one, hn, List.flatMap_append, ← List.append_assoc]
        simpa using W4
      by_cases hlt : j < 4
      · rw [if_pos (decide_eq_true (by omega))]
        refine ⟨⟨by omega, by omega⟩, fun e => ?_, fun e => ?_, fun e => ?_, fun e => ?_, trivial⟩
        · obtain rfl : j = 0 := by omega
          exact one xs1.length rfl (by omega)
        · obtain rfl : j = 1 := by omega
          exact one xs2.length rfl (by omega)
        · obtain rfl : j = 2 := by omega
          exact one xs3.length rfl (by omega)
        · obtain rfl : j = 3 := by omega
          exact one xs4.length rfl (by omega)
      · rw [if_neg (fun e => hlt (by have := of_decide_eq_true e; omega))]
        obtain rfl : j = 4 := by omega
        clear one
        have eh : headS σ = hd0 ++ (cs.take 4).flatMap encNum := by
          unfold headS
          rw [hh0, ← n1, List.length_map, ← n2, ← n3, ← n4]
          simp [cs]
        rw [eh] at hk
        generalize hd0 ++ (cs.take 4).flatMap encNum = hd at W3 hk lj
        refine onSome_some.2 (bytes_ok W3 (by omega) fun p5 c5 g4 o5 f5 i5 => ⟨_, _, _, rfl, ?_⟩)
        have fg3 : Fr (fun _ => False) g g3 := fg2.fresh st3.fr gS
        have fg4 := fg3.tt f5
        let ts : List RS := [⟨p1, c1, xs1⟩, ⟨p2, c2, xs2⟩, ⟨p3, c3, xs3⟩, ⟨p4, c4, xs4⟩]
        have et : ts.flatMap RS.xs = xs1 ++ (xs2 ++ (xs3 ++ xs4)) := by simp [ts]
        have lt : (ts.flatMap RS.xs).length ≤ 40000 := by rw [et]; simp only [List.length_append]; omega
        have con : ∀ {g' : Heap} {K : Value → Heap → Prop}, Fr (fun _ => False) g4 g' → (∀ h' p' c', Own h' p' (ts.flatMap RS.xs).length c' 1 ((ts.flatMap RS.xs).flatMap nenc) → Fr (fun _ => False) g' h' → (∀ y, inBlk p' y → g'.size ≤ y) → K (.slice p' (ts.flatMap RS.xs).length c') h') → Cl F.slices_Concat_s_s_byte_s_byte #[.slice (slBase (some ⟨b4, 0, none⟩) 4 0 1) (4 - 0) (4 - 0)] g' K := by
          intro g' K f hK
          rw [slBase_zero]
          have F := fg4.tt f
          refine concatN_ok (ts := ts) (.inr ⟨_, rfl, a4_s_s_uint8.held (F.get ha id)⟩) (fun t ht => ?_) rfl (by show 4 ≤ 1000; omega) (by omega) hK
          rcases List.mem_cons.1 ht with rfl | ht
          · exact o1.row'.frame F (fun _ _ => id)
          rcases List.mem_cons.1 ht with rfl | ht
          · exact o2.row'.frame F (fun _ _ => id)
          rcases List.mem_cons.1 ht with rfl | ht
          · exact o3.row'.frame F (fun _ _ => id)
          · obtain rfl := List.mem_singleton.1 ht
            exact o4.row'.frame F (fun _ _ => id)
        have done : ∀ {g' : Heap} {b5 cc : Nat} {pc : Option Addr}, Fr (fun _ => False) g4 g' → Own g' (some ⟨b5, 0, none⟩) 1 1 1 [.slice p5 hd.length c5] → g4.size ≤ b5 → Own g' pc (ts.flatMap RS.xs).length cc 1 ((ts.flatMap RS.xs).flatMap nenc) →
            denSem Tryz.prog (Builtin.append_ #[T.s_s_uint8, T.s_s_uint8] T.s_s_uint8 #[.slice (some ⟨b5, 0, none⟩) 1 1, .slice pc (ts.flatMap RS.xs).length cc]) g' fun v h' => ∃ p l c, v = .slice p l c ∧ R (.slice p l c) h' := by
          intro g' b5 cc pc f ol lb5 oc
          refine den_append tN uN ol oc.row' (by rw [nflat_len, Nat.mul_one]) (nenc_one _) (by omega) (by omega) fun p' c' h' o' _ f' g'' => ⟨_, _, _, rfl, ?_⟩
          have fF := f.fresh f' (fun y ⟨a, e, e2⟩ => by cases e; rw [← e2]; exact lb5)
          have F := fg4.tt fF
          have lo : ∀ y, inBlk p' y → g4.size ≤ y := fun y hy => (g'' y hy).elim (fun ⟨a, e, e2⟩ => by cases e; rw [← e2]; exact lb5) (fun q => Nat.le_trans f.1 q)
          have zg := fg.1
          have zF := fF.1
          have z4 := fg4.1
          have z11 := F11.1
          rw [et] at o' ⊢
          have all : ∀ y, D1 y ∨ D2 y ∨ D3 y ∨ D4 y → h11.size ≤ y ∧ y < g.size := fun y hy => by
            rcases hy with hy | hy | hy | hy
            · exact ⟨(b1 y hy).1, (b1 y hy).2.1⟩
            · exact ⟨(b2 y hy).1, (b2 y hy).2.1⟩
            · exact ⟨(b3 y hy).1, (b3 y hy).2.1⟩
            · exact ⟨(b4' y hy).1, (b4' y hy).2.1⟩
          have z5 : ∀ y, inBlk p5 y → y < g4.size := fun y hy => o5.blk_lt hy
          have zg3 := fg3.1
          refine hk h' p' _ c' ⟨⟨p5, c5, hd⟩ :: (xs1 ++ (xs2 ++ (xs3 ++ xs4))), fun y => (D1 y ∨ D2 y ∨ D3 y ∨ D4 y) ∨ inBlk p5 y, by simp; omega, o', ?_, fun x hx => ?_, fun y hy => ?_, fun y hy => ?_⟩ ((F11.tt fg).tt F)
          · unfold recsS
            rw [← e1, ← e2, ← e3, ← e4]
            simp
          · rcases List.mem_cons.1 hx with rfl | hx
            · exact BV.of_own (o5.frame fF (fun _ _ => id)) (fun y hy => .inr hy)
            rcases List.mem_append.1 hx with hx | hx
            · exact ((d1 x hx).frame F (fun _ _ => id)).mono fun y a => .inl (.inl a)
            rcases List.mem_append.1 hx with hx | hx
            · exact ((d2 x hx).frame F (fun _ _ => id)).mono fun y a => .inl (.inr (.inl a))
            rcases List.mem_append.1 hx with hx | hx
            · exact ((d3 x hx).frame F (fun _ _ => id)).mono fun y a => .inl (.inr (.inr (.inl a)))
            · exact ((d4 x hx).frame F (fun _ _ => id)).mono fun y a => .inl (.inr (.inr (.inr a)))
          · rcases hy with hy | hy
            · have := all y hy
              exact ⟨by omega, by omega, fun q => by have := lo y q; omega⟩
            · have := i5 y hy
              have := z5 y hy
              exact ⟨by omega, by omega, fun q => by have := lo y q; omega⟩
          · have := lo y hy; omega
        have lit : ∀ (g' : Heap), Own (g'.push (.cells #[.slice p5 hd.length c5] T.s_uint8)) (some ⟨g'.size, 0, none⟩) 1 1 1 [.slice p5 hd.length c5] := fun g' => .row _ 0 _ _ rfl push_new (by omega) (by simp) rfl (fun j v hj => by rw [Nat.zero_add]; simpa using hj)
        refine ⟨newP_of (con (Fr.push _ _) fun g6 p6 c6 o6 f6 i6 => ⟨_, _, _, rfl, done ((Fr.push _ _).tt f6) ((lit g4).frame f6 (fun _ _ => id)) (Nat.le_refl _) o6⟩), con (Fr.refl _ _) fun g5 p6 c6 o6 f6 i6 => ⟨_, _, _, rfl, newP_of (done (f6.tt (Fr.push _ _)) (lit g5) f6.1 (o6.frame (Fr.push (S := fun _ => False) _ _) (fun _ _ => id)))⟩, trivial⟩
    have bS : ∀ {S : Nat → Prop}, (∀ y, S y → g.size ≤ y) → ¬ S b ∧ ¬ S s := fun gS => ⟨fun e => by have := gS _ e; omega, fun e => by have := gS _ e; omega⟩
    have nn : σ.now < 18446744073709551616 ∧ σ.rf ≤ 1000000000 ∧ σ.tm < 18446744073709551616 ∧ σ.sq < 18446744073709551616 := by
      have := G.n; have := G.t; have := G.r; omega
    have tx : (str (textE σ.e)).data.toList = textE σ.e := rfl
    refine ⟨_, cell_at (B fg) rfl, _, cell_at (B fg) rfl, _, cell_at hbg rfl, _, cell_at hbg rfl, ?_, ?_, trivial⟩
    · refine Fld.new_ok fun h26 w S W6 f26 g26 => ⟨_, rfl, ?_⟩
      have F6 := fg.tt f26
      have hb6 := f26.get hbg id
      refine ⟨cell_at hb6 rfl, cell_at hb6 rfl, cell_at (B F6) rfl, cell_at (B F6) rfl, s2b fun p7 c7 h27 r7 ic f27 g27 => ⟨_, _, _, rfl, ?_⟩⟩
      have F7 := F6.tt f27
      have hb7 := f27.get hb6 id
      refine ⟨cell_at hb7 rfl, cell_at hb7 rfl, cell_at (B F7) rfl, cell_at (B F7) rfl, head_ok (W6.frame f27 (fun _ _ => id)) r7 (by rw [tx]; rfl) tl nn (fun y hy _ hs => by have := g27 y hy; have := W6.lt y hs; omega) (B F7) hb7 (bS g26).1 (bS g26).2 fun g2 S2 W2 st2 => W W2 ((f26.tt f27).fresh st2.fr g26) (fun y hy => (st2.new y hy).elim (g26 y) (fun q => by have := f26.1; have := f27.1; omega))⟩
    · refine s2b fun p7 c7 h26 r7 ic f26 g26 => ⟨_, _, _, rfl, ?_⟩
      have F6 := fg.tt f26
      have hb6 := f26.get hbg id
      refine ⟨cell_at hb6 rfl, cell_at hb6 rfl, cell_at (B F6) rfl, cell_at (B F6) rfl, Fld.new_ok fun h27 w S W7 f27 g27 => ⟨_, rfl, ?_⟩⟩
      have F7 := F6.tt f27
      have hb7 := f27.get hb6 id
      have g27' : ∀ y, S y → g.size ≤ y := fun y hy => Nat.le_trans f26.1 (g27 y hy)
      refine ⟨cell_at hb7 rfl, cell_at hb7 rfl, cell_at (B F7) rfl, cell_at (B F7) rfl, head_ok W7 (r7.frame f27 (fun _ _ => id)) (by rw [tx]; rfl) tl nn (fun y hy hne hs => by have := row_lt r7 (by rw [tx]; intro e; exact hne (by cases ht : textE σ.e with | nil => rfl | cons => rw [ht] at e; simp [bc] at e)) hy; have := g27 y hs; omega) (B F7) hb7 (bS g27').1 (bS g27').2 fun g2 S2 W2 st2 => W W2 ((f26.tt f27).fresh st2.fr g27') (fun y hy => (st2.new y hy).elim (g27' y) (fun q => by have := f26.1; have := f27.1; omega))⟩
  refine ⟨_, cell_at (B (Fr.refl _ _)) rfl, _, cell_at (B (Fr.refl _ _)) rfl, _, cell_at (B (Fr.refl _ _)) rfl, _, cell_at (B (Fr.refl _ _)) rfl, ?_, ?_, trivial⟩
  · refine s0 (Fr.refl _ _) fun g1 p1 l1 c1 L1 f1 => ⟨cell_at (B f1) rfl, cell_at (B f1) rfl, cell_at (B f1) rfl, ?_, ?_, trivial⟩
    · refine s1 f1 fun g2 p2 l2 c2 L2 f2 => ⟨cell_at (B (f1.tt f2)) rfl, cell_at (B (f1.tt f2)) rfl, ?_, ?_, trivial⟩
      · have F2 := f1.tt f2
        refine s2 F2 fun g3 p3 l3 c3 L3 f3 => ⟨cell_at (B (F2.tt f3)) rfl, ?_, ?_, trivial⟩
        · have F3 := F2.tt f3
          refine s3 F3 fun g4 p4 l4 c4 L4 f4 => a4_s_s_uint8.new fun b4 g5 eb hb5 f5 => ?_
          exact fin hb5 (L1.on (f2.tt (f3.tt (f4.tt f5)))) ((L2.mono f1.1).on (f3.tt (f4.tt f5))) ((L3.mono F2.1).on (f4.tt f5)) ((L4.mono F3.1).on f5) (F3.tt (f4.tt f5))
        · have F3 := F2.tt f3
          refine a4_s_s_uint8.box fun b4 g4 eb hb4 f4 => ⟨cell_at (B (F3.tt f4)) rfl, ?_⟩
          have F4 := F3.tt f4
          refine s3 F4 fun g5 p4 l4 c4 L4 f5 => a4_s_s_uint8.set (f5.get hb4 id) fun g6 hb6 z6 o6 => ?_
          have f6 : Fr (fun y => y = b4) g5 g6 := Fr.of_eq z6 o6
          have T3 : Fr (fun _ => False) g3 g6 := (f4.tt f5).fresh f6 (fun y e => by omega)
          exact fin hb6 (L1.on (f2.tt (f3.tt T3))) ((L2.mono f1.1).on (f3.tt T3)) ((L3.mono F2.1).on T3) ((L4.frame f6 (fun y hy e => by have := lt_of_get hb4; omega)).mono F4.1) (F3.tt T3)
      · have F2 := f1.tt f2
        refine a4_s_s_uint8.box fun b4 g3 eb hb3 f3 => ⟨cell_at (B (F2.tt f3)) rfl, cell_at (B (F2.tt f3)) rfl, ?_⟩
        have F3 := F2.tt f3
        have lb := lt_of_get hb3
        refine s2 F3 fun g4 p3 l3 c3 L3 f4 => ⟨cell_at (B (F3.tt f4)) rfl, s3 (F3.tt f4) fun g5 p4 l4 c4 L4 f5 => a4_s_s_uint8.set ((f4.tt f5).get hb3 id) fun g6 hb6 z6 o6 => ?_⟩
        have F4 := F3.tt f4
        have f6 : Fr (fun y => y = b4) g5 g6 := Fr.of_eq z6 o6
        have z4 := f4.1
        have T2 : Fr (fun _ => False) g2 g6 := (f3.tt (f4.tt f5)).fresh f6 (fun y e => by omega)
        exact fin hb6 (L1.on (f2.tt T2)) ((L2.mono f1.1).on T2) (((L3.on f5).frame f6 (fun y hy e => by omega)).mono F3.1) ((L4.frame f6 (fun y hy e => by omega)).mono F4.1) (F2.tt T2)
    · refine a4_s_s_uint8.box fun b4 g2 eb hb2 f2 => ⟨cell_at (B (f1.tt f2)) rfl, cell_at (B (f1.tt f2)) rfl, cell_at (B (f1.tt f2)) rfl, ?_⟩
      have F2 := f1.tt f2
      have lb := lt_of_get hb2
      refine s1 F2 fun g3 p2 l2 c2 L2 f3 => ⟨cell_at (B (F2.tt f3)) rfl, cell_at (B (F2.tt f3)) rfl, s2 (F2.tt f3) fun g4 p3 l3 c3 L3 f4 => ⟨cell_at (B (F2.tt (f3.tt f4))) rfl, s3 (F2.tt (f3.tt f4)) fun g5 p4 l4 c4 L4 f5 => a4_s_s_uint8.set ((f3.tt (f4.tt f5)).get hb2 id) fun g6 hb6 z6 o6 => ?_⟩⟩
      have F3 := F2.tt f3
      have F4 := F3.tt f4
      have f6 : Fr (fun y => y = b4) g5 g6 := Fr.of_eq z6 o6
      have z3 := f3.1
      have z4 := f4.1
      have T1 : Fr (fun _ => False) g1 g6 := (f2.tt (f3.tt (f4.tt f5))).fresh f6 (fun y e => by omega)
      exact fin hb6 (L1.on T1) (((L2.on (f4.tt f5)).frame f6 (fun y hy e => by omega)).mono F2.1) (((L3.on f5).frame f6 (fun y hy e => by omega)).mono F3.1) ((L4.frame f6 (fun y hy e => by omega)).mono F4.1) (f1.tt T1)
  · refine a4_s_s_uint8.box fun b4 g1 eb hb1 f1 => ⟨cell_at (B f1) rfl, cell_at (B f1) rfl, cell_at (B f1) rfl, cell_at (B f1) rfl, ?_⟩
    have lb := lt_of_get hb1
    refine s0 f1 fun g2 p1 l1 c1 L1 f2 => ⟨cell_at (B (f1.tt f2)) rfl, cell_at (B (f1.tt f2)) rfl, cell_at (B (f1.tt f2)) rfl, s1 (f1.tt f2) fun g3 p2 l2 c2 L2 f3 => ⟨cell_at (B (f1.tt (f2.tt f3))) rfl, cell_at (B (f1.tt (f2.tt f3))) rfl, s2 (f1.tt (f2.tt f3)) fun g4 p3 l3 c3 L3 f4 => ⟨cell_at (B (f1.tt (f2.tt (f3.tt f4)))) rfl, s3 (f1.tt (f2.tt (f3.tt f4))) fun g5 p4 l4 c4 L4 f5 => a4_s_s_uint8.set ((f2.tt (f3.tt (f4.tt f5))).get hb1 id) fun g6 hb6 z6 o6 => ?_⟩⟩⟩
    have F2 := f1.tt f2
    have F3 := F2.tt f3
    have F4 := F3.tt f4
    have f6 : Fr (fun y => y = b4) g5 g6 := Fr.of_eq z6 o6
    have z2 := f2.1
    have z3 := f3.1
    have z4 := f4.1
    exact fin hb6 (((L1.on (f3.tt (f4.tt f5))).frame f6 (fun y hy e => by omega)).mono f1.1) (((L2.on (f4.tt f5)).frame f6 (fun y hy e => by omega)).mono F2.1) (((L3.on f5).frame f6 (fun y hy e => by omega)).mono F3.1) ((L4.frame f6 (fun y hy e => by omega)).mono F4.1) ((f1.tt (f2.tt (f3.tt (f4.tt f5)))).fresh f6 (fun y e => by omega))
end Stt
end Go.Proofs.YtgccegnmggjkjaaGreatDoor
set_option maxRecDepth 100000
set_option maxHeartbeats 4000000
namespace Go.Proofs.YtgccegnmggjkjaaGreatDoor
open Go.Den
variable {h : Heap} {R : Value → Heap → Prop}
theorem law26_Self.walk  (hv :
 NewP h (.cells #[.bool false, .int .u64 0, .int .u64 0, .string (⟨#[]⟩ : ByteArray), .string (⟨#[]⟩ : ByteArray)] T.eid_Eid) fun b h_1 =>
 eid_Eid.ST h_1 ⟨b, 0, none⟩ true 7 0 (⟨#[]⟩ : ByteArray) (⟨#[]⟩ : ByteArray) fun h_2 =>
 eid_Eid.LD h_2 ⟨b, 0, none⟩ fun r_0 r_1 r_2 r_3 r_4 =>
 R (.agg #[.bool r_0, .int .u64 r_1, .int .u64 r_2, .string r_3, .string r_4]) h_2) : CallsH Tryz.prog F.law26_Self #[] h R :=
 callsH_of_body (.seq .leaf (.seq .leaf .leaf)) Tryz.func51 rfl rfl (Eq.mp (by kernel_rfl) hv)
theorem law26_home.walk  (hv :
 NewP h (.cells #[.bool false, .int .u64 0, .int .u64 0, .string (⟨#[]⟩ : ByteArray), .string (⟨#[]⟩ : ByteArray)] T.eid_Eid) fun b h_1 =>
 eid_Eid.ST h_1 ⟨b, 0, none⟩ true 7 1 (⟨#[]⟩ : ByteArray) (⟨#[]⟩ : ByteArray) fun h_2 =>
 eid_Eid.LD h_2 ⟨b, 0, none⟩ fun r_0 r_1 r_2 r_3 r_4 =>
 R (.agg #[.bool r_0, .int .u64 r_1, .int .u64 r_2, .string r_3, .string r_4]) h_2) : CallsH Tryz.prog F.law26_home #[] h R :=
 callsH_of_body (.seq .leaf (.seq .leaf .leaf)) Tryz.func115 rfl rfl (Eq.mp (by kernel_rfl) hv)
theorem law26_alive.walk  (hv :
 Cl F.law26_Self #[] h fun v h_1 =>
 ∃ t13_0 t13_1 t13_2 t13_3 t13_4, v = .agg #[.bool t13_0, .int .u64 t13_1, .int .u64 t13_2, .string t13_3, .string t13_4] ∧
 Cl F.state_New #[.agg #[.bool t13_0, .int .u64 t13_1, .int .u64 t13_2, .string t13_3, .string t13_4]] h_1 fun v_1 h_2 =>
 ∃ t14_0 t14_1, v_1 = .tuple #[.pointer t14_0, .int .i64 t14_1] ∧
 Cl F.state_New #[.agg #[.bool false, .int .u64 0, .int .u64 0, .string (⟨#[]⟩ : ByteArray), .string (⟨#[]⟩ : ByteArray)]] h_2 fun v_2 h_3 =>
 ∃ t19_0 t19_1, v_2 = .tuple #[.pointer t19_0, .int .i64 t19_1] ∧
 JoinP (fun (t41 : Bool) (h_4 : Heap) =>
 if t41 = true then
 R (.bool false) h_4
 else
 NewP h_4 (.cells #[.int .u8 97, .int .u8 98, .int .u8 99] T.uint8) fun b h_5 =>
 denSem Tryz.prog (convert T.s_uint8 T.s_uint8 (.slice (some ⟨b, 0, none⟩) 3 3)) h_5 fun v_3 h_6 =>
 ∃ t45_p t45_l t45_c, v_3 = .slice t45_p t45_l t45_c ∧
 Cl F.state_State_Put #[.pointer t14_0, .int .i64 3, .slice t45_p t45_l t45_c, .int .u64 50] h_6 fun v_4 h_7 =>
 ∃ t46_0 t46_1, v_4 = .tuple #[.int .i64 t46_0, .int .i64 t46_1] ∧
 onSome t14_0 fun a =>
 ∃ t52, hcell h_7 (a.add 4) = some (.pointer t52) ∧
 Cl F.quota_Purse_Used #[.pointer t52, .int .i64 3] h_7 fun v_5 h_8 =>
 ∃ t53, v_5 = .int .i64 t53 ∧
 Cl F.state_State_Pass #[.pointer t14_0, .int .u64 9] h_8 fun v_6 h_9 =>
 ∃ t55, v_6 = .int .i64 t55 ∧
 Cl F.state_State_Pass #[.pointer t14_0, .int .u64 8] h_9 fun v_7 h_10 =>
 ∃ t57, v_7 = .int .i64 t57 ∧
 Cl F.state_State_Take #[.pointer t14_0] h_10 fun v_8 h_11 =>
 ∃ t60_0_0 t60_0_1 t60_0_2_p t60_0_2_l t60_0_2_c t60_0_3 t60_1, v_8 = .tuple #[.agg #[.int .i64 t60_0_0, .int .i64 t60_0_1, .slice t60_0_2_p t60_0_2_l t60_0_2_c, .int .u64 t60_0_3], .int .i64 t60_1] ∧
 NewP h_11 (.cells #[.int .i64 0, .int .i64 0, .slice none 0 0, .int .u64 0] T.outbox_Item) fun b_1 h_12 =>
 outbox_Item.ST h_12 ⟨b_1, 0, none⟩ t60_0_0 t60_0_1 t60_0_2_p t60_0_2_l t60_0_2_c t60_0_3 fun h_13 =>
 if (t19_1 == 3) = true then
 if (t46_0 == 1) = true then
 if (t46_1 == 0) = true then
 if (t53 == 3) = true then
 if (t55 == 0) = true then
 if (t57 == 18) = true then
 ∃ t87_p t87_l t87_c, hcell h_13 ⟨b_1, 2, none⟩ = some (.slice t87_p t87_l t87_c) ∧
 ∃ (t88 : ByteArray), ConvV Tryz.prog T.s_uint8 T.string (.slice t87_p t87_l t87_c) h_13 t88 ∧
 if (t88.toList == (⟨#[97, 98, 99]⟩ : ByteArray).toList) = true then
 if (t60_1 == 0) = true then
 onSome t14_0 fun a_1 =>
 ∃ t99, hcell h_13 (a_1.add 4) = some (.pointer t99) ∧
 Cl F.quota_Purse_All #[.pointer t99] h_13 fun v_9 h_14 =>
 ∃ t100, v_9 = .int .i64 t100 ∧
 if (t100 == 0) = true then
 onSome t14_0 fun a_2 =>
 ∃ t107, hcell h_14 (a_2.add 6) = some (.int .u64 t107) ∧
 if (t107 == 9) = true then
 Cl F.state_State_Save #[.pointer t14_0] h_14 fun v_10 h_15 =>
 ∃ t112_p t112_l t112_c, v_10 = .slice t112_p t112_l t112_c ∧
 R (.bool (((t112_l : Nat) : Int) == 3)) h_15
 else
 R (.bool false) h_14
 else
 R (.bool false) h_14
 else
 R (.bool false) h_13
 else
 R (.bool false) h_13
 else
 R (.bool false) h_13
 else
 R (.bool false) h_13
 else
 R (.bool false) h_13
 else
 R (.bool false) h_13
 else
 R (.bool false) h_13
 else
 R (.bool false) h_13)
 (fun J =>
 if (t14_1 != 0) = true then
 J true h_3
 else
 if t14_0.isNone = true then
 J true h_3
 else
 onSome t14_0 fun a_3 =>
 ∃ t32, hcell h_3 (a_3.add 3) = some (.pointer t32) ∧
 if t32.isNone = true then
 J true h_3
 else
 onSome t14_0 fun a_4 =>
 ∃ t39, hcell h_3 (a_4.add 4) = some (.pointer t39) ∧
 J t39.isNone h_3)) : CallsH Tryz.prog F.law26_alive #[] h R :=
 callsH_of_body (.seq .leaf (.seq .leaf (.seq .leaf (.seq (.seq (.join [(41, .one (.bool))] .leaf) (.cond (.seq .leaf .leaf) .leaf)) (.seq .leaf (.seq .leaf (.seq .leaf (.seq .leaf (.seq .leaf (.seq .leaf .leaf)))))))))) Tryz.func39 rfl rfl (Eq.mp (by kernel_rfl) hv)
theorem law26_whole.walk {s : Nat} (hv :
 ∃ t9, hcell h ⟨s, 0, none⟩ = some (.pointer t9) ∧
 if (!t9.isNone) = true then
 ∃ t16, hcell h ⟨s, 1, none⟩ = some (.pointer t16) ∧
 if (!t16.isNone) = true then
 ∃ t23, hcell h ⟨s, 2, none⟩ = some (.pointer t23) ∧
 if (!t23.isNone) = true then
 ∃ t30, hcell h ⟨s, 3, none⟩ = some (.pointer t30) ∧
 if (!t30.isNone) = true then
 ∃ t37, hcell h ⟨s, 4, none⟩ = some (.pointer t37) ∧
 if (!t37.isNone) = true then
 ∃ t44, hcell h ⟨s, 5, none⟩ = some (.pointer t44) ∧
 R (.bool (!t44.isNone)) h
 else
 R (.bool false) h
 else
 R (.bool false) h
 else
 R (.bool false) h
 else
 R (.bool false) h
 else
 R (.bool false) h) : CallsH Tryz.prog F.law26_whole #[.pointer (some ⟨s, 0, none⟩)] h R :=
 callsH_of_body (.seq .leaf (.seq .leaf .leaf)) Tryz.func42 rfl rfl (Eq.mp (by kernel_rfl) hv)
theorem law26_pure.walk {s : Nat} (hv :
 ∃ t11, hcell h ⟨s, 3, none⟩ = some (.pointer t11) ∧
 Cl F.outbox_Box_All #[.pointer t11] h fun v h_1 =>
 ∃ t12_p t12_l t12_c, v = .slice t12_p t12_l t12_c ∧
 ∃ (I : Int → Int → Heap → Prop) (mu : Int → Int → Heap → Nat), I 0 0 h_1 ∧ ∀ (all : Int) (i : Int) (h_2 : Heap), I all i h_2 →
 if (decide (i < ((t12_l : Nat) : Int))) = true then
 ∃ (I_1 : Int → Int → Heap → Prop) (mu_1 : Int → Int → Heap → Nat), I_1 0 0 h_2 ∧ ∀ (n : Int) (k : Int) (h_3 : Heap), I_1 n k h_3 →
 if (decide (k < ((t12_l : Nat) : Int))) = true then
 JoinP (fun (n_1 : Int) (h_4 : Heap) =>
 (I_1 n_1 (IntKind.wrap .i64 (k + 1)) h_4 ∧ mu_1 n_1 (IntKind.wrap .i64 (k + 1)) h_4 < mu_1 n k h_3))
 (fun J =>
 ((0 : Int) ≤ k ∧ k < ((t12_l : Nat) : Int)) ∧
 onSome t12_p fun a =>
 ∃ t29, hcell h_3 ((a.add (Int.toNat k * 4)).add 1) = some (.int .i64 t29) ∧
 ((0 : Int) ≤ i ∧ i < ((t12_l : Nat) : Int)) ∧
 onSome t12_p fun a_1 =>
 ∃ t34, hcell h_3 ((a_1.add (Int.toNat i * 4)).add 1) = some (.int .i64 t34) ∧
 JoinP (fun (n_2 : Int) (h_5 : Heap) =>
 J n_2 h_5)
 (fun J_1 =>
 if (t29 == t34) = true then
 ((0 : Int) ≤ k ∧ k < ((t12_l : Nat) : Int)) ∧
 onSome t12_p fun a_2 =>
 ∃ t41_p t41_l t41_c, hcell h_3 ((a_2.add (Int.toNat k * 4)).add 2) = some (.slice t41_p t41_l t41_c) ∧
 J_1 (IntKind.wrap .i64 (n + ((t41_l : Nat) : Int))) h_3
 else
 J_1 n h_3))
 else
 ∃ t47, hcell h_3 ⟨s, 4, none⟩ = some (.pointer t47) ∧
 ((0 : Int) ≤ i ∧ i < ((t12_l : Nat) : Int)) ∧
 onSome t12_p fun a_3 =>
 ∃ t52, hcell h_3 ((a_3.add (Int.toNat i * 4)).add 1) = some (.int .i64 t52) ∧
 Cl F.quota_Purse_Used #[.pointer t47, .int .i64 t52] h_3 fun v_1 h_6 =>
 ∃ t53, v_1 = .int .i64 t53 ∧
 if (t53 != n) = true then
 R (.bool false) h_6
 else
 ((0 : Int) ≤ i ∧ i < ((t12_l : Nat) : Int)) ∧
 onSome t12_p fun a_4 =>
 ∃ t61_p t61_l t61_c, hcell h_6 ((a_4.add (Int.toNat i * 4)).add 2) = some (.slice t61_p t61_l t61_c) ∧
 (I (IntKind.wrap .i64 (all + ((t61_l : Nat) : Int))) (IntKind.wrap .i64 (i + 1)) h_6 ∧ mu (IntKind.wrap .i64 (all + ((t61_l : Nat) : Int))) (IntKind.wrap .i64 (i + 1)) h_6 < mu all i h_2)
 else
 ∃ t67, hcell h_2 ⟨s, 4, none⟩ = some (.pointer t67) ∧
 Cl F.quota_Purse_All #[.pointer t67] h_2 fun v_2 h_7 =>
 ∃ t68, v_2 = .int .i64 t68 ∧
 R (.bool (t68 == all)) h_7) : CallsH Tryz.prog F.law26_pure #[.pointer (some ⟨s, 0, none⟩)] h R :=
 callsH_of_body (.seq .leaf (.seq .leaf (.seq .leaf (.seq (.seq .leaf (.block (.loop [(4, .one (.int .i64)), (5, .one (.int .i64))] (.seq (.seq .leaf (.cond .leaf .leaf)) (.seq (.block (.seq .leaf (.seq (.seq .leaf (.block (.loop [(6, .one (.int .i64)), (7, .one (.int .i64))] (.seq (.seq .leaf (.cond .leaf .leaf)) (.seq (.join [(6, .one (.int .i64))] (.block (.seq (.plan (.op 0 (.op 1 (.op 2 (.op 3 (.op 4 (.op 5 (.op 6 (.op 7 (.op 8 (.op 9 (.op 10 .done)))))))))))) (.join [(6, .one (.int .i64))] (.cond .leaf .leaf))))) .leaf))))) (.seq (.seq (.plan (.op 0 (.op 1 (.op 2 (.op 3 (.op 4 (.op 5 (.op 6 (.op 7 (.op 8 (.op 10 (.op 9 (.op 11 .done))))))))))))) (.cond (.seq .leaf .leaf) .leaf)) .leaf)))) .leaf))))) (.seq .leaf .leaf))))) Tryz.func55 rfl rfl (Eq.mp (by kernel_rfl) hv)
theorem law26_do.walk {s : Nat} {o_0 : Int} {o_1 : Int} {o_2 : Int} {o_3_p : Option Addr} {o_3_l o_3_c : Nat} {o_4 : Int} (hv :
 NewP h (.cells #[.int .i64 o_0, .int .i64 o_1, .int .i64 o_2, .slice o_3_p o_3_l o_3_c, .int .u64 o_4] T.law26_Op) fun b h_1 =>
 ∃ t10, hcell h_1 ⟨b, 0, none⟩ = some (.int .i64 t10) ∧
 JoinP (fun (e : Int) (n : Int) (h_2 : Heap) =>
 R (.int .i64 (IntKind.wrap .i64 ((IntKind.wrap .i64 (100 * n)) + e))) h_2)
 (fun J =>
 JoinP (fun (e_1 : Int) (n_1 : Int) (h_3 : Heap) =>
 J e_1 n_1 h_3)
 (fun J_1 =>
 if (t10 == 0) = true then
 ∃ t15, hcell h_1 ⟨b, 4, none⟩ = some (.int .u64 t15) ∧
 Cl F.state_State_Pass #[.pointer (some ⟨s, 0, none⟩), .int .u64 t15] h_1 fun v h_4 =>
 ∃ t16, v = .int .i64 t16 ∧
 J_1 t16 0 h_4
 else
 JoinP (fun (e_2 : Int) (n_2 : Int) (h_5 : Heap) =>
 J_1 e_2 n_2 h_5)
 (fun J_2 =>
 if (t10 == 1) = true then
 ∃ t22, hcell h_1 ⟨b, 2, none⟩ = some (.int .i64 t22) ∧
 ∃ t24_p t24_l t24_c, hcell h_1 ⟨b, 3, none⟩ = some (.slice t24_p t24_l t24_c) ∧
 ∃ t26, hcell h_1 ⟨b, 4, none⟩ = some (.int .u64 t26) ∧
 Cl F.state_State_Put #[.pointer (some ⟨s, 0, none⟩), .int .i64 t22, .slice t24_p t24_l t24_c, .int .u64 t26] h_1 fun v_1 h_6 =>
 ∃ t27_0 t27_1, v_1 = .tuple #[.int .i64 t27_0, .int .i64 t27_1] ∧
 J_2 t27_1 t27_0 h_6
 else
 JoinP (fun (e_3 : Int) (n_3 : Int) (h_7 : Heap) =>
 J_2 e_3 n_3 h_7)
 (fun J_3 =>
 if (t10 == 2) = true then
 ∃ t34, hcell h_1 ⟨b, 1, none⟩ = some (.int .i64 t34) ∧
 ∃ t36, hcell h_1 ⟨b, 2, none⟩ = some (.int .i64 t36) ∧
 Cl F.state_State_Cancel #[.pointer (some ⟨s, 0, none⟩), .int .i64 t34, .int .i64 t36] h_1 fun v_2 h_8 =>
 ∃ t37, v_2 = .int .i64 t37 ∧
 J_3 t37 0 h_8
 else
 JoinP (fun (e_4 : Int) (n_4 : Int) (h_9 : Heap) =>
 J_3 e_4 n_4 h_9)
 (fun J_4 =>
 if (t10 == 3) = true then
 Cl F.state_State_Take #[.pointer (some ⟨s, 0, none⟩)] h_1 fun v_3 h_10 =>
 ∃ t42_0_0 t42_0_1 t42_0_2_p t42_0_2_l t42_0_2_c t42_0_3 t42_1, v_3 = .tuple #[.agg #[.int .i64 t42_0_0, .int .i64 t42_0_1, .slice t42_0_2_p t42_0_2_l t42_0_2_c, .int .u64 t42_0_3], .int .i64 t42_1] ∧
 NewP h_10 (.cells #[.int .i64 0, .int .i64 0, .slice none 0 0, .int .u64 0] T.outbox_Item) fun b_1 h_11 =>
 outbox_Item.ST h_11 ⟨b_1, 0, none⟩ t42_0_0 t42_0_1 t42_0_2_p t42_0_2_l t42_0_2_c t42_0_3 fun h_12 =>
 ∃ t46, hcell h_12 ⟨b_1, 0, none⟩ = some (.int .i64 t46) ∧
 J_4 t42_1 t46 h_12
 else
 JoinP (fun (e_5 : Int) (n_5 : Int) (h_13 : Heap) =>
 J_4 e_5 n_5 h_13)
 (fun J_5 =>
 if (t10 == 4) = true then
 ∃ t54, hcell h_1 ⟨s, 0, none⟩ = some (.pointer t54) ∧
 ∃ t56, hcell h_1 ⟨b, 4, none⟩ = some (.int .u64 t56) ∧
 Cl F.sessions_Table_Open #[.pointer t54, .int .u64 t56] h_1 fun v_4 h_14 =>
 ∃ t57_0 t57_1, v_4 = .tuple #[.int .i64 t57_0, .int .i64 t57_1] ∧
 J_5 t57_1 t57_0 h_14
 else
 JoinP (fun (e_6 : Int) (n_6 : Int) (h_15 : Heap) =>
 J_5 e_6 n_6 h_15)
 (fun J_6 =>
 if (t10 == 5) = true then
 ∃ t66, hcell h_1 ⟨s, 2, none⟩ = some (.pointer t66) ∧
 ∃ t69_p t69_l t69_c, hcell h_1 ⟨b, 3, none⟩ = some (.slice t69_p t69_l t69_c) ∧
 ∃ t71, hcell h_1 ⟨b, 4, none⟩ = some (.int .u64 t71) ∧
 Cl F.law26_home #[] h_1 fun v_5 h_16 =>
 ∃ t67_0 t67_1 t67_2 t67_3 t67_4, v_5 = .agg #[.bool t67_0, .int .u64 t67_1, .int .u64 t67_2, .string t67_3, .string t67_4] ∧
 hcell h_16 ⟨b, 4, none⟩ = some (.int .u64 t71) ∧
 hcell h_16 ⟨b, 3, none⟩ = some (.slice t69_p t69_l t69_c) ∧
 hcell h_16 ⟨s, 2, none⟩ = some (.pointer t66) ∧
 Cl F.copies_Table_Add #[.pointer t66, .agg #[.bool t67_0, .int .u64 t67_1, .int .u64 t67_2, .string t67_3, .string t67_4], .slice t69_p t69_l t69_c, .int .u64 t71] h_16 fun v_6 h_17 =>
 ∃ t72_0 t72_1, v_6 = .tuple #[.int .i64 t72_0, .int .i64 t72_1] ∧
 J_6 t72_1 t72_0 h_17
 else
 J_6 0 0 h_1)))))))) : CallsH Tryz.prog F.law26_do #[.pointer (some ⟨s, 0, none⟩), .agg #[.int .i64 o_0, .int .i64 o_1, .int .i64 o_2, .slice o_3_p o_3_l o_3_c, .int .u64 o_4]] h R :=
 callsH_of_body (.seq .leaf (.seq .leaf (.seq .leaf (.seq (.seq .leaf (.join [(5, .one (.int .i64)), (6, .one (.int .i64))] (.block (.seq .leaf (.join [(5, .one (.int .i64)), (6, .one (.int .i64))] (.cond .leaf (.seq .leaf (.join [(5, .one (.int .i64)), (6, .one (.int .i64))] (.cond .leaf (.seq .leaf (.join [(5, .one (.int .i64)), (6, .one (.int .i64))] (.cond .leaf (.seq .leaf (.join [(5, .one (.int .i64)), (6, .one (.int .i64))] (.cond (.seq .leaf .leaf) (.seq .leaf (.join [(5, .one (.int .i64)), (6, .one (.int .i64))] (.cond (.plan (.op 0 (.op 1 (.op 2 (.op 3 (.op 4 (.op 5 (.op 6 (.op 7 (.op 8 (.op 9 (.op 10 (.op 11 .done))))))))))))) (.seq .leaf (.join [(5, .one (.int .i64)), (6, .one (.int .i64))] (.cond (.plan (.op 0 (.op 1 (.op 2 (.op 3 (.op 5 (.op 6 (.op 7 (.op 8 (.op 4 (.op 9 (.op 10 (.op 11 (.op 12 (.op 13 (.op 14 .done)))))))))))))))) .leaf))))))))))))))))))))) (.seq .leaf .leaf))))) Tryz.func52 rfl rfl (Eq.mp (by kernel_rfl) hv)
theorem law26_StatePasses.walk {ops_p : Option Addr} {ops_l ops_c : Nat} {a : Int} {b : Int} (hv :
 Cl F.law26_Self #[] h fun v h_1 =>
 ∃ t20_0 t20_1 t20_2 t20_3 t20_4, v = .agg #[.bool t20_0, .int .u64 t20_1, .int .u64 t20_2, .string t20_3, .string t20_4] ∧
 Cl F.state_New #[.agg #[.bool t20_0, .int .u64 t20_1, .int .u64 t20_2, .string t20_3, .string t20_4]] h_1 fun v_1 h_2 =>
 ∃ t21_0 t21_1, v_1 = .tuple #[.pointer t21_0, .int .i64 t21_1] ∧
 Cl F.law26_Self #[] h_2 fun v_2 h_3 =>
 ∃ t25_0 t25_1 t25_2 t25_3 t25_4, v_2 = .agg #[.bool t25_0, .int .u64 t25_1, .int .u64 t25_2, .string t25_3, .string t25_4] ∧
 Cl F.state_New #[.agg #[.bool t25_0, .int .u64 t25_1, .int .u64 t25_2, .string t25_3, .string t25_4]] h_3 fun v_3 h_4 =>
 ∃ t26_0 t26_1, v_3 = .tuple #[.pointer t26_0, .int .i64 t26_1] ∧
 JoinP (fun (t44 : Bool) (h_5 : Heap) =>
 if t44 = true then
 R (.bool false) h_5
 else
 ∃ (I : Int → Heap → Prop) (mu : Int → Heap → Nat), I 0 h_5 ∧ ∀ (i : Int) (h_6 : Heap), I i h_6 →
 JoinP (fun (t52 : Bool) (h_7 : Heap) =>
 if t52 = true then
 JoinP (fun (t69 : Bool) (h_8 : Heap) =>
 if t69 = true then
 Cl F.law26_alive #[] h_8 fun v_4 h_9 =>
 ∃ t70, v_4 = .bool t70 ∧
 R (.bool t70) h_9
 else
 ((0 : Int) ≤ i ∧ i < ((ops_l : Nat) : Int)) ∧
 onSome ops_p fun a_1 =>
 law26_Op.LD h_8 (a_1.add (Int.toNat i * 5)) fun t75_0 t75_1 t75_2 t75_3_p t75_3_l t75_3_c t75_4 =>
 Cl F.law26_do #[.pointer t21_0, .agg #[.int .i64 t75_0, .int .i64 t75_1, .int .i64 t75_2, .slice t75_3_p t75_3_l t75_3_c, .int .u64 t75_4]] h_8 fun v_5 h_10 =>
 ∃ t76, v_5 = .int .i64 t76 ∧
 ((0 : Int) ≤ i ∧ i < ((ops_l : Nat) : Int)) ∧
 onSome ops_p fun a_2 =>
 law26_Op.LD h_10 (a_2.add (Int.toNat i * 5)) fun t81_0 t81_1 t81_2 t81_3_p t81_3_l t81_3_c t81_4 =>
 Cl F.law26_do #[.pointer t26_0, .agg #[.int .i64 t81_0, .int .i64 t81_1, .int .i64 t81_2, .slice t81_3_p t81_3_l t81_3_c, .int .u64 t81_4]] h_10 fun v_6 h_11 =>
 ∃ t82, v_6 = .int .i64 t82 ∧
 (I (IntKind.wrap .i64 (i + 1)) h_11 ∧ mu (IntKind.wrap .i64 (i + 1)) h_11 < mu i h_6))
 (fun J_2 =>
 ((0 : Int) ≤ i ∧ i < ((ops_l : Nat) : Int)) ∧
 onSome ops_p fun a_3 =>
 ∃ t59_p t59_l t59_c, hcell h_7 ((a_3.add (Int.toNat i * 5)).add 3) = some (.slice t59_p t59_l t59_c) ∧
 if (decide (((t59_l : Nat) : Int) > 700)) = true then
 J_2 true h_7
 else
 ((0 : Int) ≤ i ∧ i < ((ops_l : Nat) : Int)) ∧
 onSome ops_p fun a_4 =>
 ∃ t67, hcell h_7 ((a_4.add (Int.toNat i * 5)).add 4) = some (.int .u64 t67) ∧
 J_2 (decide (t67 > 549755813888)) h_7)
 else
 onSome t21_0 fun a_5 =>
 ∃ t86, hcell h_7 (a_5.add 6) = some (.int .u64 t86) ∧
 Cl F.state_State_Pass #[.pointer t21_0, .int .u64 (IntKind.wrap .u64 (t86 + (IntKind.wrap .u64 a)))] h_7 fun v_7 h_12 =>
 ∃ t92, v_7 = .int .i64 t92 ∧
 Cl F.state_State_Pass #[.pointer t21_0, .int .u64 (IntKind.wrap .u64 ((IntKind.wrap .u64 (t86 + (IntKind.wrap .u64 a))) + (IntKind.wrap .u64 b)))] h_12 fun v_8 h_13 =>
 ∃ t101, v_8 = .int .i64 t101 ∧
 Cl F.state_State_Pass #[.pointer t26_0, .int .u64 (IntKind.wrap .u64 ((IntKind.wrap .u64 (t86 + (IntKind.wrap .u64 a))) + (IntKind.wrap .u64 b)))] h_13 fun v_9 h_14 =>
 ∃ t110, v_9 = .int .i64 t110 ∧
 onSome t21_0 fun a_6 =>
 ∃ t114, hcell h_14 (a_6.add 6) = some (.int .u64 t114) ∧
 JoinP (fun (j : Int) (h_15 : Heap) =>
 JoinP (fun (x : Option Addr) (y : Option Addr) (h_16 : Heap) =>
 Cl F.law26_alive #[] h_16 fun v_10 h_17 =>
 ∃ t133, v_10 = .bool t133 ∧
 if t133 = true then
 if (t92 == 0) = true then
 if (t101 == 0) = true then
 if (t110 == 0) = true then
 if (j == 18) = true then
 onSome x fun a_7 =>
 a6_int.LD h_17 a_7 fun t151_0 t151_1 t151_2 t151_3 t151_4 t151_5 =>
 onSome y fun a_8 =>
 a6_int.LD h_17 a_8 fun t152_0 t152_1 t152_2 t152_3 t152_4 t152_5 =>
 ∃ (eq : Bool), EqV Tryz.prog T.a6_int (.agg #[.int .i64 t151_0, .int .i64 t151_1, .int .i64 t151_2, .int .i64 t151_3, .int .i64 t151_4, .int .i64 t151_5]) (.agg #[.int .i64 t152_0, .int .i64 t152_1, .int .i64 t152_2, .int .i64 t152_3, .int .i64 t152_4, .int .i64 t152_5]) eq ∧
 if eq = true then
 onSome t21_0 fun a_9 =>
 ∃ t159, hcell h_17 (a_9.add 3) = some (.pointer t159) ∧
 onSome t26_0 fun a_10 =>
 ∃ t164, hcell h_17 (a_10.add 3) = some (.pointer t164) ∧
 Cl F.outbox_Box_Counts #[.pointer t159] h_17 fun v_11 h_18 =>
 ∃ t160_0 t160_1 t160_2 t160_3 t160_4, v_11 = .agg #[.int .i64 t160_0, .int .i64 t160_1, .int .i64 t160_2, .int .i64 t160_3, .int .i64 t160_4] ∧
 hcell h_18 (a_10.add 3) = some (.pointer t164) ∧
 heldL a_8 [.int .i64 t152_0, .int .i64 t152_1, .int .i64 t152_2, .int .i64 t152_3, .int .i64 t152_4, .int .i64 t152_5] 0 h_18 ∧
 heldL a_7 [.int .i64 t151_0, .int .i64 t151_1, .int .i64 t151_2, .int .i64 t151_3, .int .i64 t151_4, .int .i64 t151_5] 0 h_18 ∧
 Cl F.outbox_Box_Counts #[.pointer t164] h_18 fun v_12 h_19 =>
 ∃ t165_0 t165_1 t165_2 t165_3 t165_4, v_12 = .agg #[.int .i64 t165_0, .int .i64 t165_1, .int .i64 t165_2, .int .i64 t165_3, .int .i64 t165_4] ∧
 heldL a_8 [.int .i64 t152_0, .int .i64 t152_1, .int .i64 t152_2, .int .i64 t152_3, .int .i64 t152_4, .int .i64 t152_5] 0 h_19 ∧
 heldL a_7 [.int .i64 t151_0, .int .i64 t151_1, .int .i64 t151_2, .int .i64 t151_3, .int .i64 t151_4, .int .i64 t151_5] 0 h_19 ∧
 ∃ (eq_1 : Bool), EqV Tryz.prog T.a5_int (.agg #[.int .i64 t160_0, .int .i64 t160_1, .int .i64 t160_2, .int .i64 t160_3, .int .i64 t160_4]) (.agg #[.int .i64 t165_0, .int .i64 t165_1, .int .i64 t165_2, .int .i64 t165_3, .int .i64 t165_4]) eq_1 ∧
 if eq_1 = true then
 onSome t21_0 fun a_11 =>
 ∃ t172, hcell h_19 (a_11.add 4) = some (.pointer t172) ∧
 onSome t26_0 fun a_12 =>
 ∃ t177, hcell h_19 (a_12.add 4) = some (.pointer t177) ∧
 Cl F.quota_Purse_All #[.pointer t172] h_19 fun v_13 h_20 =>
 ∃ t173, v_13 = .int .i64 t173 ∧
 hcell h_20 (a_12.add 4) = some (.pointer t177) ∧
 heldL a_8 [.int .i64 t152_0, .int .i64 t152_1, .int .i64 t152_2, .int .i64 t152_3, .int .i64 t152_4, .int .i64 t152_5] 0 h_20 ∧
 heldL a_7 [.int .i64 t151_0, .int .i64 t151_1, .int .i64 t151_2, .int .i64 t151_3, .int .i64 t151_4, .int .i64 t151_5] 0 h_20 ∧
 Cl F.quota_Purse_All #[.pointer t177] h_20 fun v_14 h_21 =>
 ∃ t178, v_14 = .int .i64 t178 ∧
 heldL a_8 [.int .i64 t152_0, .int .i64 t152_1, .int .i64 t152_2, .int .i64 t152_3, .int .i64 t152_4, .int .i64 t152_5] 0 h_21 ∧
 heldL a_7 [.int .i64 t151_0, .int .i64 t151_1, .int .i64 t151_2, .int .i64 t151_3, .int .i64 t151_4, .int .i64 t151_5] 0 h_21 ∧
 if (t173 == t178) = true then
 Cl F.law26_pure #[.pointer t21_0] h_21 fun v_15 h_22 =>
 ∃ t183, v_15 = .bool t183 ∧
 heldL a_8 [.int .i64 t152_0, .int .i64 t152_1, .int .i64 t152_2, .int .i64 t152_3, .int .i64 t152_4, .int .i64 t152_5] 0 h_22 ∧
 heldL a_7 [.int .i64 t151_0, .int .i64 t151_1, .int .i64 t151_2, .int .i64 t151_3, .int .i64 t151_4, .int .i64 t151_5] 0 h_22 ∧
 if t183 = true then
 Cl F.law26_pure #[.pointer t26_0] h_22 fun v_16 h_23 =>
 ∃ t187, v_16 = .bool t187 ∧
 heldL a_8 [.int .i64 t152_0, .int .i64 t152_1, .int .i64 t152_2, .int .i64 t152_3, .int .i64 t152_4, .int .i64 t152_5] 0 h_23 ∧
 heldL a_7 [.int .i64 t151_0, .int .i64 t151_1, .int .i64 t151_2, .int .i64 t151_3, .int .i64 t151_4, .int .i64 t151_5] 0 h_23 ∧
 if t187 = true then
 onSome t21_0 fun a_13 =>
 ∃ t193, hcell h_23 (a_13.add 6) = some (.int .u64 t193) ∧
 onSome t26_0 fun a_14 =>
 ∃ t197, hcell h_23 (a_14.add 6) = some (.int .u64 t197) ∧
 R (.bool (t193 == t197)) h_23
 else
 R (.bool false) h_23
 else
 R (.bool false) h_22
 else
 R (.bool false) h_21
 else
 R (.bool false) h_19
 else
 R (.bool false) h_17
 else
 R (.bool false) h_17
 else
 R (.bool false) h_17
 else
 R (.bool false) h_17
 else
 R (.bool false) h_17
 else
 R (.bool false) h_17)
 (fun J_4 =>
 onSome t21_0 fun a_15 =>
 ∃ t126, hcell h_15 (a_15.add 2) = some (.pointer t126) ∧
 onSome t26_0 fun a_16 =>
 ∃ t131, hcell h_15 (a_16.add 2) = some (.pointer t131) ∧
 (Cl F.copies_Table_Counts #[.pointer t126] h_15 fun v_17 h_24 =>
 ∃ t127_0 t127_1 t127_2 t127_3 t127_4 t127_5, v_17 = .agg #[.int .i64 t127_0, .int .i64 t127_1, .int .i64 t127_2, .int .i64 t127_3, .int .i64 t127_4, .int .i64 t127_5] ∧
 hcell h_24 (a_16.add 2) = some (.pointer t131) ∧
 (Cl F.copies_Table_Counts #[.pointer t131] h_24 fun v_18 h_25 =>
 ∃ t132_0 t132_1 t132_2 t132_3 t132_4 t132_5, v_18 = .agg #[.int .i64 t132_0, .int .i64 t132_1, .int .i64 t132_2, .int .i64 t132_3, .int .i64 t132_4, .int .i64 t132_5] ∧
 (NewP h_25 (.cells #[.int .i64 0, .int .i64 0, .int .i64 0, .int .i64 0, .int .i64 0, .int .i64 0] T.a6_int) fun b_1 h_26 =>
 NewP h_26 (.cells #[.int .i64 0, .int .i64 0, .int .i64 0, .int .i64 0, .int .i64 0, .int .i64 0] T.a6_int) fun b_2 h_27 =>
 a6_int.ST h_27 ⟨b_1, 0, none⟩ t127_0 t127_1 t127_2 t127_3 t127_4 t127_5 fun h_28 =>
 a6_int.ST h_28 ⟨b_2, 0, none⟩ t132_0 t132_1 t132_2 t132_3 t132_4 t132_5 fun h_29 =>
 J_4 (some ⟨b_1, 0, none⟩) (some ⟨b_2, 0, none⟩) h_29) ∧
 (NewP h_25 (.cells #[.int .i64 0, .int .i64 0, .int .i64 0, .int .i64 0, .int .i64 0, .int .i64 0] T.a6_int) fun b_3 h_30 =>
 NewP h_30 (.cells #[.int .i64 0, .int .i64 0, .int .i64 0, .int .i64 0, .int .i64 0, .int .i64 0] T.a6_int) fun b_4 h_31 =>
 a6_int.ST h_31 ⟨b_4, 0, none⟩ t127_0 t127_1 t127_2 t127_3 t127_4 t127_5 fun h_32 =>
 a6_int.ST h_32 ⟨b_3, 0, none⟩ t132_0 t132_1 t132_2 t132_3 t132_4 t132_5 fun h_33 =>
 J_4 (some ⟨b_4, 0, none⟩) (some ⟨b_3, 0, none⟩) h_33) ∧
 True) ∧
 (NewP h_24 (.cells #[.int .i64 0, .int .i64 0, .int .i64 0, .int .i64 0, .int .i64 0, .int .i64 0] T.a6_int) fun b_5 h_34 =>
 hcell h_34 (a_16.add 2) = some (.pointer t131) ∧
 (Cl F.copies_Table_Counts #[.pointer t131] h_34 fun v_19 h_35 =>
 ∃ t132_0_1 t132_1_1 t132_2_1 t132_3_1 t132_4_1 t132_5_1, v_19 = .agg #[.int .i64 t132_0_1, .int .i64 t132_1_1, .int .i64 t132_2_1, .int .i64 t132_3_1, .int .i64 t132_4_1, .int .i64 t132_5_1] ∧
 NewP h_35 (.cells #[.int .i64 0, .int .i64 0, .int .i64 0, .int .i64 0, .int .i64 0, .int .i64 0] T.a6_int) fun b_6 h_36 =>
 a6_int.ST h_36 ⟨b_5, 0, none⟩ t127_0 t127_1 t127_2 t127_3 t127_4 t127_5 fun h_37 =>
 a6_int.ST h_37 ⟨b_6, 0, none⟩ t132_0_1 t132_1_1 t132_2_1 t132_3_1 t132_4_1 t132_5_1 fun h_38 =>
 J_4 (some ⟨b_5, 0, none⟩) (some ⟨b_6, 0, none⟩) h_38) ∧
 (NewP h_34 (.cells #[.int .i64 0, .int .i64 0, .int .i64 0, .int .i64 0, .int .i64 0, .int .i64 0] T.a6_int) fun b_7 h_39 =>
 hcell h_39 (a_16.add 2) = some (.pointer t131) ∧
 Cl F.copies_Table_Counts #[.pointer t131] h_39 fun v_20 h_40 =>
 ∃ t132_0_2 t132_1_2 t132_2_2 t132_3_2 t132_4_2 t132_5_2, v_20 = .agg #[.int .i64 t132_0_2, .int .i64 t132_1_2, .int .i64 t132_2_2, .int .i64 t132_3_2, .int .i64 t132_4_2, .int .i64 t132_5_2] ∧
 a6_int.ST h_40 ⟨b_5, 0, none⟩ t127_0 t127_1 t127_2 t127_3 t127_4 t127_5 fun h_41 =>
 a6_int.ST h_41 ⟨b_7, 0, none⟩ t132_0_2 t132_1_2 t132_2_2 t132_3_2 t132_4_2 t132_5_2 fun h_42 =>
 J_4 (some ⟨b_5, 0, none⟩) (some ⟨b_7, 0, none⟩) h_42) ∧
 True) ∧
 (NewP h_24 (.cells #[.int .i64 0, .int .i64 0, .int .i64 0, .int .i64 0, .int .i64 0, .int .i64 0] T.a6_int) fun b_8 h_43 =>
 hcell h_43 (a_16.add 2) = some (.pointer t131) ∧
 (Cl F.copies_Table_Counts #[.pointer t131] h_43 fun v_21 h_44 =>
 ∃ t132_0_3 t132_1_3 t132_2_3 t132_3_3 t132_4_3 t132_5_3, v_21 = .agg #[.int .i64 t132_0_3, .int .i64 t132_1_3, .int .i64 t132_2_3, .int .i64 t132_3_3, .int .i64 t132_4_3, .int .i64 t132_5_3] ∧
 NewP h_44 (.cells #[.int .i64 0, .int .i64 0, .int .i64 0, .int .i64 0, .int .i64 0, .int .i64 0] T.a6_int) fun b_9 h_45 =>
 a6_int.ST h_45 ⟨b_9, 0, none⟩ t127_0 t127_1 t127_2 t127_3 t127_4 t127_5 fun h_46 =>
 a6_int.ST h_46 ⟨b_8, 0, none⟩ t132_0_3 t132_1_3 t132_2_3 t132_3_3 t132_4_3 t132_5_3 fun h_47 =>
 J_4 (some ⟨b_9, 0, none⟩) (some ⟨b_8, 0, none⟩) h_47) ∧
 (NewP h_43 (.cells #[.int .i64 0, .int .i64 0, .int .i64 0, .int .i64 0, .int .i64 0, .int .i64 0] T.a6_int) fun b_10 h_48 =>
 hcell h_48 (a_16.add 2) = some (.pointer t131) ∧
 Cl F.copies_Table_Counts #[.pointer t131] h_48 fun v_22 h_49 =>
 ∃ t132_0_4 t132_1_4 t132_2_4 t132_3_4 t132_4_4 t132_5_4, v_22 = .agg #[.int .i64 t132_0_4, .int .i64 t132_1_4, .int .i64 t132_2_4, .int .i64 t132_3_4, .int .i64 t132_4_4, .int .i64 t132_5_4] ∧
 a6_int.ST h_49 ⟨b_10, 0, none⟩ t127_0 t127_1 t127_2 t127_3 t127_4 t127_5 fun h_50 =>
 a6_int.ST h_50 ⟨b_8, 0, none⟩ t132_0_4 t132_1_4 t132_2_4 t132_3_4 t132_4_4 t132_5_4 fun h_51 =>
 J_4 (some ⟨b_10, 0, none⟩) (some ⟨b_8, 0, none⟩) h_51) ∧
 True) ∧
 True) ∧
 (NewP h_15 (.cells #[.int .i64 0, .int .i64 0, .int .i64 0, .int .i64 0, .int .i64 0, .int .i64 0] T.a6_int) fun b_11 h_52 =>
 hcell h_52 (a_16.add 2) = some (.pointer t131) ∧
 hcell h_52 (a_15.add 2) = some (.pointer t126) ∧
 (Cl F.copies_Table_Counts #[.pointer t126] h_52 fun v_23 h_53 =>
 ∃ t127_0_1 t127_1_1 t127_2_1 t127_3_1 t127_4_1 t127_5_1, v_23 = .agg #[.int .i64 t127_0_1, .int .i64 t127_1_1, .int .i64 t127_2_1, .int .i64 t127_3_1, .int .i64 t127_4_1, .int .i64 t127_5_1] ∧
 hcell h_53 (a_16.add 2) = some (.pointer t131) ∧
 (Cl F.copies_Table_Counts #[.pointer t131] h_53 fun v_24 h_54 =>
 ∃ t132_0_5 t132_1_5 t132_2_5 t132_3_5 t132_4_5 t132_5_5, v_24 = .agg #[.int .i64 t132_0_5, .int .i64 t132_1_5, .int .i64 t132_2_5, .int .i64 t132_3_5, .int .i64 t132_4_5, .int .i64 t132_5_5] ∧
 NewP h_54 (.cells #[.int .i64 0, .int .i64 0, .int .i64 0, .int .i64 0, .int .i64 0, .int .i64 0] T.a6_int) fun b_12 h_55 =>
 a6_int.ST h_55 ⟨b_11, 0, none⟩ t127_0_1 t127_1_1 t127_2_1 t127_3_1 t127_4_1 t127_5_1 fun h_56 =>
 a6_int.ST h_56 ⟨b_12, 0, none⟩ t132_0_5 t132_1_5 t132_2_5 t132_3_5 t132_4_5 t132_5_5 fun h_57 =>
 J_4 (some ⟨b_11, 0, none⟩) (some ⟨b_12, 0, none⟩) h_57) ∧
 (NewP h_53 (.cells #[.int .i64 0, .int .i64 0, .int .i64 0, .int .i64 0, .int .i64 0, .int .i64 0] T.a6_int) fun b_13 h_58 =>
 hcell h_58 (a_16.add 2) = some (.pointer t131) ∧
 Cl F.copies_Table_Counts #[.pointer t131] h_58 fun v_25 h_59 =>
 ∃ t132_0_6 t132_1_6 t132_2_6 t132_3_6 t132_4_6 t132_5_6, v_25 = .agg #[.int .i64 t132_0_6, .int .i64 t132_1_6, .int .i64 t132_2_6, .int .i64 t132_3_6, .int .i64 t132_4_6, .int .i64 t132_5_6] ∧
 a6_int.ST h_59 ⟨b_11, 0, none⟩ t127_0_1 t127_1_1 t127_2_1 t127_3_1 t127_4_1 t127_5_1 fun h_60 =>
 a6_int.ST h_60 ⟨b_13, 0, none⟩ t132_0_6 t132_1_6 t132_2_6 t132_3_6 t132_4_6 t132_5_6 fun h_61 =>
 J_4 (some ⟨b_11, 0, none⟩) (some ⟨b_13, 0, none⟩) h_61) ∧
 True) ∧
 (NewP h_52 (.cells #[.int .i64 0, .int .i64 0, .int .i64 0, .int .i64 0, .int .i64 0, .int .i64 0] T.a6_int) fun b_14 h_62 =>
 hcell h_62 (a_16.add 2) = some (.pointer t131) ∧
 hcell h_62 (a_15.add 2) = some (.pointer t126) ∧
 Cl F.copies_Table_Counts #[.pointer t126] h_62 fun v_26 h_63 =>
 ∃ t127_0_2 t127_1_2 t127_2_2 t127_3_2 t127_4_2 t127_5_2, v_26 = .agg #[.int .i64 t127_0_2, .int .i64 t127_1_2, .int .i64 t127_2_2, .int .i64 t127_3_2, .int .i64 t127_4_2, .int .i64 t127_5_2] ∧
 hcell h_63 (a_16.add 2) = some (.pointer t131) ∧
 Cl F.copies_Table_Counts #[.pointer t131] h_63 fun v_27 h_64 =>
 ∃ t132_0_7 t132_1_7 t132_2_7 t132_3_7 t132_4_7 t132_5_7, v_27 = .agg #[.int .i64 t132_0_7, .int .i64 t132_1_7, .int .i64 t132_2_7, .int .i64 t132_3_7, .int .i64 t132_4_7, .int .i64 t132_5_7] ∧
 a6_int.ST h_64 ⟨b_11, 0, none⟩ t127_0_2 t127_1_2 t127_2_2 t127_3_2 t127_4_2 t127_5_2 fun h_65 =>
 a6_int.ST h_65 ⟨b_14, 0, none⟩ t132_0_7 t132_1_7 t132_2_7 t132_3_7 t132_4_7 t132_5_7 fun h_66 =>
 J_4 (some ⟨b_11, 0, none⟩) (some ⟨b_14, 0, none⟩) h_66) ∧
 True) ∧
 (NewP h_15 (.cells #[.int .i64 0, .int .i64 0, .int .i64 0, .int .i64 0, .int .i64 0, .int .i64 0] T.a6_int) fun b_15 h_67 =>
 hcell h_67 (a_16.add 2) = some (.pointer t131) ∧
 hcell h_67 (a_15.add 2) = some (.pointer t126) ∧
 (Cl F.copies_Table_Counts #[.pointer t126] h_67 fun v_28 h_68 =>
 ∃ t127_0_3 t127_1_3 t127_2_3 t127_3_3 t127_4_3 t127_5_3, v_28 = .agg #[.int .i64 t127_0_3, .int .i64 t127_1_3, .int .i64 t127_2_3, .int .i64 t127_3_3, .int .i64 t127_4_3, .int .i64 t127_5_3] ∧
 hcell h_68 (a_16.add 2) = some (.pointer t131) ∧
 (Cl F.copies_Table_Counts #[.pointer t131] h_68 fun v_29 h_69 =>
 ∃ t132_0_8 t132_1_8 t132_2_8 t132_3_8 t132_4_8 t132_5_8, v_29 = .agg #[.int .i64 t132_0_8, .int .i64 t132_1_8, .int .i64 t132_2_8, .int .i64 t132_3_8, .int .i64 t132_4_8, .int .i64 t132_5_8] ∧
 NewP h_69 (.cells #[.int .i64 0, .int .i64 0, .int .i64 0, .int .i64 0, .int .i64 0, .int .i64 0] T.a6_int) fun b_16 h_70 =>
 a6_int.ST h_70 ⟨b_16, 0, none⟩ t127_0_3 t127_1_3 t127_2_3 t127_3_3 t127_4_3 t127_5_3 fun h_71 =>
 a6_int.ST h_71 ⟨b_15, 0, none⟩ t132_0_8 t132_1_8 t132_2_8 t132_3_8 t132_4_8 t132_5_8 fun h_72 =>
 J_4 (some ⟨b_16, 0, none⟩) (some ⟨b_15, 0, none⟩) h_72) ∧
 (NewP h_68 (.cells #[.int .i64 0, .int .i64 0, .int .i64 0, .int .i64 0, .int .i64 0, .int .i64 0] T.a6_int) fun b_17 h_73 =>
 hcell h_73 (a_16.add 2) = some (.pointer t131) ∧
 Cl F.copies_Table_Counts #[.pointer t131] h_73 fun v_30 h_74 =>
 ∃ t132_0_9 t132_1_9 t132_2_9 t132_3_9 t132_4_9 t132_5_9, v_30 = .agg #[.int .i64 t132_0_9, .int .i64 t132_1_9, .int .i64 t132_2_9, .int .i64 t132_3_9, .int .i64 t132_4_9, .int .i64 t132_5_9] ∧
 a6_int.ST h_74 ⟨b_17, 0, none⟩ t127_0_3 t127_1_3 t127_2_3 t127_3_3 t127_4_3 t127_5_3 fun h_75 =>
 a6_int.ST h_75 ⟨b_15, 0, none⟩ t132_0_9 t132_1_9 t132_2_9 t132_3_9 t132_4_9 t132_5_9 fun h_76 =>
 J_4 (some ⟨b_17, 0, none⟩) (some ⟨b_15, 0, none⟩) h_76) ∧
 True) ∧
 (NewP h_67 (.cells #[.int .i64 0, .int .i64 0, .int .i64 0, .int .i64 0, .int .i64 0, .int .i64 0] T.a6_int) fun b_18 h_77 =>
 hcell h_77 (a_16.add 2) = some (.pointer t131) ∧
 hcell h_77 (a_15.add 2) = some (.pointer t126) ∧
 Cl F.copies_Table_Counts #[.pointer t126] h_77 fun v_31 h_78 =>
 ∃ t127_0_4 t127_1_4 t127_2_4 t127_3_4 t127_4_4 t127_5_4, v_31 = .agg #[.int .i64 t127_0_4, .int .i64 t127_1_4, .int .i64 t127_2_4, .int .i64 t127_3_4, .int .i64 t127_4_4, .int .i64 t127_5_4] ∧
 hcell h_78 (a_16.add 2) = some (.pointer t131) ∧
 Cl F.copies_Table_Counts #[.pointer t131] h_78 fun v_32 h_79 =>
 ∃ t132_0_10 t132_1_10 t132_2_10 t132_3_10 t132_4_10 t132_5_10, v_32 = .agg #[.int .i64 t132_0_10, .int .i64 t132_1_10, .int .i64 t132_2_10, .int .i64 t132_3_10, .int .i64 t132_4_10, .int .i64 t132_5_10] ∧
 a6_int.ST h_79 ⟨b_18, 0, none⟩ t127_0_4 t127_1_4 t127_2_4 t127_3_4 t127_4_4 t127_5_4 fun h_80 =>
 a6_int.ST h_80 ⟨b_15, 0, none⟩ t132_0_10 t132_1_10 t132_2_10 t132_3_10 t132_4_10 t132_5_10 fun h_81 =>
 J_4 (some ⟨b_18, 0, none⟩) (some ⟨b_15, 0, none⟩) h_81) ∧
 True) ∧
 True))
 (fun J_3 =>
 if (decide (t114 > 0)) = true then
 onSome t21_0 fun a_17 =>
 ∃ t120, hcell h_14 (a_17.add 6) = some (.int .u64 t120) ∧
 Cl F.state_State_Pass #[.pointer t21_0, .int .u64 (IntKind.wrap .u64 (t120 - 1))] h_14 fun v_33 h_82 =>
 ∃ t122, v_33 = .int .i64 t122 ∧
 J_3 t122 h_82
 else
 J_3 18 h_14))
 (fun J_1 =>
 if (decide (i < ((ops_l : Nat) : Int))) = true then
 J_1 (decide (i < 40)) h_6
 else
 J_1 false h_6))
 (fun J =>
 if (t21_1 != 0) = true then
 J true h_4
 else
 if (t26_1 != 0) = true then
 J true h_4
 else
 Cl F.law26_whole #[.pointer t21_0] h_4 fun v_34 h_83 =>
 ∃ t37, v_34 = .bool t37 ∧
 if (!t37) = true then
 J true h_83
 else
 Cl F.law26_whole #[.pointer t26_0] h_83 fun v_35 h_84 =>
 ∃ t42, v_35 = .bool t42 ∧
 J (!t42) h_84)) : CallsH Tryz.prog F.law26_StatePasses #[.slice ops_p ops_l ops_c, .int .u16 a, .int .u16 b] h R :=
 callsH_of_body (.seq .leaf (.seq .leaf (.seq .leaf (.seq (.seq (.join [(44, .one (.bool))] .leaf) (.cond (.seq .leaf .leaf) .leaf)) (.seq (.seq .leaf (.block (.loop [(11, .one (.int .i64))] (.seq (.seq (.join [(52, .one (.bool))] .leaf) (.cond .leaf .leaf)) (.seq (.block (.seq (.seq (.join [(69, .one (.bool))] .leaf) (.cond (.seq .leaf .leaf) .leaf)) (.seq .leaf .leaf))) .leaf))))) (.seq .leaf (.seq .leaf (.seq .leaf (.seq .leaf (.seq .leaf (.seq (.seq .leaf (.join [(16, .one (.int .i64))] (.cond .leaf .leaf))) (.seq (.join [(17, .one (.ptr)), (18, .one (.ptr))] (.plan (.op 0 (.op 1 (.op 2 (.op 3 (.op 5 (.op 6 (.op 7 (.op 8 (.alts (.fork 4 (.alts (.fork 9 (.alts (.fork 10 (.op 11 (.op 12 (.op 13 .done))) (.fork 11 (.op 10 (.op 12 (.op 13 .done))) .noalt))) (.fork 10 (.alts (.fork 9 (.op 11 (.op 12 (.op 13 .done))) (.fork 11 (.op 9 (.op 12 (.op 13 .done))) .noalt))) (.fork 11 (.alts (.fork 9 (.op 10 (.op 12 (.op 13 .done))) (.fork 10 (.op 9 (.op 12 (.op 13 .done))) .noalt))) .noalt)))) (.fork 10 (.alts (.fork 4 (.alts (.fork 9 (.op 11 (.op 12 (.op 13 .done))) (.fork 11 (.op 9 (.op 12 (.op 13 .done))) .noalt))) (.fork 11 (.op 4 (.op 9 (.op 12 (.op 13 .done)))) .noalt))) (.fork 11 (.alts (.fork 4 (.alts (.fork 9 (.op 10 (.op 12 (.op 13 .done))) (.fork 10 (.op 9 (.op 12 (.op 13 .done))) .noalt))) (.fork 10 (.op 4 (.op 9 (.op 12 (.op 13 .done)))) .noalt))) .noalt)))))))))))))) (.seq (.plan (.op 0 (.op 1 (.op 2 (.op 3 (.op 4 (.op 5 (.op 6 (.op 7 (.op 8 (.op 9 (.op 10 (.op 11 (.op 12 (.op 13 (.op 14 (.op 15 (.op 16 (.op 17 (.op 18 (.op 19 (.op 20 (.op 21 (.op 22 (.op 23 (.op 24 (.op 25 (.op 26 (.op 28 (.op 29 (.op 30 (.op 31 (.op 27 (.op 32 (.op 33 (.op 34 (.op 35 (.op 36 (.op 37 (.op 38 (.op 39 (.op 41 (.op 42 (.op 43 (.op 44 (.op 40 (.op 45 (.op 46 (.op 47 (.op 48 (.op 49 (.op 50 (.op 51 (.op 52 (.op 53 (.op 54 (.op 55 (.op 56 (.op 57 (.op 58 (.op 59 (.op 60 (.op 61 (.op 62 (.op 63 (.op 64 (.op 65 (.op 66 (.op 67 .done))))))))))))))))))))))))))))))))))))))))))))))))))))))))))))))))))))) .leaf))))))))))))) Tryz.func7 rfl rfl (Eq.mp (by kernel_rfl) hv)
end Go.Proofs.YtgccegnmggjkjaaGreatDoor
set_option maxRecDepth 100000
namespace Go.Proofs.YtgccegnmggjkjaaGreatDoor
open Go.Den Go.Fields
namespace Stt
open Obx (It IV ienc ienc_len)
open Eid (Ev rightE ev5)
open Fld
variable {h h' : Heap} {R : Value → Heap → Prop} {s k : Nat} {X : Ft} {I : Ids} {σ : SS} {p : Option Addr}
abbrev e70 : Ev := ⟨true, 7, 0, ⟨#[]⟩, ⟨#[]⟩⟩
abbrev e71 : Ev := ⟨true, 7, 1, ⟨#[]⟩, ⟨#[]⟩⟩
theorem self_ok (hk : ∀ h', Fr (fun _ => False) h h' → R (ev5 e70) h') : CallsH Tryz.prog F.law26_Self #[] h R :=
  law26_Self.walk (eid_Eid.new fun _ h1 _ hb f1 => eid_Eid.ld hb (hk h1 f1))
theorem home_ok (hk : ∀ h', Fr (fun _ => False) h h' → R (ev5 e71) h') : CallsH Tryz.prog F.law26_home #[] h R :=
  law26_home.walk (eid_Eid.new fun _ h1 _ hb f1 => eid_Eid.ld hb (hk h1 f1))
theorem may70 : mayE e70 := ⟨by kernel_rfl, fun e => by cases congrArg Ev.ipn e⟩
theorem whole_ok {n r : Nat} (B : Bk h s I n r) (hk : R (.bool true) h) : CallsH Tryz.prog F.law26_whole #[pt s] h R := by
  refine law26_whole.walk ?_
  repeat (first | exact hk | refine ⟨_, cell_at B rfl, ?_⟩ | rw [if_pos rfl])
theorem tot_append {a b : List It} : tot (a ++ b) = tot a + tot b := by
  induction a with
  | nil => show tot b = 0 + tot b; omega
  | cons x a ih => rw [List.cons_append, tot_cons, tot_cons, ih]; omega
theorem own_append {a b : List It} {o : Int} : own (a ++ b) o = own a o + own b o := by unfold own; rw [List.filter_append, tot_append]
theorem take_own {l : List It} {j : Nat} {x : It} (hx : l[j]? = some x) (o : Int) : own (l.take (j + 1)) o = own (l.take j) o + (if x.owner = o then (x.d.length : Int) else 0) := by
  rw [List.take_add_one, hx, own_append]
  show _ + own [x] o = _
  rw [own_cons]; show _ + (_ + 0) = _; omega
theorem take_tot {l : List It} {j : Nat} {x : It} (hx : l[j]? = some x) : tot (l.take (j + 1)) = tot (l.take j) + (x.d.length : Int) := by
  rw [List.take_add_one, hx, tot_append]
  show _ + tot [x] = _
  rw [tot_cons]; show _ + (_ + 0) = _; omega
theorem take_le (l : List It) (j : Nat) : tot (l.take j) ≤ tot l ∧ ∀ o, own (l.take j) o ≤ own l o := by
  refine ⟨?_, fun o => ?_⟩
  · conv => rhs; rw [← List.take_append_drop j l]
    rw [tot_append]; have := tot_nn (l := l.drop j); omega
  · conv => rhs; rw [← List.take_append_drop j l]
    rw [own_append]; have := own_nn (l := l.drop j) (o := o); omega
theorem pure_ok (H : Pt h s X I σ) (G : Good σ k) (hk : ∀ h', Fr (fun _ => False) h h' → R (.bool true) h') : CallsH Tryz.prog F.law26_pure #[pt s] h R := by
  obtain ⟨Z, hz⟩ := H.box
  obtain ⟨L, okb⟩ := H.okB
  refine law26_pure.walk ⟨_, cell_at H.blk rfl, Obx.all_ok hz fun h1 p1 l1 c1 L1 f1 => ⟨_, _, _, rfl, ?_⟩⟩
  obtain ⟨xs, D, rfl, ox, ax, _⟩ := L1
  have H1 := H.on f1
  have le := okb.le
  have ln : xs.length = σ.B.items.length := by rw [← ax, List.length_map]
  obtain ⟨Z4, ⟨m, P, on⟩, _⟩ := H1.use 4
  have okq := G.ok
  have at_ : ∀ {j : Nat}, j < xs.length → ∃ x : IV, xs[j]? = some x ∧ σ.B.items[j]? = some x.abs := fun {j} hj => ⟨xs[j], List.getElem?_eq_getElem hj, by rw [← ax, List.getElem?_map, List.getElem?_eq_getElem hj]; rfl⟩
  have q := G.q
  obtain ⟨_, _, _, _, q1, q2⟩ := okq
  refine ⟨fun all i g => g = h1 ∧ ∃ j : Nat, i = (j : Int) ∧ j ≤ xs.length ∧ all = tot (σ.B.items.take j), fun _ i _ => xs.length - i.toNat, ⟨rfl, 0, rfl, Nat.zero_le _, rfl⟩, ?_⟩
  rintro _ _ g ⟨rfl, i, rfl, hi, rfl⟩
  by_cases hlt : i < xs.length
  · rw [if_pos (decide_eq_true (by omega))]
    obtain ⟨x, hx, hxi⟩ := at_ hlt
    obtain ⟨pb, po, rfl⟩ := ox.addr (by omega)
    have hh := ox.heldAt ienc_len hx
    have ci1 : hcell g (((⟨pb, po, none⟩ : Addr).add (Int.toNat (i : Int) * 4)).add 1) = some (.int .i64 x.owner) := by rw [Int.toNat_natCast]; exact hh.2.1
    have ci2 : hcell g (((⟨pb, po, none⟩ : Addr).add (Int.toNat (i : Int) * 4)).add 2) = some x.v.val := by rw [Int.toNat_natCast]; exact hh.2.2.1
    refine ⟨fun n i g' => g' = g ∧ ∃ j : Nat, i = (j : Int) ∧ j ≤ xs.length ∧ n = own (σ.B.items.take j) x.owner, fun _ i _ => xs.length - i.toNat, ⟨rfl, 0, rfl, Nat.zero_le _, rfl⟩, ?_⟩
    rintro _ _ g' ⟨rfl, j, rfl, hj, rfl⟩
    by_cases hlt2 : j < xs.length
    · rw [if_pos (decide_eq_true (by omega))]
      obtain ⟨y, hy, hyi⟩ := at_ hlt2
      have hh2 := ox.heldAt ienc_len hy
      have cj1 : hcell g' (((⟨pb, po, none⟩ : Addr).add (Int.toNat (j : Int) * 4)).add 1) = some (.int .i64 y.owner) := by rw [Int.toNat_natCast]; exact hh2.2.1
      have cj2 : hcell g' (((⟨pb, po, none⟩ : Addr).add (Int.toNat (j : Int) * 4)).add 2) = some y.v.val := by rw [Int.toNat_natCast]; exact hh2.2.2.1
      have t1 := take_own hyi x.owner
      have t2 := (take_le σ.B.items (j + 1)).2 x.owner
      have t3 := own_nn (l := σ.B.items.take j) (o := x.owner)
      have t4 := (q2 x.owner).2
      have t5 : (y.abs.d.length : Int) = (y.v.b.length : Int) := rfl
      have t6 : y.abs.owner = y.owner := rfl
      rw [q] at t4
      refine JoinP.of fun J hJ => ⟨⟨by omega, by omega⟩, onSome_some.2 ⟨_, cj1, ⟨by omega, by omega⟩, onSome_some.2 ⟨_, ci1, JoinP.of fun J1 hJ1 => ?_⟩⟩⟩
      have fin : ∀ n, n = own (σ.B.items.take (j + 1)) x.owner → J1 n g' := fun n hn => by
        subst hJ1; subst hJ
        dsimp only
        rw [wrap_id (by omega) (by omega)]
        exact ⟨⟨rfl, j + 1, by omega, by omega, hn⟩, by show xs.length - Int.toNat ((j : Int) + 1) < xs.length - Int.toNat (j : Int); omega⟩
      by_cases e : y.owner = x.owner
      · rw [if_pos (by simpa using e)]
        refine ⟨⟨by omega, by omega⟩, onSome_some.2 ⟨_, _, _, cj2, ?_⟩⟩
        rw [t6, if_pos e] at t1
        rw [wrap_id (by omega) (by omega)]
        exact fin _ (by omega)
      · rw [if_neg (by simpa using e)]
        rw [t6, if_neg e] at t1
        exact fin _ (by omega)
    · rw [if_neg (fun e => hlt2 (by have := of_decide_eq_true e; omega))]
      have ej : σ.B.items.take j = σ.B.items := List.take_of_length_le (by omega)
      rw [ej]
      refine ⟨_, cell_at H1.blk rfl, ⟨by omega, by omega⟩, onSome_some.2 ⟨_, ci1, Quota.used_ok P _ ⟨_, rfl, ?_⟩⟩⟩
      rw [q, if_neg (by simp)]
      have t1 := take_tot hxi
      have t2 := (take_le σ.B.items (i + 1)).1
      have t3 := tot_nn (l := σ.B.items.take i)
      have t5 : (x.abs.d.length : Int) = (x.v.b.length : Int) := rfl
      rw [q] at q1
      refine ⟨⟨by omega, by omega⟩, onSome_some.2 ⟨_, _, _, ci2, ?_⟩⟩
      rw [wrap_id (by omega) (by omega), wrap_id (by omega) (by omega)]
      exact ⟨⟨rfl, i + 1, by omega, by omega, by omega⟩, by show xs.length - Int.toNat ((i : Int) + 1) < xs.length - Int.toNat (i : Int); omega⟩
  · rw [if_neg (fun e => hlt (by have := of_decide_eq_true e; omega))]
    refine ⟨_, cell_at H1.blk rfl, Quota.all_ok P ⟨_, rfl, ?_⟩⟩
    rw [q, List.take_of_length_le (show σ.B.items.length ≤ i by omega)]
    rw [show (tot σ.B.items == tot σ.B.items) = true by simp]
    exact hk g f1
structure OP where
  kind : Int
  num : Int
  owner : Int
  p : Option Addr
  c : Nat
  b : List UInt8
  til : Nat
abbrev oenc (f : OP) : List Value := [.int .i64 f.kind, .int .i64 f.num, .int .i64 f.owner, .slice f.p f.b.length f.c, .int .u64 (f.til : Int)]
theorem oenc_len (f : OP) : (oenc f).length = 5 := rfl
theorem op_tl : tleaves Tryz.prog 5 T.law26_Op = some [T.int, T.int, T.int, T.s_uint8, T.uint64] := by kernel_rfl
theorem op_dec (n : Nat) (cs : List Value) (hl : cs.length = 5) (hr : Rok Tryz.prog h n T.law26_Op cs) : ∃ f : OP, cs = oenc f ∧ Row h f.p (bc f.b) ∧ f.til < 18446744073709551616 := by
  have L := tleaves_ok 5 n _ _ cs op_tl (by rw [hl]; rfl) hr
  match cs, hl with
  | [a, b, c, d, e], _ =>
    obtain ⟨k0, rfl, _⟩ := L.int 0 rfl rfl (k := .i64) (by kernel_rfl)
    obtain ⟨k1, rfl, _⟩ := L.int 1 rfl rfl (k := .i64) (by kernel_rfl)
    obtain ⟨k2, rfl, _⟩ := L.int 2 rfl rfl (k := .i64) (by kernel_rfl)
    obtain ⟨m, hm⟩ := L.get 3 rfl rfl
    obtain ⟨p, q, bs, rfl, hrow⟩ := Rok.bytes (by kernel_rfl) u8 uU hm
    obtain ⟨x, rfl, w1⟩ := L.int 4 rfl rfl (k := .u64) (by kernel_rfl)
    have w1 := wf_u64 w1
    obtain ⟨x, rfl⟩ := Int.eq_ofNat_of_zero_le w1.1
    exact ⟨⟨k0, k1, k2, p, q, bs, x⟩, rfl, hrow, by show x < _; omega⟩
theorem ops_read {l c : Nat} (hv : RokV Tryz.prog h T.s_law26_Op (.slice p l c)) : ∃ fs : List OP, fs.length = l ∧ Row h p (fs.flatMap oenc) ∧ ∀ f ∈ fs, Row h f.p (bc f.b) ∧ f.til < 18446744073709551616 := by
  obtain ⟨xs, h1, _, _, h2, h3⟩ := RokV.slice (e := T.law26_Op) oenc 5 (fun f => Row h f.p (bc f.b) ∧ f.til < 18446744073709551616) (by kernel_rfl) (fun _ => rfl) (fun n cs hl hr => op_dec n cs hl hr) (by kernel_rfl) hv
  exact ⟨xs, h1, h2, h3⟩
def doS (f : OP) (σ : SS) : SS :=
  if f.kind = 0 then passA σ f.til else if f.kind = 1 then putS σ f.owner f.b f.til else if f.kind = 2 then cancA σ f.num f.owner else if f.kind = 3 then takeA σ
  else if f.kind = 4 then { σ with A := Ses.openA σ.A f.til } else if f.kind = 5 then { σ with C := Cps.addF σ.C e71 f.b f.til } else σ
def doE (f : OP) (σ : SS) : Int × Int :=
  if f.kind = 0 then (passE σ f.til, 0) else if f.kind = 1 then (putE σ f.owner f.b f.til, putN σ f.owner f.b f.til) else if f.kind = 2 then (Obx.cancE σ.B f.num f.owner, 0)
  else if f.kind = 3 then (match σ.B.items with | [] => (4, 0) | x :: _ => (0, (x.num : Int))) else if f.kind = 4 then (Ses.openE σ.A f.til, Ses.openN σ.A f.til)
  else if f.kind = 5 then (Cps.addE σ.C e71 f.b f.til, Cps.addN σ.C e71 f.b f.til) else (0, 0)
def doR (f : OP) (σ : SS) : Int := IntKind.wrap .i64 (IntKind.wrap .i64 (100 * (doE f σ).2) + (doE f σ).1)
theorem Good.do (G : Good σ k) (H : Pt h s X I σ) (hk : k ≤ 30000) (f : OP) : Good (doS f σ) (k + 1) := by
  obtain ⟨L, okb⟩ := H.okB
  have O := H.ord
  unfold doS
  split
  · exact G.pass O L okb hk _
  split
  · exact G.put _ _ _
  split
  · exact G.canc _ _
  split
  · exact G.take
  split
  · exact G.openA _
  split
  · exact G.addC O hk _ (by decide) _ _
  · exact G.more
theorem do_ok (H : Pt h s X I σ) (G : Good σ k) (hk8 : k ≤ 30000) (f : OP) (rowf : Row h f.p (bc f.b)) (hb : f.b.length ≤ 1000000) (hpm : f.b ≠ [] → ∀ a, f.p = some a → ¬ X.M a.block)
    (hk : ∀ h' X', Pt h' s X' I (doS f σ) → StepF X h X' h' → R (.int .i64 (doR f σ)) h') : CallsH Tryz.prog F.law26_do #[pt s, .agg (oenc f).toArray] h R := by
  refine law26_do.walk (law26_Op.box fun b h1 eb hb1 f1 => ⟨_, cell_at hb1 rfl, JoinP.of fun J hJ => ?_⟩)
  have H1 := H.on f1
  have row1 := rowf.frame f1 (fun _ _ => id)
  have fin : ∀ g X', Pt g s X' I (doS f σ) → StepF X h1 X' g → J (doE f σ).1 (doE f σ).2 g := by
    intro g X' H' st
    subst hJ
    exact hk g X' H' (StepF.no f1 st)
  clear hJ hk
  refine JoinP.of fun J1 hJ1 => ?_
  subst hJ1
  by_cases k0 : f.kind = 0
  · have eS : doS f σ = passA σ f.til := if_pos k0
    have eE : doE f σ = (passE σ f.til, 0) := if_pos k0
    rw [eS, eE] at fin
    rw [if_pos (by simpa using k0)]
    exact ⟨_, cell_at hb1 rfl, pass_ok f.til rfl H1 G hk8 fun g X' H' st => ⟨_, rfl, fin g X' H' st⟩⟩
  rw [if_neg (by simpa using k0)]
  refine JoinP.of fun J2 hJ2 => ?_
  subst hJ2
  by_cases k1 : f.kind = 1
  · have eS : doS f σ = putS σ f.owner f.b f.til := (if_neg k0).trans (if_pos k1)
    have eE : doE f σ = (putE σ f.owner f.b f.til, putN σ f.owner f.b f.til) := (if_neg k0).trans (if_pos k1)
    rw [eS, eE] at fin
    rw [if_pos (by simpa using k1)]
    exact ⟨_, cell_at hb1 rfl, _, _, _, cell_at hb1 rfl, _, cell_at hb1 rfl, put_ok f.til rfl H1 G hk8 row1 rfl hb fun g X' H' st => ⟨_, _, rfl, fin g X' H' st⟩⟩
  rw [if_neg (by simpa using k1)]
  refine JoinP.of fun J3 hJ3 => ?_
  subst hJ3
  by_cases k2 : f.kind = 2
  · have eS : doS f σ = cancA σ f.num f.owner := (if_neg k0).trans ((if_neg k1).trans (if_pos k2))
    have eE : doE f σ = (Obx.cancE σ.B f.num f.owner, 0) := (if_neg k0).trans ((if_neg k1).trans (if_pos k2))
    rw [eS, eE] at fin
    rw [if_pos (by simpa using k2)]
    exact ⟨_, cell_at hb1 rfl, _, cell_at hb1 rfl, cancel_ok H1 G hk8 fun g X' H' st => ⟨_, rfl, fin g X' H' st⟩⟩
  rw [if_neg (by simpa using k2)]
  refine JoinP.of fun J4 hJ4 => ?_
  subst hJ4
  by_cases k3 : f.kind = 3
  · have eS : doS f σ = takeA σ := (if_neg k0).trans ((if_neg k1).trans ((if_neg k2).trans (if_pos k3)))
    have eE : doE f σ = (match σ.B.items with | [] => ((4, 0) : Int × Int) | x :: _ => (0, (x.num : Int))) := (if_neg k0).trans ((if_neg k1).trans ((if_neg k2).trans (if_pos k3)))
    rw [eS, eE] at fin
    rw [if_pos (by simpa using k3)]
    refine take_ok H1 G hk8 (fun hit g fg => ⟨_, _, _, _, _, _, _, rfl, outbox_Item.new fun b2 g2 eb2 hb2 f2 => ⟨_, cell_at hb2 rfl, ?_⟩⟩) (fun x r hit g X' v hva H' st hd => ⟨_, _, _, _, _, _, _, rfl, outbox_Item.new fun b2 g2 eb2 hb2 f2 => ⟨_, cell_at hb2 rfl, ?_⟩⟩)
    · have et : takeA σ = σ := by unfold takeA; rw [hit]
      rw [hit, et] at fin
      exact fin g2 X (H1.on (fg.tt f2)) (StepF.of_no (fg.tt f2))
    · rw [hit] at fin
      have ev : (x.num : Int) = (v.num : Int) := by rw [← hva]; rfl
      dsimp only at fin
      rw [ev] at fin
      exact fin g2 X' (H'.on f2) (st.on f2)
  rw [if_neg (by simpa using k3)]
  refine JoinP.of fun J5 hJ5 => ?_
  subst hJ5
  by_cases k4 : f.kind = 4
  · have eS : doS f σ = { σ with A := Ses.openA σ.A f.til } := (if_neg k0).trans ((if_neg k1).trans ((if_neg k2).trans ((if_neg k3).trans (if_pos k4))))
    have eE : doE f σ = (Ses.openE σ.A f.til, Ses.openN σ.A f.til) := (if_neg k0).trans ((if_neg k1).trans ((if_neg k2).trans ((if_neg k3).trans (if_pos k4))))
    rw [eS, eE] at fin
    rw [if_pos (by simpa using k4)]
    obtain ⟨Z, hz, zm, zd, go⟩ := H1.use 0
    refine ⟨_, cell_at H1.blk rfl, _, cell_at hb1 rfl, Ses.open_ok f.til rfl hz G.a fun g Z' A' st => ⟨_, _, rfl, ?_⟩⟩
    obtain ⟨X', H', st', _⟩ := go g Z' { σ with A := Ses.openA σ.A f.til } A' st (fun i hi => part_A _ hi)
    exact fin g X' H' st'
  rw [if_neg (by simpa using k4)]
  refine JoinP.of fun J6 hJ6 => ?_
  subst hJ6
  by_cases k5 : f.kind = 5
  · have eS : doS f σ = { σ with C := Cps.addF σ.C e71 f.b f.til } := (if_neg k0).trans ((if_neg k1).trans ((if_neg k2).trans ((if_neg k3).trans ((if_neg k4).trans (if_pos k5)))))
    have eE : doE f σ = (Cps.addE σ.C e71 f.b f.til, Cps.addN σ.C e71 f.b f.til) := (if_neg k0).trans ((if_neg k1).trans ((if_neg k2).trans ((if_neg k3).trans ((if_neg k4).trans (if_pos k5)))))
    rw [eS, eE] at fin
    rw [if_pos (by simpa using k5)]
    refine ⟨_, cell_at H1.blk rfl, _, _, _, cell_at hb1 rfl, _, cell_at hb1 rfl, home_ok fun h2 f2 => ⟨_, _, _, _, _, rfl, ?_⟩⟩
    have H2 := H1.on f2
    have hb2 := f2.get hb1 id
    obtain ⟨Z, hz, zm, zd, go⟩ := H2.use 2
    have hc := G.c.ok.cnt
    refine ⟨cell_at hb2 rfl, cell_at hb2 rfl, cell_at H2.blk rfl, Cps.add_ok hz (G.small H.ord (by omega)) (fun z hz => (G.c.ok.bd z hz).2.1) (by show 1 ≤ σ.C.next; omega) e71 f.til rfl (row1.frame f2 (fun _ _ => id)) rfl (fun hne a ea hm => hpm hne a ea (zm _ hm)) fun g Z' C' st => ⟨_, _, rfl, ?_⟩⟩
    obtain ⟨X', H', st', _⟩ := go g Z' { σ with C := Cps.addF σ.C e71 f.b f.til } C' st (fun i hi => part_C _ hi)
    exact fin g X' H' (StepF.no f2 st')
  rw [if_neg (by simpa using k5)]
  have eS : doS f σ = σ := (if_neg k0).trans ((if_neg k1).trans ((if_neg k2).trans ((if_neg k3).trans ((if_neg k4).trans (if_neg k5)))))
  have eE : doE f σ = (0, 0) := (if_neg k0).trans ((if_neg k1).trans ((if_neg k2).trans ((if_neg k3).trans ((if_neg k4).trans (if_neg k5)))))
  rw [eS, eE] at fin
  exact fin h1 X H1 (StepF.refl _ _)
abbrev a1 : SS := putS (newS e70) 3 [97, 98, 99] 50
abbrev a2 : SS := passA a1 9
theorem alive_ok (tb : Num.Tab h) (hk : ∀ h', Fr (fun _ => False) h h' → R (.bool true) h') : CallsH Tryz.prog F.law26_alive #[] h R := by
  refine law26_alive.walk (self_ok fun h1 f1 => ⟨_, _, _, _, _, rfl, new_ok e70 (fun _ h2 s X I H2 u2 => ⟨_, _, rfl, new_ok Ev.zero (fun m => absurd rfl m.2) fun _ h3 f3 => ⟨_, _, rfl, JoinP.of fun J hJ => ?_⟩⟩) (fun n => absurd may70 n)⟩)
  have H3 := H2.on f3
  have u3 := u2.on f3
  rw [if_neg (by decide), if_neg (by simp)]
  refine onSome_some.2 ⟨_, cell_at H3.blk rfl, ?_⟩
  rw [if_neg (by simp)]
  refine onSome_some.2 ⟨_, cell_at H3.blk rfl, ?_⟩
  subst hJ
  dsimp only
  rw [if_neg (by simp)]
  refine lit_ok (bs := [97, 98, 99]) rfl fun h4 r4 f4 => ?_
  have G0 : Good (newS e70) 0 := Good.new may70.1 may70.2 (by decide)
  refine put_ok 50 rfl (H3.on f4) G0 (by decide) r4 rfl (by decide) fun h5 X5 H5 s5 => ⟨_, _, rfl, onSome_some.2 ⟨_, cell_at H5.blk rfl, ?_⟩⟩
  have u5 := (u3.on f4).step s5
  obtain ⟨Z4, ⟨m4, P4, _⟩, _⟩ := H5.use 4
  refine Quota.used_ok P4 3 ⟨_, rfl, ?_⟩
  have G1 : Good a1 1 := G0.put _ _ _
  refine pass_ok 9 rfl H5 G1 (by decide) fun h6 X6 H6 s6 => ⟨_, rfl, ?_⟩
  obtain ⟨L5, okb5⟩ := H5.okB
  have G2 : Good a2 2 := G1.pass H5.ord L5 okb5 (by decide) _
  refine pass_ok 8 rfl H6 G2 (by decide) fun h7 X7 H7 s7 => ⟨_, rfl, ?_⟩
  have e8 : passA a2 8 = a2 := if_neg (fun e => absurd (show passE a2 8 = 18 by kernel_rfl) (by rw [e]; decide))
  rw [e8] at H7
  have it : a2.B.items = [⟨1, 3, [97, 98, 99], 50⟩] := by kernel_rfl
  refine take_ok H7 G2 (by decide) (fun e => by rw [it] at e; cases e) fun x r hit h8 X8 v hva H8 s8 hd => ⟨_, _, _, _, _, _, _, rfl, outbox_Item.new fun b h9 eb hb f9 => ?_⟩
  rw [it] at hit
  obtain ⟨rfl, rfl⟩ := List.cons.inj hit
  rw [if_pos (by kernel_rfl), if_pos (by kernel_rfl), if_pos (by kernel_rfl), if_pos (by kernel_rfl), if_pos (by kernel_rfl), if_pos (by kernel_rfl)]
  have vb : v.v.b = [97, 98, 99] := by rw [show v.v.b = v.abs.d from rfl, hva]
  have hd9 := hd.frame f9 (fun _ _ => id)
  refine ⟨_, _, _, cell_at hb rfl, _, conv hd9.row rfl, ?_⟩
  rw [str_list, vb, if_pos (by rw [toList_data]; decide), if_pos (by decide)]
  have H9 := H8.on f9
  have et : takeA a2 = { a2 with B := { a2.B with items := [], taken := a2.B.taken + 1 }, Q := [] } := by unfold takeA; rw [it]
  rw [et] at H9
  obtain ⟨Z5, ⟨m5, P5, _⟩, _⟩ := H9.use 4
  refine onSome_some.2 ⟨_, cell_at H9.blk rfl, Quota.all_ok P5 ⟨_, rfl, ?_⟩⟩
  rw [if_pos (by kernel_rfl)]
  refine onSome_some.2 ⟨_, cell_at H9.blk rfl, ?_⟩
  rw [if_pos (by kernel_rfl)]
  have u9 := ((((u5.step s6).step s7).step s8).on f9).fr
  have F9 := f1.tt u9
  have G3 : Good (takeA a2) 3 := G2.take
  rw [et] at G3
  refine save_ok H9 G3 (by decide) (tb.on F9) fun h10 p10 l10 c10 L10 f10 => ⟨_, _, _, rfl, ?_⟩
  have ln := L10.len
  have l3 : l10 = 3 := by rw [ln]; kernel_rfl
  rw [l3]
  exact hk h10 (F9.tt f10)
end Stt
end Go.Proofs.YtgccegnmggjkjaaGreatDoor
set_option maxRecDepth 100000
namespace Go.Proofs.YtgccegnmggjkjaaGreatDoor
open Go.Den Go.Fields
namespace Stt
open Obx (It IV ienc ienc_len)
open Eid (Ev rightE ev5)
open Fld
variable {h h' : Heap} {R : Value → Heap → Prop} {s k : Nat} {X : Ft} {I : Ids} {σ : SS} {p : Option Addr}
theorem filter2 {l : List It} {a b : Nat} (hab : a ≤ b) : (l.filter (fun x => decide ((a : Int) < (x.till : Int)))).filter (fun x => decide ((b : Int) < (x.till : Int))) = l.filter (fun x => decide ((b : Int) < (x.till : Int))) := by
  rw [List.filter_filter]
  refine List.filter_congr fun x _ => ?_
  by_cases q : (b : Int) < (x.till : Int)
  · rw [decide_eq_true q, decide_eq_true (by omega)]; rfl
  · rw [decide_eq_false q]; rfl
theorem free2 {a b : Nat} (hab : a ≤ b) (z : Cps.Cp) : Cps.freeZ (b : Int) (Cps.freeZ (a : Int) z) = Cps.freeZ (b : Int) z := by
  unfold Cps.freeZ
  by_cases q : z.ses ≠ 0 ∧ (z.dl : Int) ≤ (a : Int)
  · rw [if_pos q, if_neg (by simp), if_pos ⟨q.1, by omega⟩]
  · rw [if_neg q]
theorem pass_two {a b : Nat} (G : Good σ k) (hab : a ≤ b) (O : Cps.Ord σ.C) (O1 : Cps.Ord (passS σ a).C) (O2 : Cps.Ord (passS (passS σ a) b).C) (O' : Cps.Ord (passS σ b).C) {L1 L2 L3 : List Go.Heapq.E} (k1 : Obx.okB (passS σ a).B L1) (k2 : Obx.okB (passS (passS σ a) b).B L2) (k3 : Obx.okB (passS σ b).B L3) :
    passS (passS σ a) b = passS σ b := by
  obtain ⟨c1, _, n1, _, _, l1, a1, _, g1⟩ := Cps.pass_all2 G.c.ok O (a : Int)
  obtain ⟨c2, _, n2, _, _, l2, a2, _, g2⟩ := Cps.pass_all2 c1 O1 (b : Int)
  obtain ⟨c3, _, n3, _, _, l3, a3, _, g3⟩ := Cps.pass_all2 G.c.ok O (b : Int)
  have eL : (Cps.passF (Cps.passF σ.C (a : Int)) (b : Int)).L = (Cps.passF σ.C (b : Int)).L := by
    rw [l2, l1, l3, List.filter_map, List.map_map, List.filter_filter]
    have e1 : (Cps.freeZ (b : Int) ∘ Cps.freeZ (a : Int)) = Cps.freeZ (b : Int) := funext fun z => free2 hab z
    rw [e1]
    congr 1
    refine List.filter_congr fun z _ => ?_
    have et : (Cps.freeZ (a : Int) z).till = z.till := by unfold Cps.freeZ; split <;> rfl
    show (decide ((b : Int) < ((Cps.freeZ (a : Int) z).till : Int)) && decide ((a : Int) < (z.till : Int))) = _
    rw [et]
    by_cases q : (b : Int) < (z.till : Int)
    · rw [decide_eq_true q, decide_eq_true (by omega)]; rfl
    · rw [decide_eq_false q]; rfl
  have eC : (passS (passS σ a) b).C = (passS σ b).C := by
    refine Cps.state_ext c3 O' c2 O2 eL (n2.trans (n1.trans n3.symm)) (a2.trans (a1.trans a3.symm)) ?_ (g2.trans (g1.trans g3.symm))
    have q2 := c2.cnt
    have q3 := c3.cnt
    have el := congrArg List.length eL
    show (Cps.passF (Cps.passF σ.C (a : Int)) (b : Int)).over = (Cps.passF σ.C (b : Int)).over
    omega
  have eI : (passS (passS σ a) b).B.items = (passS σ b).B.items := filter2 hab
  have eB : (passS (passS σ a) b).B = (passS σ b).B := by
    have q2 := k2.cnt
    have q3 := k3.cnt
    rw [eI] at q2
    have x1 : (passS (passS σ a) b).B.next = σ.B.next := rfl
    have x2 : (passS σ b).B.next = σ.B.next := rfl
    have x3 : (passS (passS σ a) b).B.taken = σ.B.taken := rfl
    have x4 : (passS σ b).B.taken = σ.B.taken := rfl
    have x5 : (passS (passS σ a) b).B.canc = σ.B.canc := rfl
    have x6 : (passS σ b).B.canc = σ.B.canc := rfl
    have eo : (passS (passS σ a) b).B.over = (passS σ b).B.over := by omega
    show (⟨(passS (passS σ a) b).B.items, σ.B.next, σ.B.taken, σ.B.canc, (passS (passS σ a) b).B.over⟩ : Obx.BS) = ⟨(passS σ b).B.items, σ.B.next, σ.B.taken, σ.B.canc, (passS σ b).B.over⟩
    rw [eI, eo]
  show (⟨σ.A, σ.G, (passS (passS σ a) b).C, (passS (passS σ a) b).B, (passS (passS σ a) b).B.items, σ.e, σ.tm, σ.sq, b, σ.rf⟩ : SS) = ⟨σ.A, σ.G, (passS σ b).C, (passS σ b).B, (passS σ b).B.items, σ.e, σ.tm, σ.sq, b, σ.rf⟩
  rw [eC, eB]
theorem now_le (f : OP) {n : Nat} (h1 : σ.now ≤ n) (h2 : f.til ≤ n) : (doS f σ).now ≤ n := by
  unfold doS
  split
  · unfold passA; split
    · exact h2
    · exact h1
  split
  · unfold putS; split <;> exact h1
  split
  · exact h1
  split
  · unfold takeA; split <;> exact h1
  split
  · exact h1
  split <;> exact h1
theorem eq6 (a b c d e f : Int) : EqV Tryz.prog T.a6_int (.agg #[.int .i64 a, .int .i64 b, .int .i64 c, .int .i64 d, .int .i64 e, .int .i64 f]) (.agg #[.int .i64 a, .int .i64 b, .int .i64 c, .int .i64 d, .int .i64 e, .int .i64 f]) true := by
  have q : (a == a && (b == b && (c == c && (d == d && (e == e && (f == f && true)))))) = true := by simp
  rw [← q]
  exact EqV.of (by kernel_rfl)
theorem eq5 (a b c d e : Int) : EqV Tryz.prog T.a5_int (.agg #[.int .i64 a, .int .i64 b, .int .i64 c, .int .i64 d, .int .i64 e]) (.agg #[.int .i64 a, .int .i64 b, .int .i64 c, .int .i64 d, .int .i64 e]) true := by
  have q : (a == a && (b == b && (c == c && (d == d && (e == e && true))))) = true := by simp
  rw [← q]
  exact EqV.of (by kernel_rfl)
theorem passE_zero {n : Nat} (h1 : n ≤ 1099511627776) (h2 : σ.now ≤ n) : passE σ n = 0 := by
  unfold passE; rw [if_neg (by omega), if_neg (by omega)]
set_option maxHeartbeats 2000000 in
theorem _root_.Go.Proofs.YtgccegnmggjkjaaGreatDoor.statePasses_ok (op : Option Addr) (ol oc : Nat) (a b : Int) (hv : RokV Tryz.prog h T.s_law26_Op (.slice op ol oc)) (wa : (Lit.int .u16 a).wf = true) (wb : (Lit.int .u16 b).wf = true) (tb : Num.Tab h) : LawH Tryz.prog F.law26_StatePasses #[.slice op ol oc, .int .u16 a, .int .u16 b] h := by
  obtain ⟨fs, rfl, hrow, hok⟩ := ops_read hv
  have wa := wf_u16 wa
  have wb := wf_u16 wb
  clear hv
  obtain ⟨a, rfl⟩ := Int.eq_ofNat_of_zero_le wa.1
  obtain ⟨b, rfl⟩ := Int.eq_ofNat_of_zero_le wb.1
  unfold LawH
  generalize hR : (fun (v : Value) h' => v = .bool true ∧ Fr (fun _ => False) h h') = R
  have hk : ∀ h', Fr (fun _ => False) h h' → R (.bool true) h' := fun h' hf => by rw [← hR]; exact ⟨rfl, hf⟩
  clear hR
  refine law26_StatePasses.walk (self_ok fun h1 f1 => ⟨_, _, _, _, _, rfl, new_ok e70 (fun _ h2 s X I H2 u2 => ⟨_, _, rfl, self_ok fun h3 f3 => ⟨_, _, _, _, _, rfl, new_ok e70 (fun _ h4 t Y I' V4 w4 => ⟨_, _, rfl, JoinP.of fun J hJ => ?_⟩) (fun n => absurd may70 n)⟩⟩) (fun n => absurd may70 n)⟩)
  have H4 := H2.on (f3.tt w4.fr)
  have u4 : UpF h X h4 := ⟨f1.tt (u2.fr.tt (f3.tt w4.fr)), fun c hc => Nat.le_trans f1.1 (u2.ge c hc)⟩
  have v4 : UpF h Y h4 := ⟨u4.fr, fun c hc => Nat.le_trans (f1.tt (u2.fr.tt f3)).1 (w4.ge c hc)⟩
  have ap4 : ∀ c, X.M c ∨ X.D c → ¬ (Y.M c ∨ Y.D c) := fun c h1 h2 => by
    have := H2.lt c h1
    have := w4.ge c h2
    have := f3.1
    omega
  rw [if_neg (by decide), if_neg (by decide)]
  refine whole_ok H4.blk ⟨_, rfl, ?_⟩
  rw [if_neg (by decide)]
  refine whole_ok V4.blk ⟨_, rfl, ?_⟩
  subst hJ
  dsimp only
  rw [if_neg (by decide)]
  refine ⟨fun i g => ∃ (k : Nat) (X Y : Ft) (σ : SS), i = (k : Int) ∧ k ≤ 40 ∧ Pt g s X I σ ∧ Pt g t Y I' σ ∧ UpF h X g ∧ UpF h Y g ∧ (∀ c, X.M c ∨ X.D c → ¬ (Y.M c ∨ Y.D c)) ∧ Good σ k ∧ σ.now ≤ 549755813888, fun i _ => 40 - i.toNat,
    ⟨0, X, Y, newS e70, rfl, by omega, H4, V4, u4, v4, ap4, Good.new may70.1 may70.2 (by decide), by decide⟩, ?_⟩
  clear H4 V4 u4 v4 ap4 H2 u2 w4
  rintro _ g ⟨k, X, Y, σ, rfl, hk40, H, V, u, v, ap, G, hnow⟩
  refine JoinP.of fun J hJ => ?_
  by_cases hl : k < fs.length ∧ k < 40
  · have q1 : (k : Int) < ((fs.length : Nat) : Int) := by omega
    have q2 : (k : Int) < 40 := by omega
    rw [if_pos (decide_eq_true q1), decide_eq_true q2]
    subst hJ
    dsimp only
    rw [if_pos rfl]
    obtain ⟨f, hf⟩ : ∃ f, fs[k]? = some f := ⟨fs[k], List.getElem?_eq_getElem hl.1⟩
    obtain ⟨rowf, _⟩ := hok f (List.mem_of_getElem? hf)
    have row := hrow.frame u.fr (fun _ _ => id)
    obtain ⟨aa, rfl⟩ := row.some (by intro e; cases fs with | nil => simp at hf | cons => simp at e)
    have hh := row.heldAt oenc_len hf
    have c3 : hcell g ((aa.add (Int.toNat (k : Int) * 5)).add 3) = some (.slice f.p f.b.length f.c) := by rw [Int.toNat_natCast]; exact hh.2.2.2.1
    have c4 : hcell g ((aa.add (Int.toNat (k : Int) * 5)).add 4) = some (.int .u64 (f.til : Int)) := by rw [Int.toNat_natCast]; exact hh.2.2.2.2.1
    refine JoinP.of fun J2 hJ2 => ⟨⟨by omega, by omega⟩, onSome_some.2 ⟨_, _, _, c3, ?_⟩⟩
    have alive : ∀ g', Fr (fun _ => False) h g' → J2 true g' := fun g' f' => by
      subst hJ2
      dsimp only
      rw [if_pos rfl]
      exact alive_ok (tb.on f') fun h5 f5 => ⟨_, rfl, hk h5 (f'.tt f5)⟩
    by_cases g1 : f.b.length > 700
    · rw [if_pos (decide_eq_true (by omega))]
      exact alive g u.fr
    rw [if_neg (fun e => g1 (by have := of_decide_eq_true e; omega))]
    refine ⟨⟨by omega, by omega⟩, onSome_some.2 ⟨_, c4, ?_⟩⟩
    by_cases g2 : f.til > 549755813888
    · rw [decide_eq_true (by omega)]
      exact alive g u.fr
    rw [decide_eq_false (by omega)]
    clear alive
    subst hJ2
    dsimp only
    rw [if_neg (by decide)]
    have hpm : ∀ {g' : Heap} {Z : Ft}, UpF h Z g' → f.b ≠ [] → ∀ a, f.p = some a → ¬ Z.M a.block := fun {g' Z} w hne a ea hm => by
      have h1 := row_lt rowf (by cases hb : f.b with | nil => exact absurd hb hne | cons => simp [bc]) ⟨a, ea, rfl⟩
      have h2 := w.ge _ (.inl hm)
      omega
    refine ⟨⟨by omega, by omega⟩, onSome_some.2 (law26_Op.ldA (by rw [Int.toNat_natCast]; exact hh) (do_ok H G (by omega) f (rowf.frame u.fr (fun _ _ => id)) (by omega) (hpm u) fun g3 X3 H3 st3 => ⟨_, rfl, ?_⟩))⟩
    have u3 := u.step st3
    have row3 := hrow.frame u3.fr (fun _ _ => id)
    have V3 : Pt g3 t Y I' σ := V.frame st3.fr (fun y hy hm => ap y (.inl hm) hy)
    have v3 : UpF h Y g3 := ⟨u3.fr, v.ge⟩
    have ap3 : ∀ c, X3.M c ∨ X3.D c → ¬ (Y.M c ∨ Y.D c) := st3.apart ap (fun c hc => V.lt c hc)
    refine ⟨⟨by omega, by omega⟩, onSome_some.2 (law26_Op.ldA (by rw [Int.toNat_natCast]; exact row3.heldAt oenc_len hf) (do_ok V3 G (by omega) f (rowf.frame u3.fr (fun _ _ => id)) (by omega) (hpm v3) fun g4 Y4 V4 st4 => ⟨_, rfl, ?_⟩))⟩
    have v4 := v3.step st4
    have H4 : Pt g4 s X3 I (doS f σ) := H3.frame st4.fr (fun y hy hm => ap3 y hy (.inl hm))
    have ap4 : ∀ c, X3.M c ∨ X3.D c → ¬ (Y4.M c ∨ Y4.D c) := fun c h1 h2 => st4.apart (Q := fun c => X3.M c ∨ X3.D c) (fun c h3 h4 => ap3 c h4 h3) (fun c hc => H3.lt c hc) c h2 h1
    rw [wrap_id (by omega) (by omega)]
    exact ⟨⟨k + 1, X3, Y4, doS f σ, by omega, by omega, H4, V4, ⟨v4.fr, u3.ge⟩, v4, ap4, G.do H (by omega) f, now_le f hnow (by omega)⟩, by show 40 - Int.toNat ((k : Int) + 1) < 40 - Int.toNat (k : Int); omega⟩
  · have hJf : J false g := by
      subst hJ
      dsimp only
      rw [if_neg (by decide)]
      have e1 : IntKind.wrap .u64 ((σ.now : Int) + (IntKind.wrap .u64 (a : Int))) = ((σ.now + a : Nat) : Int) := by rw [wrap_u64 (n := (a : Int)) (by omega) (by omega), wrap_u64 (by omega) (by omega)]; omega
      have e2 : IntKind.wrap .u64 (IntKind.wrap .u64 ((σ.now : Int) + (IntKind.wrap .u64 (a : Int))) + IntKind.wrap .u64 (b : Int)) = ((σ.now + a + b : Nat) : Int) := by rw [e1, wrap_u64 (n := (b : Int)) (by omega) (by omega), wrap_u64 (by omega) (by omega)]; omega
      refine onSome_some.2 ⟨_, cell_at H.blk rfl, ?_⟩
      rw [e2, e1]
      obtain ⟨L0, okb0⟩ := H.okB
      have pE1 := passE_zero (σ := σ) (n := σ.now + a) (by omega) (by omega)
      refine pass_ok (σ.now + a) rfl H G (by omega) fun g1 X1 H1 st1 => ⟨_, rfl, ?_⟩
      have G1 := G.pass H.ord L0 okb0 (by omega) (σ.now + a)
      have eA1 : passA σ (σ.now + a) = passS σ (σ.now + a) := if_pos pE1
      rw [eA1] at H1 G1
      have pE2 := passE_zero (σ := passS σ (σ.now + a)) (n := σ.now + a + b) (by omega) (by show σ.now + a ≤ _; omega)
      refine pass_ok (σ.now + a + b) rfl H1 G1 (by omega) fun g2 X2 H2 st2 => ⟨_, rfl, ?_⟩
      obtain ⟨L1, okb1⟩ := H1.okB
      have G2 := G1.pass H1.ord L1 okb1 (by omega) (σ.now + a + b)
      have eA2 : passA (passS σ (σ.now + a)) (σ.now + a + b) = passS (passS σ (σ.now + a)) (σ.now + a + b) := if_pos pE2
      rw [eA2] at H2 G2
      have u2 := (u.step st1).step st2
      have V2 : Pt g2 t Y I' σ := V.frame (st1.trans st2).fr (fun y hy hm => ap y (.inl hm) hy)
      have ap2 : ∀ c, X2.M c ∨ X2.D c → ¬ (Y.M c ∨ Y.D c) := (st1.trans st2).apart ap (fun c hc => V.lt c hc)
      have pE3 := passE_zero (σ := σ) (n := σ.now + a + b) (by omega) (by omega)
      refine pass_ok (σ.now + a + b) rfl V2 G (by omega) fun g3 Y3 V3 st3 => ⟨_, rfl, ?_⟩
      have G3 := G.pass H.ord L0 okb0 (by omega) (σ.now + a + b)
      have eA3 : passA σ (σ.now + a + b) = passS σ (σ.now + a + b) := if_pos pE3
      rw [eA3] at V3 G3
      have H3 : Pt g3 s X2 I _ := H2.frame st3.fr (fun y hy hm => ap2 y hy (.inl hm))
      have v3 : UpF h Y3 g3 := (⟨u2.fr, v.ge⟩ : UpF h Y g2).step st3
      have u3 : UpF h X2 g3 := ⟨v3.fr, u2.ge⟩
      have ap3 : ∀ c, X2.M c ∨ X2.D c → ¬ (Y3.M c ∨ Y3.D c) := fun c h1 h2 => st3.apart (Q := fun c => X2.M c ∨ X2.D c) (fun c h3 h4 => ap2 c h4 h3) (fun c hc => H2.lt c hc) c h2 h1
      obtain ⟨L2, okb2⟩ := H2.okB
      obtain ⟨L3, okb3⟩ := V3.okB
      have two := pass_two (a := σ.now + a) (b := σ.now + a + b) G (by omega) H.ord H1.ord H2.ord V3.ord okb1 okb2 okb3
      rw [two] at H3 G2
      clear H2 okb1 okb2 okb3 two G3
      have hτ : (passS σ (σ.now + a + b)).now = σ.now + a + b := rfl
      have pE4 : ∀ n, n < σ.now + a + b → passE (passS σ (σ.now + a + b)) n = 18 := fun n hn => by
        unfold passE; rw [if_neg (by omega), if_pos (by rw [hτ]; exact hn)]
      generalize passS σ (σ.now + a + b) = τ at H3 V3 G2 hτ pE4
      rw [pE1, pE2, pE3]
      refine onSome_some.2 ⟨_, cell_at H3.blk rfl, JoinP.of fun J3 hJ3 => ?_⟩
      have fin : ∀ {g4 : Heap} {X' : Ft}, Pt g4 s X' I τ → Pt g4 t Y3 I' τ → Fr (fun _ => False) h g4 → J3 18 g4 := by
        intro g4 X' H4 V4 F4
        subst hJ3
        dsimp only
        have O4 := H4.ord
        have sm := G2.small O4 (by omega)
        obtain ⟨Z, hz, _⟩ := H4.use 2
        obtain ⟨Z', hz', _⟩ := V4.use 2
        refine JoinP.of fun J4 hJ4 => ?_
        have end_ : ∀ {g5 : Heap} {x y : Nat} {c0 c1 c2 c3 c4 c5 : Int}, a6_int.at g5 x c0 c1 c2 c3 c4 c5 → a6_int.at g5 y c0 c1 c2 c3 c4 c5 → Fr (fun _ => False) g4 g5 → J4 (some ⟨x, 0, none⟩) (some ⟨y, 0, none⟩) g5 := by
          intro g5 x y c0 c1 c2 c3 c4 c5 hx hy f5
          subst hJ4
          dsimp only
          have F5 := F4.tt f5
          refine alive_ok (tb.on F5) fun g6 f6 => ⟨_, rfl, ?_⟩
          rw [if_pos rfl, if_pos (by decide), if_pos (by decide), if_pos (by decide), if_pos (by decide)]
          have hx6 := f6.get hx id
          have hy6 := f6.get hy id
          refine onSome_some.2 (a6_int.ld hx6 (onSome_some.2 (a6_int.ld hy6 ⟨_, eq6 _ _ _ _ _ _, ?_⟩)))
          rw [if_pos rfl]
          have H6 := H4.on (f5.tt f6)
          have V6 := V4.on (f5.tt f6)
          obtain ⟨_, hb⟩ := H6.box
          have hn := G2.b
          refine onSome_some.2 ⟨_, cell_at H6.blk rfl, onSome_some.2 ⟨_, cell_at V6.blk rfl, Obx.counts_ok hb (by omega) fun g7 f7 => ⟨_, _, _, _, _, rfl, ?_⟩⟩⟩
          have H7 := H6.on f7
          have V7 := V6.on f7
          have hx7 := f7.get hx6 id
          have hy7 := f7.get hy6 id
          obtain ⟨_, hb'⟩ := V7.box
          refine ⟨cell_at V7.blk rfl, a6_int.held hy7, a6_int.held hx7, Obx.counts_ok hb' (by omega) fun g8 f8 => ⟨_, _, _, _, _, rfl, ?_⟩⟩
          have H8 := H7.on f8
          have V8 := V7.on f8
          have hx8 := f8.get hx7 id
          have hy8 := f8.get hy7 id
          refine ⟨a6_int.held hy8, a6_int.held hx8, _, eq5 _ _ _ _ _, ?_⟩
          rw [if_pos rfl]
          obtain ⟨_, ⟨m, P, _⟩, _⟩ := H8.use 4
          obtain ⟨_, ⟨m', P', _⟩, _⟩ := V8.use 4
          refine onSome_some.2 ⟨_, cell_at H8.blk rfl, onSome_some.2 ⟨_, cell_at V8.blk rfl, Quota.all_ok P ⟨_, rfl, cell_at V8.blk rfl, a6_int.held hy8, a6_int.held hx8, Quota.all_ok P' ⟨_, rfl, a6_int.held hy8, a6_int.held hx8, ?_⟩⟩⟩⟩
          rw [if_pos (by simp)]
          refine pure_ok H8 G2 fun g9 f9 => ⟨_, rfl, a6_int.held (f9.get hy8 id), a6_int.held (f9.get hx8 id), ?_⟩
          rw [if_pos rfl]
          refine pure_ok (V8.on f9) G2 fun g10 f10 => ⟨_, rfl, a6_int.held ((f9.tt f10).get hy8 id), a6_int.held ((f9.tt f10).get hx8 id), ?_⟩
          rw [if_pos rfl]
          refine onSome_some.2 ⟨_, cell_at (H8.on (f9.tt f10)).blk rfl, onSome_some.2 ⟨_, cell_at (V8.on (f9.tt f10)).blk rfl, ?_⟩⟩
          rw [show (((τ.now : Nat) : Int) == (τ.now : Int)) = true by simp]
          exact hk g10 (F5.tt (f6.tt (f7.tt (f8.tt (f9.tt f10)))))
        have cs : ∀ {g5 : Heap} {K : Int → Int → Int → Int → Int → Int → Heap → Prop}, Fr (fun _ => False) g4 g5 → (∀ g6, Fr (fun _ => False) g5 g6 → K ((τ.C.next : Int) - 1) ((τ.C.L.length : Int) - (τ.C.E2.length : Int)) (τ.C.E2.length : Int) (τ.C.acked : Int) (τ.C.over : Int) (τ.C.gone : Int) g6) →
            Cl F.copies_Table_Counts #[pt I.c] g5 fun v g6 => ∃ c0 c1 c2 c3 c4 c5, v = .agg #[.int .i64 c0, .int .i64 c1, .int .i64 c2, .int .i64 c3, .int .i64 c4, .int .i64 c5] ∧ K c0 c1 c2 c3 c4 c5 g6 := fun f5 hK =>
          Cps.counts_ok (Cps.Ct.on hz f5) sm fun g6 f6 => ⟨_, _, _, _, _, _, rfl, hK g6 f6⟩
        have ct : ∀ {g5 : Heap} {K : Int → Int → Int → Int → Int → Int → Heap → Prop}, Fr (fun _ => False) g4 g5 → (∀ g6, Fr (fun _ => False) g5 g6 → K ((τ.C.next : Int) - 1) ((τ.C.L.length : Int) - (τ.C.E2.length : Int)) (τ.C.E2.length : Int) (τ.C.acked : Int) (τ.C.over : Int) (τ.C.gone : Int) g6) →
            Cl F.copies_Table_Counts #[pt I'.c] g5 fun v g6 => ∃ c0 c1 c2 c3 c4 c5, v = .agg #[.int .i64 c0, .int .i64 c1, .int .i64 c2, .int .i64 c3, .int .i64 c4, .int .i64 c5] ∧ K c0 c1 c2 c3 c4 c5 g6 := fun f5 hK =>
          Cps.counts_ok (Cps.Ct.on hz' f5) sm fun g6 f6 => ⟨_, _, _, _, _, _, rfl, hK g6 f6⟩
        have B : ∀ {g}, Fr (fun _ => False) g4 g → Bk g s I τ.now τ.rf := fun f => f.get H4.blk id
        have C : ∀ {g}, Fr (fun _ => False) g4 g → Bk g t I' τ.now τ.rf := fun f => f.get V4.blk id
        have st : ∀ {g5 : Heap} {x y : Nat} {c0 c1 c2 c3 c4 c5 : Int}, a6_int.at g5 x 0 0 0 0 0 0 → a6_int.at g5 y 0 0 0 0 0 0 → x ≠ y → g4.size ≤ x → g4.size ≤ y → Fr (fun _ => False) g4 g5 →
            a6_int.ST g5 ⟨x, 0, none⟩ c0 c1 c2 c3 c4 c5 fun h1 => a6_int.ST h1 ⟨y, 0, none⟩ c0 c1 c2 c3 c4 c5 fun h2 => J4 (some ⟨x, 0, none⟩) (some ⟨y, 0, none⟩) h2 := by
          intro g5 x y c0 c1 c2 c3 c4 c5 hx hy ne gx gy f5
          refine a6_int.set hx fun h1 x1 z1 o1 => a6_int.set ((o1 y ne.symm).trans hy) fun h2 y2 z2 o2 => ?_
          exact end_ ((o2 x ne).trans x1) y2 ((f5.fresh (Fr.of_eq (S := fun c => c = x) z1 o1) (fun c e => by omega)).fresh (Fr.of_eq (S := fun c => c = y) z2 o2) (fun c e => by omega))
        have lt := @lt_of_get
        refine onSome_some.2 ⟨_, cell_at (B (Fr.refl _ _)) rfl, onSome_some.2 ⟨_, cell_at (C (Fr.refl _ _)) rfl, ?_, ?_, ?_, trivial⟩⟩
        · refine cs (Fr.refl _ _) fun g1 f1 => ⟨cell_at (C f1) rfl, ?_, ?_, ?_, trivial⟩
          · refine ct f1 fun g2 f2 => ⟨?_, ?_, trivial⟩
            · refine a6_int.box fun b1 g3 e1 x1 f3 => a6_int.box fun b2 g5 e2 x2 f5 => ?_
              have := lt x1; have z := (f1.tt f2).1; have := f3.1
              exact st (f5.get x1 id) x2 (by omega) (by omega) (by omega) (f1.tt (f2.tt (f3.tt f5)))
            · refine a6_int.box fun b1 g3 e1 x1 f3 => a6_int.box fun b2 g5 e2 x2 f5 => ?_
              have := lt x1; have z := (f1.tt f2).1; have := f3.1
              exact st x2 (f5.get x1 id) (by omega) (by omega) (by omega) (f1.tt (f2.tt (f3.tt f5)))
          · refine a6_int.box fun b1 g2 e1 x1 f2 => ⟨cell_at (C (f1.tt f2)) rfl, ?_, ?_, trivial⟩
            · refine ct (f1.tt f2) fun g3 f3 => a6_int.box fun b2 g5 e2 x2 f5 => ?_
              have := lt x1; have z := f1.1; have := f2.1; have := f3.1
              exact st ((f3.tt f5).get x1 id) x2 (by omega) (by omega) (by omega) (f1.tt (f2.tt (f3.tt f5)))
            · refine a6_int.box fun b2 g3 e2 x2 f3 => ⟨cell_at (C (f1.tt (f2.tt f3))) rfl, ct (f1.tt (f2.tt f3)) fun g5 f5 => ?_⟩
              have := lt x1; have z := f1.1; have := f2.1
              exact st ((f3.tt f5).get x1 id) (f5.get x2 id) (by omega) (by omega) (by omega) (f1.tt (f2.tt (f3.tt f5)))
          · refine a6_int.box fun b1 g2 e1 x1 f2 => ⟨cell_at (C (f1.tt f2)) rfl, ?_, ?_, trivial⟩
            · refine ct (f1.tt f2) fun g3 f3 => a6_int.box fun b2 g5 e2 x2 f5 => ?_
              have := lt x1; have z := f1.1; have := f2.1; have := f3.1
              exact st x2 ((f3.tt f5).get x1 id) (by omega) (by omega) (by omega) (f1.tt (f2.tt (f3.tt f5)))
            · refine a6_int.box fun b2 g3 e2 x2 f3 => ⟨cell_at (C (f1.tt (f2.tt f3))) rfl, ct (f1.tt (f2.tt f3)) fun g5 f5 => ?_⟩
              have := lt x1; have z := f1.1; have := f2.1
              exact st (f5.get x2 id) ((f3.tt f5).get x1 id) (by omega) (by omega) (by omega) (f1.tt (f2.tt (f3.tt f5)))
        · refine a6_int.box fun b1 g1 e1 x1 f1 => ⟨cell_at (C f1) rfl, cell_at (B f1) rfl, ?_, ?_, trivial⟩
          · refine cs f1 fun g2 f2 => ⟨cell_at (C (f1.tt f2)) rfl, ?_, ?_, trivial⟩
            · refine ct (f1.tt f2) fun g3 f3 => a6_int.box fun b2 g5 e2 x2 f5 => ?_
              have := lt x1; have z := f1.1; have := f2.1; have := f3.1
              exact st ((f2.tt (f3.tt f5)).get x1 id) x2 (by omega) (by omega) (by omega) (f1.tt (f2.tt (f3.tt f5)))
            · refine a6_int.box fun b2 g3 e2 x2 f3 => ⟨cell_at (C (f1.tt (f2.tt f3))) rfl, ct (f1.tt (f2.tt f3)) fun g5 f5 => ?_⟩
              have := lt x1; have z := f1.1; have := f2.1
              exact st ((f2.tt (f3.tt f5)).get x1 id) (f5.get x2 id) (by omega) (by omega) (by omega) (f1.tt (f2.tt (f3.tt f5)))
          · refine a6_int.box fun b2 g2 e2 x2 f2 => ⟨cell_at (C (f1.tt f2)) rfl, cell_at (B (f1.tt f2)) rfl, cs (f1.tt f2) fun g3 f3 => ⟨cell_at (C (f1.tt (f2.tt f3))) rfl, ct (f1.tt (f2.tt f3)) fun g5 f5 => ?_⟩⟩
            have := lt x1; have z := f1.1
            exact st ((f2.tt (f3.tt f5)).get x1 id) ((f3.tt f5).get x2 id) (by omega) (by omega) (by omega) (f1.tt (f2.tt (f3.tt f5)))
        · refine a6_int.box fun b1 g1 e1 x1 f1 => ⟨cell_at (C f1) rfl, cell_at (B f1) rfl, ?_, ?_, trivial⟩
          · refine cs f1 fun g2 f2 => ⟨cell_at (C (f1.tt f2)) rfl, ?_, ?_, trivial⟩
            · refine ct (f1.tt f2) fun g3 f3 => a6_int.box fun b2 g5 e2 x2 f5 => ?_
              have := lt x1; have z := f1.1; have := f2.1; have := f3.1
              exact st x2 ((f2.tt (f3.tt f5)).get x1 id) (by omega) (by omega) (by omega) (f1.tt (f2.tt (f3.tt f5)))
            · refine a6_int.box fun b2 g3 e2 x2 f3 => ⟨cell_at (C (f1.tt (f2.tt f3))) rfl, ct (f1.tt (f2.tt f3)) fun g5 f5 => ?_⟩
              have := lt x1; have z := f1.1; have := f2.1
              exact st (f5.get x2 id) ((f2.tt (f3.tt f5)).get x1 id) (by omega) (by omega) (by omega) (f1.tt (f2.tt (f3.tt f5)))
          · refine a6_int.box fun b2 g2 e2 x2 f2 => ⟨cell_at (C (f1.tt f2)) rfl, cell_at (B (f1.tt f2)) rfl, cs (f1.tt f2) fun g3 f3 => ⟨cell_at (C (f1.tt (f2.tt f3))) rfl, ct (f1.tt (f2.tt f3)) fun g5 f5 => ?_⟩⟩
            have := lt x1; have z := f1.1
            exact st ((f3.tt f5).get x2 id) ((f2.tt (f3.tt f5)).get x1 id) (by omega) (by omega) (by omega) (f1.tt (f2.tt (f3.tt f5)))
      by_cases hT : σ.now + a + b > 0
      · rw [if_pos (decide_eq_true (by rw [hτ]; omega))]
        refine onSome_some.2 ⟨_, cell_at H3.blk rfl, ?_⟩
        have e4 : IntKind.wrap .u64 ((τ.now : Int) - 1) = ((σ.now + a + b - 1 : Nat) : Int) := by rw [hτ, wrap_u64 (by omega) (by omega)]; omega
        refine pass_ok (σ.now + a + b - 1) e4 H3 G2 (by omega) fun g4 X4 H4 st4 => ⟨_, rfl, ?_⟩
        have e5 := pE4 (σ.now + a + b - 1) (by omega)
        have e6 : passA τ (σ.now + a + b - 1) = τ := if_neg (by rw [e5]; decide)
        rw [e6] at H4
        rw [e5]
        exact fin H4 (V3.frame st4.fr (fun y hy hm => ap3 y (.inl hm) hy)) (u3.step st4).fr
      · rw [if_neg (fun e => by have := of_decide_eq_true e; rw [hτ] at this; omega)]
        exact fin H3 V3 u3.fr
    by_cases q1 : k < fs.length
    · have q2 : ¬ k < 40 := fun e => hl ⟨q1, e⟩
      rw [if_pos (decide_eq_true (by omega)), decide_eq_false (by omega)]
      exact hJf
    · rw [if_neg (fun e => q1 (by have := of_decide_eq_true e; omega))]
      exact hJf
end Stt
end Go.Proofs.YtgccegnmggjkjaaGreatDoor
set_option maxRecDepth 100000
namespace Go.Proofs.YtgccegnmggjkjaaGreatDoor
open Go.Den
namespace Num
theorem Tab.of_laid {W : World} {l : List (String × DataW Unit)} {s : String} (hs : Tryz.prog.globalNamed s = some 0) (h : laidMet Tryz.prog l W) (hm : (s, Lib.tabData .u64 Lib.pow10Tab) ∈ l) : Tab W.heap := by
  obtain ⟨g, t, cs, fuel, p, hg, ht, hv, hd⟩ := Lib.laidMet.reads h hm
  have hg : Tryz.prog.globalNamed s = some g := hg
  unfold World.var? at hv
  rw [hg] at hv
  have hv' : (match W.heap[g]? with | some (.cells cs _ _) => some cs | _ => none) = some cs := hv
  cases hh : W.heap[g]? with
  | none => rw [hh] at hv'; cases hv'
  | some o =>
    rw [hh] at hv'
    cases o with
    | cells c ty fz =>
      obtain rfl : c = cs := Option.some.inj hv'
      have eg : g = 0 := Option.some.inj (hg.symm.trans hs)
      subst eg
      refine ⟨ty, fz, ?_⟩
      have htt : t = T.a20_uint64 := by
        have e : (Tryz.prog.globals[(0 : Nat)]?).map (·.type) = some T.a20_uint64 := by kernel_rfl
        exact Option.some.inj (ht.symm.trans e)
      subst htt
      have := Lib.cells_of_tab (n := 20) (e := T.uint64) (by kernel_rfl) (by kernel_rfl) (by kernel_rfl) (by kernel_rfl) hd
      rw [hh, ← this]
    | _ => cases hv'
end Num
end Go.Proofs.YtgccegnmggjkjaaGreatDoor
