/-
  What is proved here: what 'All' of package sessions tells. No condition.
-/
import Derived.Test.YtlnofnmdiddmkaaSesOps3
import Derived.Test.YtlnofnmdiddmkaaVcG
namespace Go.Proofs.Ytlnofnmdiddmkaa
open Go.Den Go.Fields
namespace Ses
open Fld
variable {h h' h0 : Heap} {t : Nat} {X : Ft} {R : Value → Heap → Prop} {p q : Option Addr} {c d i : Nat} {lab : Lab} {D : Nat → Prop} {L : List SC} {A : List Ses}

abbrev senc (s : SC) : List Value := [.int .i64 (s.num : Int), .int .u64 (s.token : Int), .bool s.up, .bool s.watch, .slice s.kp s.kept.length s.kc, .slice s.np s.notes.length s.nc]
theorem senc_len (s : SC) : (senc s).length = 6 := rfl
theorem tS : SlTy Try.prog T.s_sessions_Session T.sessions_Session 6 72 (.agg #[.int .i64 0, .int .u64 0, .bool false, .bool false, .slice none 0 0, .slice none 0 0]) := ⟨by kernel_rfl, by kernel_rfl, rfl⟩
theorem uSe : Try.prog.underlying T.s_sessions_Session = some (.slice T.sessions_Session) := by kernel_rfl
/-- a session's rows, told -/
structure SRow (h : Heap) (D : Nat → Prop) (s : SC) : Prop where
  k : Row h s.kp (s.kept.flatMap AV.enc)
  kD : s.kept ≠ [] → ∀ y, inBlk s.kp y → D y
  kd : ∀ a ∈ s.kept, a.v.ok h D
  n : Row h s.np (s.notes.flatMap nenc)
  nD : s.notes ≠ [] → ∀ y, inBlk s.np y → D y
  nd : ∀ n ∈ s.notes, n.ok h D
theorem SRow.frame {Q : Nat → Prop} {s : SC} (H : SRow h D s) (f : Fr Q h h') (hq : ∀ y, D y → ¬ Q y) : SRow h' D s := by
  refine ⟨?_, H.kD, fun a ha => (H.kd a ha).frame f hq, ?_, H.nD, fun a ha => (H.nd a ha).frame f hq⟩
  · by_cases e : s.kept = []
    · rw [e]; exact .inl rfl
    · exact H.k.frame f (fun a ea => hq _ (H.kD e _ ⟨a, ea, rfl⟩))
  · by_cases e : s.notes = []
    · rw [e]; exact .inl rfl
    · exact H.n.frame f (fun a ea => hq _ (H.nD e _ ⟨a, ea, rfl⟩))
theorem SRow.mono {D' : Nat → Prop} {s : SC} (H : SRow h D s) (hd : ∀ y, D y → D' y) : SRow h D' s :=
  ⟨H.k, fun e y hy => hd y (H.kD e y hy), fun a ha => (H.kd a ha).mono hd, H.n, fun e y hy => hd y (H.nD e y hy), fun a ha => (H.nd a ha).mono hd⟩
/-- sessions, told behind h0 -/
def SL (h0 h : Heap) (p : Option Addr) (l c : Nat) (A : List Ses) : Prop :=
  ∃ (xs : List SC) (D : Nat → Prop), l = xs.length ∧ Own h p l c 6 (xs.flatMap senc) ∧ xs.map SC.abs = A ∧ (∀ x ∈ xs, SRow h D x) ∧ (∀ y, D y → h0.size ≤ y ∧ y < h.size ∧ ¬ inBlk p y) ∧ ∀ y, inBlk p y → h0.size ≤ y
theorem SL.on {l : Nat} (H : SL h0 h p l c A) (f : Fr (fun _ => False) h h') : SL h0 h' p l c A := by
  obtain ⟨xs, D, h1, h2, h3, h4, h5, h6⟩ := H
  exact ⟨xs, D, h1, h2.frame f (fun _ _ => id), h3, fun x hx => (h4 x hx).frame f (fun _ _ => id), fun y hy => ⟨(h5 y hy).1, Nat.lt_of_lt_of_le (h5 y hy).2.1 f.1, (h5 y hy).2.2⟩, h6⟩
theorem SL.len {l : Nat} (H : SL h0 h p l c A) : l = A.length := by
  obtain ⟨xs, D, h1, _, h3, _⟩ := H
  rw [h1, ← h3, List.length_map]

/-- a copy under way: its block, its answers, its notes; all is new since g -/
structure Cp (g h : Heap) (b : Nat) (s : SC) (E : Nat → Prop) : Prop where
  fr : Fr (fun _ => False) g h
  blk : sessions_Session.at h b (s.num : Int) (s.token : Int) s.up s.watch s.kp s.kept.length s.kc s.np s.notes.length s.nc
  gb : g.size ≤ b
  ko : Own h s.kp s.kept.length s.kc 2 (s.kept.flatMap AV.enc)
  kg : ∀ y, inBlk s.kp y → g.size ≤ y ∧ y ≠ b ∧ ¬ E y
  no : Own h s.np s.notes.length s.nc 1 (s.notes.flatMap nenc)
  ng : ∀ y, inBlk s.np y → g.size ≤ y ∧ y ≠ b ∧ ¬ E y ∧ ¬ inBlk s.kp y
  kd : ∀ a ∈ s.kept, a.v.ok h E
  nd : ∀ n ∈ s.notes, n.ok h E
  eg : ∀ y, E y → g.size ≤ y ∧ y < h.size ∧ y ≠ b
/-- an answer is copied -/
theorem Cp.answer {g : Heap} {b : Nat} {s : SC} {E : Nat → Prop} {a : AV} {K : Heap → Prop} (C : Cp g h b s E) (hr : Row h a.v.p (bc a.v.b)) (hlb : a.v.b.length ≤ 1000) (hkl : s.kept.length ≤ 1000)
    (hk : ∀ h' s' E', Cp g h' b s' E' → s'.abs = { s.abs with kept := s.abs.kept ++ [a.abs] } → K h') :
    NewP h (.cells #[.int .u64 0, .slice none 0 0] T.sessions_Answer) fun b_1 h_12 =>
          StoreP h_12 ⟨b_1, 0, none⟩ (.int .u64 (a.id : Int)) fun h_13 =>
          StoreP h_13 ⟨b_1, 1, none⟩ (.slice a.v.p a.v.b.length a.v.c) fun h_14 =>
          ∃ (t37_p : Option Addr) (t37_l t37_c : Nat), hcell h_14 ⟨b, 4, none⟩ = some (.slice t37_p t37_l t37_c) ∧
          ∃ (t39 : Int), hcell h_14 ⟨b_1, 0, none⟩ = some (.int .u64 t39) ∧
          ∃ (t41_p : Option Addr) (t41_l t41_c : Nat), hcell h_14 ⟨b_1, 1, none⟩ = some (.slice t41_p t41_l t41_c) ∧
          CallsH Try.prog F.slices_Clone_s_byte_byte #[.slice t41_p t41_l t41_c] h_14 fun v h_15 =>
          ∃ (t42_p : Option Addr) (t42_l t42_c : Nat), v = .slice t42_p t42_l t42_c ∧
          hcell h_15 ⟨b_1, 0, none⟩ = some (.int .u64 t39) ∧
          hcell h_15 ⟨b, 4, none⟩ = some (.slice t37_p t37_l t37_c) ∧
          NewP h_15 (.cells #[.int .u64 t39, .slice t42_p t42_l t42_c] T.sessions_Answer) fun b_2 h_16 =>
          hcell h_16 ⟨b_1, 0, none⟩ = some (.int .u64 t39) ∧
          hcell h_16 ⟨b, 4, none⟩ = some (.slice t37_p t37_l t37_c) ∧
          denSem Try.prog (Builtin.append_ #[T.s_sessions_Answer, T.s_sessions_Answer] T.s_sessions_Answer #[.slice t37_p t37_l t37_c, .slice (some ⟨b_2, 0, none⟩) 1 1]) h_16 fun v_1 h_17 =>
          ∃ (t45_p : Option Addr) (t45_l t45_c : Nat), v_1 = .slice t45_p t45_l t45_c ∧
          hcell h_17 ⟨b_1, 0, none⟩ = some (.int .u64 t39) ∧
          StoreP h_17 ⟨b, 4, none⟩ (.slice t45_p t45_l t45_c) fun h_18 => K h_18 := by
  refine sessions_Answer.new fun b1 h14 eb1 hb1 f14 => ?_
  have k14 := f14.get C.blk id
  have zb : b < h.size := lt_of_get C.blk
  refine ⟨_, _, _, cell_at k14 rfl, _, cell_at hb1 rfl, _, _, _, cell_at hb1 rfl, clone_ok (hr.frame f14 (fun _ _ => id)) rfl (by omega) fun p15 c15 h15 o15 f15 g15 => ⟨_, _, _, rfl, cell_at (f15.get hb1 id) rfl, cell_at (f15.get k14 id) rfl, newP_of ?_⟩⟩
  have f16 : Fr (fun _ => False) h15 (h15.push (.cells #[.int .u64 (a.id : Int), .slice p15 a.v.b.length c15] T.sessions_Answer)) := Fr.push _ _
  have row16 : Row (h15.push (.cells #[.int .u64 (a.id : Int), .slice p15 a.v.b.length c15] T.sessions_Answer)) (some ⟨h15.size, 0, none⟩) (AV.enc ⟨a.id, ⟨p15, c15, a.v.b⟩⟩) := row_new (cs := AV.enc ⟨a.id, ⟨p15, c15, a.v.b⟩⟩)
  have sz16 : (h15.push (.cells #[.int .u64 (a.id : Int), .slice p15 a.v.b.length c15] T.sessions_Answer)).size = h15.size + 1 := Array.size_push _
  generalize h15.push (.cells #[.int .u64 (a.id : Int), .slice p15 a.v.b.length c15] T.sessions_Answer) = h16 at f16 row16 sz16 ⊢
  have f1416 := f15.tt f16
  have f016 := f14.tt f1416
  have k16 := f1416.get k14 id
  have b116 := f1416.get hb1 id
  refine ⟨cell_at b116 rfl, cell_at k16 rfl, ?_⟩
  have zh14 := f14.1
  have zh15 := f15.1
  have zg := C.fr.1
  have nkb : ∀ y, inBlk s.kp y → y ≠ b := fun y hy => (C.kg y hy).2.1
  have lk : ∀ y, inBlk s.kp y → y < h.size := fun y hy => C.ko.blk_lt hy
  refine den_append tA uA (C.ko.frame f016 (fun _ _ => id)) row16 rfl (fun v hv => by simp at hv; rcases hv with rfl | rfl <;> rfl) (by omega) (by omega) ?_
  intro p17 c17 h17 o17 _ f17 g17
  have b117 := f17.get b116 (fun hx => by have := lk _ hx; omega)
  refine ⟨_, _, _, rfl, cell_at b117 rfl, ?_⟩
  have k17 := f17.get k16 (fun hx => nkb _ hx rfl)
  refine storeP_blk k17 (by simp) fun h18 q1 q2 q3 => ?_
  have f18 : Fr (fun x => x = b) h17 h18 := Fr.of_eq q2 q3
  have F18 : Fr (fun x => x = b ∨ inBlk s.kp x) h h18 := (f016.mono (fun _ _ => False.elim)).tt ((f17.mono (fun _ _ hx => .inr hx)).tt (f18.mono (fun _ _ hx => .inl hx)))
  have z17 := f17.1
  have z18 := f18.1
  have n17 : ∀ y, inBlk p17 y → inBlk s.kp y ∨ h16.size ≤ y := g17
  have b15 : ∀ y, inBlk p15 y → h.size ≤ y ∧ y < h15.size := fun y hy => ⟨by have := g15 y hy; omega, o15.blk_lt hy⟩
  have o1518 : Own h18 p15 a.v.b.length c15 1 (bc a.v.b) := ((o15.frame f16 (fun _ _ => id)).frame f17 (fun y hy hx => by have := b15 y hy; have := lk y hx; omega)).frame f18 (fun y hy e => by have := b15 y hy; omega)
  have eQ : ∀ y, E y → ¬ (y = b ∨ inBlk s.kp y) := fun y hy hx => hx.elim (C.eg y hy).2.2 (fun hx => (C.kg y hx).2.2 hy)
  have o18 := o17.frame f18 (fun y hy e => (n17 y hy).elim (fun hx => nkb y hx e) (fun hx => by omega))
  refine hk h18 { s with kept := s.kept ++ [⟨a.id, ⟨p15, c15, a.v.b⟩⟩], kp := p17, kc := c17 } (fun y => E y ∨ inBlk p15 y) ⟨?_, ?_, C.gb, ?_, ?_, ?_, ?_, ?_, ?_, ?_⟩ ?_
  · exact C.fr.step F18 (fun y hy hx => hx.elim (fun e => by have := C.gb; omega) (fun hx => by have := (C.kg y hx).1; omega))
  · show h18[b]? = _
    rw [q1]
    dsimp only
    rw [List.length_append]; rfl
  · show Own h18 p17 (s.kept ++ [_]).length c17 2 ((s.kept ++ [_]).flatMap AV.enc)
    rw [List.length_append, List.flatMap_append]
    simpa using o18
  · intro y hy
    rcases n17 y hy with hx | hx
    · exact ⟨(C.kg y hx).1, (C.kg y hx).2.1, fun he => he.elim (C.kg y hx).2.2 (fun h2 => by have := b15 y h2; have := lk y hx; omega)⟩
    · exact ⟨by omega, by omega, fun he => he.elim (fun h2 => by have := (C.eg y h2).2.1; omega) (fun h2 => by have := b15 y h2; omega)⟩
  · exact C.no.frame F18 (fun y hy hx => hx.elim (C.ng y hy).2.1 (C.ng y hy).2.2.2)
  · intro y hy
    have hy' := C.ng y hy
    have ly : y < h.size := C.no.blk_lt hy
    exact ⟨hy'.1, hy'.2.1, fun he => he.elim hy'.2.2.1 (fun h2 => by have := b15 y h2; omega), fun hx => (n17 y hx).elim hy'.2.2.2 (fun h2 => by omega)⟩
  · intro x hx
    rcases List.mem_append.1 hx with hx | hx
    · exact ((C.kd x hx).frame F18 eQ).mono (fun y => .inl)
    · simp at hx; subst hx; exact BV.of_own o1518 (fun y => .inr)
  · intro x hx
    exact ((C.nd x hx).frame F18 eQ).mono (fun y => .inl)
  · rintro y (hy | hy)
    · exact ⟨(C.eg y hy).1, by have := (C.eg y hy).2.1; omega, (C.eg y hy).2.2⟩
    · exact ⟨by have := b15 y hy; omega, by have := b15 y hy; omega, by have := b15 y hy; omega⟩
  · unfold SC.abs
    dsimp only
    rw [List.map_append]; rfl
/-- a note is copied -/
theorem Cp.note {g : Heap} {b : Nat} {s : SC} {E : Nat → Prop} {n : BV} {K : Heap → Prop} (C : Cp g h b s E) (hr : Row h n.p (bc n.b)) (hlb : n.b.length ≤ 1000) (hkl : s.notes.length ≤ 1000)
    (hk : ∀ h' s' E', Cp g h' b s' E' → s'.abs = { s.abs with notes := s.abs.notes ++ [n.b] } → K h') :
    ∃ (t58_p : Option Addr) (t58_l t58_c : Nat), hcell h ⟨b, 5, none⟩ = some (.slice t58_p t58_l t58_c) ∧
              CallsH Try.prog F.slices_Clone_s_byte_byte #[.slice n.p n.b.length n.c] h fun v_2 h_20 =>
              ∃ (t60_p : Option Addr) (t60_l t60_c : Nat), v_2 = .slice t60_p t60_l t60_c ∧
              hcell h_20 ⟨b, 5, none⟩ = some (.slice t58_p t58_l t58_c) ∧
              NewP h_20 (.cells #[.slice t60_p t60_l t60_c] T.s_uint8) fun b_3 h_21 =>
              hcell h_21 ⟨b, 5, none⟩ = some (.slice t58_p t58_l t58_c) ∧
              denSem Try.prog (Builtin.append_ #[T.s_s_uint8, T.s_s_uint8] T.s_s_uint8 #[.slice t58_p t58_l t58_c, .slice (some ⟨b_3, 0, none⟩) 1 1]) h_21 fun v_3 h_22 =>
              ∃ (t62_p : Option Addr) (t62_l t62_c : Nat), v_3 = .slice t62_p t62_l t62_c ∧
              StoreP h_22 ⟨b, 5, none⟩ (.slice t62_p t62_l t62_c) fun h_23 => K h_23 := by
  have zb : b < h.size := lt_of_get C.blk
  refine ⟨_, _, _, cell_at C.blk rfl, clone_ok hr rfl (by omega) fun p15 c15 h15 o15 f15 g15 => ⟨_, _, _, rfl, cell_at (f15.get C.blk id) rfl, newP_of ?_⟩⟩
  have f16 : Fr (fun _ => False) h15 (h15.push (.cells #[.slice p15 n.b.length c15] T.s_uint8)) := Fr.push _ _
  have row16 : Row (h15.push (.cells #[.slice p15 n.b.length c15] T.s_uint8)) (some ⟨h15.size, 0, none⟩) (nenc ⟨p15, c15, n.b⟩) := row_new (cs := nenc ⟨p15, c15, n.b⟩)
  have sz16 : (h15.push (.cells #[.slice p15 n.b.length c15] T.s_uint8)).size = h15.size + 1 := Array.size_push _
  generalize h15.push (.cells #[.slice p15 n.b.length c15] T.s_uint8) = h16 at f16 row16 sz16 ⊢
  have f016 := f15.tt f16
  have k16 := f016.get C.blk id
  refine ⟨cell_at k16 rfl, ?_⟩
  have zh15 := f15.1
  have zg := C.fr.1
  have nkb : ∀ y, inBlk s.np y → y ≠ b := fun y hy => (C.ng y hy).2.1
  have lk : ∀ y, inBlk s.np y → y < h.size := fun y hy => C.no.blk_lt hy
  refine den_append tN uN (C.no.frame f016 (fun _ _ => id)) row16 rfl (fun v hv => by simp at hv; subst hv; rfl) (by omega) (by omega) ?_
  intro p17 c17 h17 o17 _ f17 g17
  refine ⟨_, _, _, rfl, ?_⟩
  have k17 := f17.get k16 (fun hx => nkb _ hx rfl)
  refine storeP_blk k17 (by simp) fun h18 q1 q2 q3 => ?_
  have f18 : Fr (fun x => x = b) h17 h18 := Fr.of_eq q2 q3
  have F18 : Fr (fun x => x = b ∨ inBlk s.np x) h h18 := (f016.mono (fun _ _ => False.elim)).tt ((f17.mono (fun _ _ hx => .inr hx)).tt (f18.mono (fun _ _ hx => .inl hx)))
  have z17 := f17.1
  have z18 := f18.1
  have n17 : ∀ y, inBlk p17 y → inBlk s.np y ∨ h16.size ≤ y := g17
  have b15 : ∀ y, inBlk p15 y → h.size ≤ y ∧ y < h15.size := fun y hy => ⟨g15 y hy, o15.blk_lt hy⟩
  have o1518 : Own h18 p15 n.b.length c15 1 (bc n.b) := ((o15.frame f16 (fun _ _ => id)).frame f17 (fun y hy hx => by have := b15 y hy; have := lk y hx; omega)).frame f18 (fun y hy e => by have := b15 y hy; omega)
  have eQ : ∀ y, E y → ¬ (y = b ∨ inBlk s.np y) := fun y hy hx => hx.elim (C.eg y hy).2.2 (fun hx => (C.ng y hx).2.2.1 hy)
  have o18 := o17.frame f18 (fun y hy e => (n17 y hy).elim (fun hx => nkb y hx e) (fun hx => by omega))
  refine hk h18 { s with notes := s.notes ++ [⟨p15, c15, n.b⟩], np := p17, nc := c17 } (fun y => E y ∨ inBlk p15 y) ⟨?_, ?_, C.gb, ?_, ?_, ?_, ?_, ?_, ?_, ?_⟩ ?_
  · exact C.fr.step F18 (fun y hy hx => hx.elim (fun e => by have := C.gb; omega) (fun hx => by have := (C.ng y hx).1; omega))
  · show h18[b]? = _
    rw [q1]
    dsimp only
    rw [List.length_append]; rfl
  · exact C.ko.frame F18 (fun y hy hx => hx.elim (C.kg y hy).2.1 (fun h2 => (C.ng y h2).2.2.2 hy))
  · intro y hy
    have hy' := C.kg y hy
    have ly : y < h.size := C.ko.blk_lt hy
    exact ⟨hy'.1, hy'.2.1, fun he => he.elim hy'.2.2 (fun h2 => by have := b15 y h2; omega)⟩
  · show Own h18 p17 (s.notes ++ [_]).length c17 1 ((s.notes ++ [_]).flatMap nenc)
    rw [List.length_append, List.flatMap_append]
    simpa using o18
  · intro y hy
    rcases n17 y hy with hx | hx
    · exact ⟨(C.ng y hx).1, (C.ng y hx).2.1, fun he => he.elim (C.ng y hx).2.2.1 (fun h2 => by have := b15 y h2; have := lk y hx; omega), (C.ng y hx).2.2.2⟩
    · exact ⟨by omega, by omega, fun he => he.elim (fun h2 => by have := (C.eg y h2).2.1; omega) (fun h2 => by have := b15 y h2; omega), fun h2 => by have := C.ko.blk_lt h2; omega⟩
  · intro x hx
    exact ((C.kd x hx).frame F18 eQ).mono (fun y => .inl)
  · intro x hx
    rcases List.mem_append.1 hx with hx | hx
    · exact ((C.nd x hx).frame F18 eQ).mono (fun y => .inl)
    · simp at hx; subst hx; exact BV.of_own o1518 (fun y => .inr)
  · rintro y (hy | hy)
    · exact ⟨(C.eg y hy).1, by have := (C.eg y hy).2.1; omega, (C.eg y hy).2.2⟩
    · exact ⟨by have := b15 y hy; omega, by have := b15 y hy; omega, by have := b15 y hy; omega⟩
  · unfold SC.abs
    dsimp only
    rw [List.map_append]; rfl

theorem all_ok (H : Has h t X A) (ok : okA A) (hk : ∀ h' p' l' c', SL h h' p' l' c' A → Fr (fun _ => False) h h' → R (.slice p' l' c') h') : CallsH Try.prog F.sessions_Table_All #[.pointer (some ⟨t, 0, none⟩)] h R := by
  obtain ⟨_, lab, L, TB, rfl, _, hS⟩ := H
  have hl := ok.le
  rw [List.length_map] at hl
  obtain ⟨tp, tc, htb, town, _⟩ := TB.blk
  refine sessions_Table_All.walk ⟨_, _, _, cell_at htb rfl, ?_⟩
  refine ⟨fun op ol oc i h1 => ∃ k : Nat, i = (k : Int) ∧ k ≤ L.length ∧ SL h h1 op ol oc ((L.map SC.abs).take k) ∧ Fr (fun _ => False) h h1, fun _ _ _ i _ => L.length - i.toNat, ⟨0, rfl, by omega, ⟨[], fun _ => False, rfl, .nil rfl rfl rfl rfl, rfl, (fun x hx => by cases hx), (fun y hy => hy.elim), fun y ⟨a, e, _⟩ => by cases e⟩, Fr.refl _ _⟩, ?_⟩
  rintro op ol oc _ g ⟨k, rfl, hkn, O, fg⟩
  have TBg := TB.on fg
  have htg := fg.get htb id
  have owng := town.frame fg (fun _ _ => id)
  have olen := O.len
  rw [List.length_take, List.length_map] at olen
  by_cases hlt : k < L.length
  · have q1 : (k : Int) < (L.length : Int) := by omega
    simp only [q1, decide_true, if_true, Int.toNat_natCast]
    have hs : L[k]? = some L[k] := List.getElem?_eq_getElem hlt
    generalize L[k] = s at hs
    have SA := TBg.ses k s hs
    have okS := ok.at_ k _ (abs_at hs)
    have kl : s.kept.length ≤ 6 := by have := okS.kl; rwa [show s.abs.kept.length = s.kept.length from List.length_map _] at this
    have nl : s.notes.length ≤ 6 := by have := okS.nl; rwa [show s.abs.notes.length = s.notes.length from List.length_map _] at this
    have kb : ∀ a ∈ s.kept, a.v.b.length ≤ 1000 := fun a ha => (okS.kd a.abs (List.mem_map_of_mem ha)).2
    have nb : ∀ a ∈ s.notes, a.b.length ≤ 1000 := fun a ha => by have := (okS.nd a.b (List.mem_map_of_mem ha)).2; omega
    obtain ⟨ab, aoff, rfl⟩ := owng.addr (by omega)
    refine ⟨⟨by first | trivial | omega, by first | trivial | omega⟩, onSome_some.2 ⟨some ⟨s.b, 0, none⟩, ?_, onSome_some.2 ?_⟩⟩
    · rw [Nat.mul_one]; exact owng.cell (by rw [List.getElem?_map, hs]; rfl)
    refine sessions_Session.ld SA.blk (sessions_Session.new fun b h8 eb hb8 f8 => ?_)
    refine storeP_blk hb8 (by simp) fun h9 a1 a2 a3 => storeP_blk a1 (by simp) fun h10 b1 b2 b3 => onSome_some.2 ?_
    have f10 : Fr (fun _ => False) g h10 := f8.step ((Fr.of_eq (S := fun x => x = b) a2 a3).tt (Fr.of_eq b2 b3)) (fun y hy e => by omega)
    have SA10 := SA.frame f10 (fun _ _ _ _ _ => id) (fun _ _ => id)
    refine ⟨_, _, _, cell_at SA10.blk rfl, ?_⟩
    have C10 : Cp g h10 b ⟨b, s.num, s.token, s.up, s.watch, [], none, 0, [], none, 0⟩ (fun _ => False) :=
      ⟨f10, b1, by omega, .nil rfl rfl rfl rfl, (fun y ⟨a, e, _⟩ => by cases e), .nil rfl rfl rfl rfl, (fun y ⟨a, e, _⟩ => by cases e), (fun a ha => by cases ha), (fun a ha => by cases ha), fun y hy => hy.elim⟩
    refine ⟨fun i h' => ∃ (j : Nat) (s' : SC) (E : Nat → Prop), i = (j : Int) ∧ j ≤ s.kept.length ∧ Cp g h' b s' E ∧ s'.abs = ⟨s.num, s.token, s.up, s.watch, s.abs.kept.take j, []⟩, fun i _ => s.kept.length - i.toNat, ⟨0, _, _, rfl, by omega, C10, rfl⟩, ?_⟩
    clear C10 SA10 f10 b1 b2 b3 a1 a2 a3 hb8 f8
    rintro _ h11 ⟨j, s', E, rfl, hj, C, hab⟩
    have SA11 := SA.frame C.fr (fun _ _ _ _ _ => id) (fun _ _ => id)
    by_cases hjl : j < s.kept.length
    · have q2 : (j : Int) < (s.kept.length : Int) := by omega
      simp only [q2, decide_true, if_true, Int.toNat_natCast]
      have ha : s.kept[j]? = some s.kept[j] := List.getElem?_eq_getElem hjl
      generalize s.kept[j] = a at ha
      have own11 := SA11.kown
      obtain ⟨kb', koff, hkp⟩ := own11.addr (by omega)
      rw [hkp] at own11
      refine ⟨⟨by first | trivial | omega, by first | trivial | omega⟩, ?_⟩
      rw [hkp]
      refine onSome_some.2 (sessions_Answer.ldA (own11.heldAt aenc_len ha) ?_)
      have s'l : s'.kept.length = j := by
        have := congrArg (fun x => x.kept.length) hab
        have e1 : s'.abs.kept.length = s'.kept.length := List.length_map _
        dsimp only at this
        rw [e1, List.length_take] at this
        have e2 : s.abs.kept.length = s.kept.length := List.length_map _
        omega
      refine C.answer (SA11.kd a (List.mem_of_getElem? ha)).row (kb a (List.mem_of_getElem? ha)) (by omega) fun h18 s18 E18 C18 hab18 => ?_
      rw [wrap_id (by omega) (by omega)]
      refine ⟨⟨j + 1, s18, E18, by omega, by omega, C18, ?_⟩, ?_⟩
      · rw [hab18, hab]
        dsimp only
        congr 1
        rw [List.take_add_one, show s.abs.kept[j]? = some a.abs by show (s.kept.map AV.abs)[j]? = _; rw [List.getElem?_map, ha]; rfl]; rfl
      · show s.kept.length - Int.toNat ((j : Int) + 1) < s.kept.length - Int.toNat (j : Int); omega
    · have q2 : ¬ (j : Int) < (s.kept.length : Int) := by omega
      simp only [q2, decide_false, Bool.false_eq_true, if_false]
      refine onSome_some.2 ⟨_, _, _, cell_at SA11.blk rfl, ?_⟩
      have hab0 : s'.abs = ⟨s.num, s.token, s.up, s.watch, s.abs.kept, s.abs.notes.take 0⟩ := by
        rw [hab, List.take_of_length_le (by have : s.abs.kept.length = s.kept.length := List.length_map _; omega)]; rfl
      refine ⟨fun i h' => ∃ (j : Nat) (s' : SC) (E : Nat → Prop), i = (j : Int) ∧ j ≤ s.notes.length ∧ Cp g h' b s' E ∧ s'.abs = ⟨s.num, s.token, s.up, s.watch, s.abs.kept, s.abs.notes.take j⟩, fun i _ => s.notes.length - i.toNat, ⟨0, s', E, rfl, by omega, C, hab0⟩, ?_⟩
      clear C SA11 hab hab0 hj hjl q2
      rintro _ h19 ⟨j, s', E, rfl, hj, C, hab⟩
      have SA19 := SA.frame C.fr (fun _ _ _ _ _ => id) (fun _ _ => id)
      by_cases hjl : j < s.notes.length
      · have q2 : (j : Int) < (s.notes.length : Int) := by omega
        simp only [q2, decide_true, if_true, Int.toNat_natCast]
        have ha : s.notes[j]? = some s.notes[j] := List.getElem?_eq_getElem hjl
        generalize s.notes[j] = a at ha
        have own19 := SA19.nown
        obtain ⟨nb', noff, hnp⟩ := own19.addr (by omega)
        rw [hnp] at own19
        refine ⟨⟨by first | trivial | omega, by first | trivial | omega⟩, ?_⟩
        rw [hnp]
        refine onSome_some.2 ⟨a.p, a.b.length, a.c, ?_, ?_⟩
        · have := (own19.heldAt nenc_len ha).1
          rwa [add_zero_addr] at this
        have s'l : s'.notes.length = j := by
          have := congrArg (fun x => x.notes.length) hab
          have e1 : s'.abs.notes.length = s'.notes.length := List.length_map _
          dsimp only at this
          rw [e1, List.length_take] at this
          have e2 : s.abs.notes.length = s.notes.length := List.length_map _
          omega
        refine C.note (SA19.nd a (List.mem_of_getElem? ha)).row (nb a (List.mem_of_getElem? ha)) (by omega) fun h18 s18 E18 C18 hab18 => ?_
        rw [wrap_id (by omega) (by omega)]
        refine ⟨⟨j + 1, s18, E18, by omega, by omega, C18, ?_⟩, ?_⟩
        · rw [hab18, hab]
          dsimp only
          congr 1
          rw [List.take_add_one, show s.abs.notes[j]? = some a.b by show (s.notes.map BV.b)[j]? = _; rw [List.getElem?_map, ha]; rfl]; rfl
        · show s.notes.length - Int.toNat ((j : Int) + 1) < s.notes.length - Int.toNat (j : Int); omega
      · have q2 : ¬ (j : Int) < (s.notes.length : Int) := by omega
        simp only [q2, decide_false, Bool.false_eq_true, if_false]
        have hab1 : s'.abs = s.abs := by
          rw [hab, List.take_of_length_le (by have : s.abs.notes.length = s.notes.length := List.length_map _; omega)]; rfl
        refine sessions_Session.ld C.blk ?_
        obtain ⟨xs, D, hx1, hx2, hx3, hx4, hx5, hx6⟩ := O
        have own19 := hx2.frame C.fr (fun _ _ => id)
        refine den_append1 tS uSe own19 rfl (fun v hv => by simp at hv; rcases hv with rfl | rfl | rfl | rfl | rfl | rfl <;> rfl) (by omega) (by omega) ?_
        intro p25 c25 h25 o25 f25 g25
        refine ⟨_, _, _, rfl, ?_⟩
        rw [wrap_id (by omega) (by omega)]
        have z19 := C.fr.1
        have zg := fg.1
        have opg : ∀ y, inBlk op y → y < g.size := fun y hy => hx2.blk_lt hy
        refine ⟨⟨k + 1, by omega, by omega, ⟨xs ++ [s'], fun y => D y ∨ E y ∨ inBlk s'.kp y ∨ inBlk s'.np y, by rw [List.length_append, hx1]; rfl, ?_, ?_, ?_, ?_, ?_⟩, ?_⟩, ?_⟩
        · rw [List.flatMap_append]; simpa using o25
        · rw [List.map_append, hx3, List.take_add_one, List.getElem?_map, hs]
          show _ ++ [s'.abs] = _ ++ [s.abs]
          rw [hab1]
        · intro x hx
          rcases List.mem_append.1 hx with hx | hx
          · refine (((hx4 x hx).frame C.fr (fun _ _ => id)).frame f25 (fun y hy => (hx5 y hy).2.2)).mono (fun y => .inl)
          · simp at hx; subst hx
            refine SRow.frame (h := h19) ⟨C.ko.row', fun _ y hy => .inr (.inr (.inl hy)), fun a ha => (C.kd a ha).mono (fun y hy => .inr (.inl hy)), C.no.row', fun _ y hy => .inr (.inr (.inr hy)), fun a ha => (C.nd a ha).mono (fun y hy => .inr (.inl hy))⟩ f25 ?_
            rintro y (hy | hy | hy | hy) ho
            · exact (hx5 y hy).2.2 ho
            · have := opg y ho; have := (C.eg y hy).1; omega
            · have := opg y ho; have := (C.kg y hy).1; omega
            · have := opg y ho; have := (C.ng y hy).1; omega
        · have z25 := f25.1
          rintro y (hy | hy | hy | hy)
          · exact ⟨(hx5 y hy).1, by have := (hx5 y hy).2.1; omega, fun ho => (g25 y ho).elim (hx5 y hy).2.2 (fun h2 => by have := (hx5 y hy).2.1; omega)⟩
          · have a := C.eg y hy
            exact ⟨by omega, by omega, fun ho => (g25 y ho).elim (fun h2 => by have := opg y h2; omega) (fun h2 => by omega)⟩
          · have a := C.kg y hy
            have b := C.ko.blk_lt hy
            exact ⟨by omega, by omega, fun ho => (g25 y ho).elim (fun h2 => by have := opg y h2; omega) (fun h2 => by omega)⟩
          · have a := C.ng y hy
            have b := C.no.blk_lt hy
            exact ⟨by omega, by omega, fun ho => (g25 y ho).elim (fun h2 => by have := opg y h2; omega) (fun h2 => by omega)⟩
        · intro y hy
          rcases g25 y hy with h2 | h2
          · exact hx6 y h2
          · omega
        · exact (fg.tt C.fr).step f25 (fun y hy ho => by have := hx6 y ho; omega)
        · show L.length - Int.toNat ((k : Int) + 1) < L.length - Int.toNat (k : Int); omega
  · have q1 : ¬ (k : Int) < (L.length : Int) := by omega
    simp only [q1, decide_false, Bool.false_eq_true, if_false]
    rw [List.take_of_length_le (by rw [List.length_map]; omega)] at O
    exact hk g op ol oc O fg
end Ses
end Go.Proofs.Ytlnofnmdiddmkaa
