/-
  What is proved here: what 'Save' of package sessions writes. No condition.
-/
import Derived.Test.YtlnofnmdiddmkaaSesAll
namespace Go.Proofs.Ytlnofnmdiddmkaa
open Go.Den Go.Fields
namespace Ses
open Fld
variable {h h' h0 : Heap} {t : Nat} {X : Ft} {R : Value → Heap → Prop} {p q : Option Addr} {c d i : Nat} {A : List Ses}

def headR (s : Ses) : List UInt8 := encNum s.num ++ encNum s.token ++ encNum (bit s.up) ++ encNum (bit s.watch) ++ encNum s.kept.length ++ encNum s.notes.length
def ansR (a : Nat × List UInt8) : List UInt8 := encNum a.1 ++ encText a.2
def recS (s : Ses) : List (List UInt8) := headR s :: (s.kept.map ansR ++ s.notes.map encText)
def recs (A : List Ses) : List (List UInt8) := A.flatMap recS
theorem recS_len (s : Ses) : (recS s).length = 1 + s.kept.length + s.notes.length := by unfold recS; simp; omega
theorem recs_le (ok : okA A) : (recs A).length ≤ 13 * A.length := by
  have key : ∀ B : List Ses, (∀ s ∈ B, s.kept.length ≤ 6 ∧ s.notes.length ≤ 6) → (recs B).length ≤ 13 * B.length := by
    intro B
    induction B with
    | nil => intro _; simp [recs]
    | cons s B ih =>
      intro hB
      have h1 := hB s List.mem_cons_self
      have h2 := ih (fun x hx => hB x (List.mem_cons_of_mem _ hx))
      unfold recs at *
      rw [List.flatMap_cons, List.length_append, recS_len, List.length_cons]
      omega
  refine key A fun s hs => ?_
  obtain ⟨i, hi⟩ := List.getElem?_of_mem hs
  exact ⟨(ok.at_ i s hi).kl, (ok.at_ i s hi).nl⟩

theorem save_ok (H : Has h t X A) (ok : okA A) (hk : ∀ h' p' l' c', BL h h' p' l' c' (recs A) → Fr (fun _ => False) h h' → R (.slice p' l' c') h') : CallsH Try.prog F.sessions_Table_Save #[.pointer (some ⟨t, 0, none⟩)] h R := by
  refine sessions_Table_Save.walk (all_ok H ok fun h1 p1 l1 c1 O1 f1 => ⟨_, _, _, rfl, ?_⟩)
  obtain ⟨xs, D, rfl, hx2, rfl, hx4, hx5, hx6⟩ := O1
  have hxl := ok.le
  rw [List.length_map] at hxl
  refine ⟨fun op ol oc i h2 => ∃ k : Nat, i = (k : Int) ∧ k ≤ xs.length ∧ BL h1 h2 op ol oc (recs ((xs.map SC.abs).take k)) ∧ ol ≤ 13 * k ∧ Fr (fun _ => False) h1 h2, fun _ _ _ i _ => xs.length - i.toNat, ⟨0, rfl, by omega, BL.nil, by omega, Fr.refl _ _⟩, ?_⟩
  rintro op ol oc _ g ⟨k, rfl, hkn, B, hol, fg⟩
  by_cases hlt : k < xs.length
  · have q1 : (k : Int) < (xs.length : Int) := by omega
    simp only [q1, decide_true, if_true, Int.toNat_natCast]
    have hs : xs[k]? = some xs[k] := List.getElem?_eq_getElem hlt
    generalize xs[k] = s at hs
    have hsA : (xs.map SC.abs)[k]? = some s.abs := by rw [List.getElem?_map, hs]; rfl
    have okS := ok.at_ k _ hsA
    have kl : s.kept.length ≤ 6 := by have := okS.kl; rwa [show s.abs.kept.length = s.kept.length from List.length_map _] at this
    have nl : s.notes.length ≤ 6 := by have := okS.nl; rwa [show s.abs.notes.length = s.notes.length from List.length_map _] at this
    have onum : s.num = k + 1 := okS.num
    have otk : s.token ≤ 2147483648 := okS.tk.2
    have kb : ∀ a ∈ s.kept, a.id ≤ 1099511627776 ∧ a.v.b.length ≤ 1000 := fun a ha => okS.kd a.abs (List.mem_map_of_mem ha)
    have nb : ∀ a ∈ s.notes, a.b.length ≤ 600 := fun a ha => (okS.nd a.b (List.mem_map_of_mem ha)).2
    have owng := hx2.frame fg (fun _ _ => id)
    have SRg : ∀ {h' : Heap}, Fr (fun _ => False) g h' → SRow h' D s := fun f => (hx4 s (List.mem_of_getElem? hs)).frame (fg.tt f) (fun _ _ => id)
    obtain ⟨ab, aoff, rfl⟩ := owng.addr (by omega)
    have zg := fg.1
    have zh := f1.1
    refine ⟨⟨by first | trivial | omega, by first | trivial | omega⟩, onSome_some.2 (sessions_Session.ldA (owng.heldAt senc_len hs) (sessions_Session.new fun b h9 eb hb9 f9 => ?_))⟩
    refine ⟨_, cell_at hb9 rfl, _, cell_at hb9 rfl, _, cell_at hb9 rfl, _, cell_at hb9 rfl, _, _, _, cell_at hb9 rfl, _, _, _, cell_at hb9 rfl, ?_⟩
    refine Fld.new_ok fun h10 w S10 W10 f10 g10 => ⟨_, rfl, ?_⟩
    have u10 : Up h9 S10 h10 := ⟨f10, g10⟩
    have nbS : ∀ {S : Nat → Prop} {h' : Heap}, Up h9 S h' → ¬ S b := fun u hx => by have := u.ge b hx; have := lt_of_get hb9; omega
    have b10 := f10.get hb9 id
    refine ⟨cell_at b10 rfl, cell_at b10 rfl, cell_at b10 rfl, cell_at b10 rfl, cell_at b10 rfl, cell_at b10 rfl, ?_⟩
    refine int_ok W10 (by simp) (by omega) fun h11 S11 W11 s11 => ⟨_, rfl, ?_⟩
    have b11 := s11.fr.get b10 (nbS u10)
    have u11 := u10.step s11
    have e1 : natOf (s.num : Int) = s.num := by unfold natOf; omega
    rw [e1, List.nil_append] at W11
    have l1 := (encNum_len s.num).2
    refine ⟨cell_at b11 rfl, cell_at b11 rfl, cell_at b11 rfl, cell_at b11 rfl, cell_at b11 rfl, ?_⟩
    refine num_ok s.token W11 (by omega) rfl (by omega) fun h12 S12 W12 s12 => ⟨_, rfl, ?_⟩
    have b12 := s12.fr.get b11 (nbS u11)
    have u12 := u11.step s12
    have l2 := (encNum_len s.token).2
    refine ⟨cell_at b12 rfl, cell_at b12 rfl, cell_at b12 rfl, cell_at b12 rfl, ?_⟩
    refine bool_ok W12 (by rw [List.length_append]; omega) fun h13 S13 W13 s13 => ⟨_, rfl, ?_⟩
    have b13 := s13.fr.get b12 (nbS u12)
    have u13 := u12.step s13
    have l3 := (encNum_len (bit s.up)).2
    refine ⟨cell_at b13 rfl, cell_at b13 rfl, cell_at b13 rfl, ?_⟩
    refine bool_ok W13 (by simp only [List.length_append]; omega) fun h14 S14 W14 s14 => ⟨_, rfl, ?_⟩
    have b14 := s14.fr.get b13 (nbS u13)
    have u14 := u13.step s14
    have l4 := (encNum_len (bit s.watch)).2
    refine ⟨cell_at b14 rfl, cell_at b14 rfl, ?_⟩
    refine int_ok W14 (by simp only [List.length_append]; omega) (by omega) fun h15 S15 W15 s15 => ⟨_, rfl, ?_⟩
    have b15 := s15.fr.get b14 (nbS u14)
    have u15 := u14.step s15
    have e5 : natOf ((s.kept.length : Nat) : Int) = s.kept.length := by unfold natOf; omega
    rw [e5] at W15
    have l5 := (encNum_len s.kept.length).2
    refine ⟨cell_at b15 rfl, cell_at b15 rfl, ?_⟩
    refine int_ok W15 (by simp only [List.length_append]; omega) (by omega) fun h16 S16 W16 s16 => ⟨_, rfl, ?_⟩
    have b16 := s16.fr.get b15 (nbS u15)
    have u16 := u15.step s16
    have e6 : natOf ((s.notes.length : Nat) : Int) = s.notes.length := by unfold natOf; omega
    rw [e6] at W16
    have l6 := (encNum_len s.notes.length).2
    refine ⟨cell_at b16 rfl, cell_at b16 rfl, ?_⟩
    have eh : encNum s.num ++ encNum s.token ++ encNum (bit s.up) ++ encNum (bit s.watch) ++ encNum s.kept.length ++ encNum s.notes.length = headR s.abs := by
      unfold headR
      rw [show s.abs.kept.length = s.kept.length from List.length_map _, show s.abs.notes.length = s.notes.length from List.length_map _]; rfl
    have hl6 : (headR s.abs).length ≤ 60 := by rw [← eh]; simp only [List.length_append]; omega
    rw [eh] at W16
    refine bytes_ok W16 (by omega) fun q17 d17 h17 o17 f17 g17 => ⟨_, _, _, rfl, ?_⟩
    have b17 := f17.get b16 id
    refine ⟨cell_at b17 rfl, cell_at b17 rfl, ?_⟩
    have F17 : Fr (fun _ => False) g h17 := f9.tt (u16.fr.tt f17)
    have z9 := f9.1
    have z16 := u16.fr.1
    have zF17 := F17.1
    -- the head is put behind: between the two steps the block b is asked for again
    obtain ⟨ys, DB, hy1, hy2, hy3, hy4, hy5, hy6⟩ := B
    refine newP_of ?_
    have f18 : Fr (fun _ => False) h17 (h17.push (.cells #[.slice q17 (headR s.abs).length d17] T.s_uint8)) := Fr.push _ _
    have row18 : Row (h17.push (.cells #[.slice q17 (headR s.abs).length d17] T.s_uint8)) (some ⟨h17.size, 0, none⟩) (nenc ⟨q17, d17, headR s.abs⟩) := row_new (cs := nenc ⟨q17, d17, headR s.abs⟩)
    have sz18 : (h17.push (.cells #[.slice q17 (headR s.abs).length d17] T.s_uint8)).size = h17.size + 1 := Array.size_push _
    generalize h17.push (.cells #[.slice q17 (headR s.abs).length d17] T.s_uint8) = h18 at f18 row18 sz18 ⊢
    have b18 := f18.get b17 id
    refine ⟨cell_at b18 rfl, cell_at b18 rfl, ?_⟩
    have opg : ∀ y, inBlk op y → y < g.size := fun y hy => hy2.blk_lt hy
    have nbo : ¬ inBlk op b := fun hx => by have := opg b hx; omega
    refine den_append tN uN ((hy2.frame F17 (fun _ _ => id)).frame f18 (fun _ _ => id)) row18 rfl (fun v hv => by simp at hv; subst hv; rfl) (by omega) (by omega) ?_
    intro p19 c19 h19 o19 _ f19 g19
    have b19 := f19.get b18 nbo
    refine ⟨_, _, _, rfl, cell_at b19 rfl, cell_at b19 rfl, ?_⟩
    have z19 := f19.1
    have b17' : ∀ y, inBlk q17 y → h16.size ≤ y ∧ y < h17.size := fun y hy => ⟨g17 y hy, o17.blk_lt hy⟩
    have B19 : BL h1 h19 p19 (ol + 1) c19 (recs ((xs.map SC.abs).take k) ++ [headR s.abs]) := by
      refine ⟨ys ++ [⟨q17, d17, headR s.abs⟩], fun y => DB y ∨ inBlk q17 y, by rw [List.length_append, hy1]; rfl, ?_, ?_, ?_, ?_, ?_⟩
      · rw [List.flatMap_append]; simpa using o19
      · rw [List.map_append, hy3]; rfl
      · intro x hx
        rcases List.mem_append.1 hx with hx | hx
        · exact ((((hy4 x hx).frame F17 (fun _ _ => id)).frame f18 (fun _ _ => id)).frame f19 (fun y hy => (hy5 y hy).2.2)).mono (fun y => .inl)
        · simp at hx; subst hx
          exact BV.of_own ((o17.frame f18 (fun _ _ => id)).frame f19 (fun y hy ho => by have := b17' y hy; have := opg y ho; omega)) (fun y => .inr)
      · rintro y (hy | hy)
        · have a := hy5 y hy
          exact ⟨a.1, by omega, fun ho => (g19 y ho).elim a.2.2 (fun h2 => by omega)⟩
        · have a := b17' y hy
          exact ⟨by omega, by omega, fun ho => (g19 y ho).elim (fun h2 => by have := opg y h2; omega) (fun h2 => by omega)⟩
      · intro y hy
        rcases g19 y hy with h2 | h2
        · exact hy6 y h2
        · omega
    have F19 : Fr (fun _ => False) h1 h19 := (fg.tt (F17.tt f18)).step f19 (fun y hy ho => by have := hy6 y ho; omega)
    have zb19 : b < h19.size := lt_of_get b19
    have hb1 : h1.size ≤ b := by omega
    have npb : ¬ inBlk p19 b := fun ho => (g19 b ho).elim nbo (fun h2 => by omega)
    have SR : ∀ {h' : Heap}, Fr (fun _ => False) h1 h' → SRow h' D s := fun f => (hx4 s (List.mem_of_getElem? hs)).frame f (fun _ _ => id)
    clear o19 f19 g19 row18 sz18 f18 b18 b17 o17 f17 g17 W16 b16 W15 b15 W14 b14 W13 b13 W12 b12 W11 b11 W10 b10 hb9 s16 s15 s14 s13 s12 s11 f10 g10 u10 u11 u12 u13 u14 u15 u16 b17' hy2 hy4 hy5 F17 f9
    refine ⟨_, _, _, cell_at b19 rfl, ?_⟩
    refine ⟨fun op' ol' oc' i h' => ∃ j : Nat, i = (j : Int) ∧ j ≤ s.kept.length ∧ BL h1 h' op' ol' oc' (recs ((xs.map SC.abs).take k) ++ [headR s.abs] ++ (s.abs.kept.map ansR).take j) ∧ ol' ≤ ol + 1 + j ∧ Fr (fun _ => False) h1 h' ∧
      sessions_Session.at h' b (s.num : Int) (s.token : Int) s.up s.watch s.kp s.kept.length s.kc s.np s.notes.length s.nc ∧ ¬ inBlk op' b, fun _ _ _ i _ => s.kept.length - i.toNat, ⟨0, rfl, by omega, by simpa using B19, by omega, F19, b19, npb⟩, ?_⟩
    clear B19 F19 b19 npb
    rintro op' ol' oc' _ h20 ⟨j, rfl, hj, B20, hol', F20, b20, nb20⟩
    have z20 := F20.1
    by_cases hjl : j < s.kept.length
    · have q2 : (j : Int) < (s.kept.length : Int) := by omega
      simp only [q2, decide_true, if_true, Int.toNat_natCast]
      have ha : s.kept[j]? = some s.kept[j] := List.getElem?_eq_getElem hjl
      generalize s.kept[j] = a at ha
      have row20 := (SR F20).k
      obtain ⟨ka, hkp⟩ := row20.some (fun e => by have := congrArg List.length e; rw [flat_len AV.enc 2 aenc_len, List.length_nil] at this; omega)
      rw [hkp] at row20
      refine ⟨⟨by first | trivial | omega, by first | trivial | omega⟩, ?_⟩
      rw [hkp]
      have kba := kb a (List.mem_of_getElem? ha)
      refine onSome_some.2 (sessions_Answer.ldA (row20.heldAt aenc_len ha) (sessions_Answer.new fun b2 h23 eb2 hb2 f23 => ⟨_, cell_at hb2 rfl, _, _, _, cell_at hb2 rfl, ?_⟩))
      refine Fld.new_ok fun h24 w S24 W24 f24 g24 => ⟨_, rfl, ?_⟩
      have u24 : Up h23 S24 h24 := ⟨f24, g24⟩
      have b24 := f24.get hb2 id
      refine ⟨cell_at b24 rfl, cell_at b24 rfl, ?_⟩
      refine num_ok a.id W24 (by simp) rfl (by omega) fun h25 S25 W25 s25 => ⟨_, rfl, ?_⟩
      rw [List.nil_append] at W25
      have u25 := u24.step s25
      have b25 := s25.fr.get b24 (fun hx => by have := u24.ge b2 hx; have := lt_of_get hb2; omega)
      refine ⟨cell_at b25 rfl, ?_⟩
      have F25 : Fr (fun _ => False) h1 h25 := F20.tt (f23.tt u25.fr)
      have l7 := (encNum_len a.id).2
      have rowa := ((SR F25).kd a (List.mem_of_getElem? ha)).row
      refine text_ok' W25 (by omega) rowa rfl (by omega) (fun y hy hne hS => ?_) fun h26 S26 W26 s26 => ⟨_, rfl, ?_⟩
      · have a1 := (hx4 s (List.mem_of_getElem? hs)).kd a (List.mem_of_getElem? ha)
        have a2 := (hx5 y (a1.own hne y hy)).2.1
        have a3 := u25.ge y hS
        have a4 := f23.1
        omega
      have u26 := u25.step s26
      have l8 := (encNum_len a.v.b.length).2
      have el : (encText a.v.b).length = (encNum a.v.b.length).length + a.v.b.length := by unfold encText; rw [List.length_append]
      refine bytes_ok W26 (by rw [List.length_append]; omega) fun q27 d27 h27 o27 f27 g27 => ⟨_, _, _, rfl, ?_⟩
      have F27 : Fr (fun _ => False) h20 h27 := f23.tt (u26.fr.tt f27)
      have z27 := F27.1
      have zu := (f23.tt u26.fr).1
      have er : encNum a.id ++ encText a.v.b = ansR a.abs := rfl
      rw [er] at o27 ⊢
      refine (B20.on F27).push (by omega) o27 (fun y hy => ⟨by have := g27 y hy; omega, fun ho => by have := B20.lt ho; have := g27 y hy; omega⟩) (by omega) ?_
      intro p29 c29 h29 B29 f29 g29
      refine ⟨_, _, _, rfl, ?_⟩
      rw [wrap_id (by omega) (by omega)]
      refine ⟨⟨j + 1, by omega, by omega, ?_, by omega, ?_, (by rw [← hkp]; exact f29.get (F27.get b20 id) nb20), ?_⟩, ?_⟩
      · rw [List.append_assoc] at B29
        rw [List.take_add_one, show (s.abs.kept.map ansR)[j]? = some (ansR a.abs) by show ((s.kept.map AV.abs).map ansR)[j]? = _; rw [List.getElem?_map, List.getElem?_map, ha]; rfl]
        rw [← List.append_assoc] at B29 ⊢
        exact B29
      · refine (F20.tt F27).step f29 (fun y hy ho => ?_)
        obtain ⟨_, _, _, _, _, _, _, h6'⟩ := B20
        have := h6' y ho; omega
      · intro ho
        rcases g29 b ho with h2 | h2
        · exact nb20 h2
        · have := lt_of_get (F27.get b20 id); omega
      · show s.kept.length - Int.toNat ((j : Int) + 1) < s.kept.length - Int.toNat (j : Int); omega
    · have q2 : ¬ (j : Int) < (s.kept.length : Int) := by omega
      simp only [q2, decide_false, Bool.false_eq_true, if_false]
      rw [List.take_of_length_le (l := s.abs.kept.map ansR) (by rw [List.length_map, show s.abs.kept.length = s.kept.length from List.length_map _]; omega)] at B20
      refine ⟨_, _, _, cell_at b20 rfl, ?_⟩
      refine ⟨fun op' ol' oc' i h' => ∃ j : Nat, i = (j : Int) ∧ j ≤ s.notes.length ∧ BL h1 h' op' ol' oc' (recs ((xs.map SC.abs).take k) ++ [headR s.abs] ++ s.abs.kept.map ansR ++ (s.abs.notes.map encText).take j) ∧ ol' ≤ ol + 7 + j ∧ Fr (fun _ => False) h1 h', fun _ _ _ i _ => s.notes.length - i.toNat, ⟨0, rfl, by omega, by simpa using B20, by omega, F20⟩, ?_⟩
      clear B20 F20 b20 nb20 z20 hol' hjl hj q2
      rintro op' ol' oc' _ h30 ⟨j, rfl, hj, B30, hol', F30⟩
      have z30 := F30.1
      by_cases hjl : j < s.notes.length
      · have q2 : (j : Int) < (s.notes.length : Int) := by omega
        simp only [q2, decide_true, if_true, Int.toNat_natCast]
        have ha : s.notes[j]? = some s.notes[j] := List.getElem?_eq_getElem hjl
        generalize s.notes[j] = a at ha
        have row30 := (SR F30).n
        obtain ⟨ka, hnp⟩ := row30.some (fun e => by have := congrArg List.length e; rw [flat_len nenc 1 nenc_len, List.length_nil] at this; omega)
        rw [hnp] at row30
        refine ⟨⟨by first | trivial | omega, by first | trivial | omega⟩, ?_⟩
        rw [hnp]
        have nba := nb a (List.mem_of_getElem? ha)
        refine onSome_some.2 ⟨a.p, a.b.length, a.c, ?_, ?_⟩
        · have := (row30.heldAt nenc_len ha).1
          rwa [add_zero_addr] at this
        refine Fld.new_ok fun h31 w S31 W31 f31 g31 => ⟨_, rfl, ?_⟩
        have u31 : Up h30 S31 h31 := ⟨f31, g31⟩
        have rowa := ((SR (F30.tt f31)).nd a (List.mem_of_getElem? ha)).row
        refine text_ok' W31 (by simp) rowa rfl (by omega) (fun y hy hne hS => ?_) fun h32 S32 W32 s32 => ⟨_, rfl, ?_⟩
        · have a1 := (hx4 s (List.mem_of_getElem? hs)).nd a (List.mem_of_getElem? ha)
          have a2 := (hx5 y (a1.own hne y hy)).2.1
          have a3 := u31.ge y hS
          omega
        rw [List.nil_append] at W32
        have u32 := u31.step s32
        have l8 := (encNum_len a.b.length).2
        have el : (encText a.b).length = (encNum a.b.length).length + a.b.length := by unfold encText; rw [List.length_append]
        refine bytes_ok W32 (by omega) fun q33 d33 h33 o33 f33 g33 => ⟨_, _, _, rfl, ?_⟩
        have F33 : Fr (fun _ => False) h30 h33 := u32.fr.tt f33
        have z33 := F33.1
        have zu := u32.fr.1
        refine (B30.on F33).push (by omega) o33 (fun y hy => ⟨by have := g33 y hy; omega, fun ho => by have := B30.lt ho; have := g33 y hy; omega⟩) (by omega) ?_
        intro p35 c35 h35 B35 f35 g35
        refine ⟨_, _, _, rfl, ?_⟩
        rw [wrap_id (by omega) (by omega)]
        refine ⟨⟨j + 1, by omega, by omega, ?_, by omega, ?_⟩, ?_⟩
        · rw [List.append_assoc] at B35
          rw [List.take_add_one, show (s.abs.notes.map encText)[j]? = some (encText a.b) by show ((s.notes.map BV.b).map encText)[j]? = _; rw [List.getElem?_map, List.getElem?_map, ha]; rfl]
          rw [← List.append_assoc] at B35 ⊢
          exact B35
        · refine (F30.tt F33).step f35 (fun y hy ho => ?_)
          obtain ⟨_, _, _, _, _, _, _, h6'⟩ := B30
          have := h6' y ho; omega
        · show s.notes.length - Int.toNat ((j : Int) + 1) < s.notes.length - Int.toNat (j : Int); omega
      · have q2 : ¬ (j : Int) < (s.notes.length : Int) := by omega
        simp only [q2, decide_false, Bool.false_eq_true, if_false]
        rw [List.take_of_length_le (l := s.abs.notes.map encText) (by rw [List.length_map, show s.abs.notes.length = s.notes.length from List.length_map _]; omega)] at B30
        rw [wrap_id (by omega) (by omega)]
        refine ⟨⟨k + 1, by omega, by omega, ?_, by omega, F30⟩, ?_⟩
        · have e : recs ((xs.map SC.abs).take (k + 1)) = recs ((xs.map SC.abs).take k) ++ [headR s.abs] ++ s.abs.kept.map ansR ++ s.abs.notes.map encText := by
            unfold recs
            rw [List.take_add_one, hsA, List.flatMap_append]
            simp [recS]
          rw [e]; exact B30
        · show xs.length - Int.toNat ((k : Int) + 1) < xs.length - Int.toNat (k : Int); omega
  · have q1 : ¬ (k : Int) < (xs.length : Int) := by omega
    simp only [q1, decide_false, Bool.false_eq_true, if_false]
    rw [List.take_of_length_le (by rw [List.length_map]; omega)] at B
    exact hk g op ol oc (B.mono f1.1) (f1.tt fg)
end Ses
end Go.Proofs.Ytlnofnmdiddmkaa
