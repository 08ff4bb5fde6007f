/-
  What is proved here: parts of the proof, one behind the other (texts of this work, merged by a program; what the theorem does not use is left out). No condition.
-/
import Derived.Handed
import Derived.Shelf.Vars
import Derived.Lib.LaidU8
import Derived.Lib.LaidTab
import Derived.Test.YtgccegnmggjkjaaGreatDoorMCockc
set_option maxRecDepth 100000
namespace Go.Den
theorem storeL_part {h : Heap} {b i : Nat} {c lit : Array Value} {t : TypeId} {vs : List Value} {K : Heap → Prop} (hb : h[b]? = some (.cells c t (0, 0))) (hl : i + vs.length ≤ c.size) (hv : vs.all oneCell = true)
    (hlit : lit = (c.toList.take i ++ (vs ++ c.toList.drop (i + vs.length))).toArray)
    (hk : ∀ h', h'[b]? = some (.cells lit t (0, 0)) → h'.size = h.size → (∀ x, x ≠ b → h'[x]? = h[x]?) → K h') : storeL ⟨b, 0, none⟩ vs i h K := by
  refine storeL_from vs i h c K hb hl hv fun h' c' b' z r1 r2 s o => hk h' ?_ s o
  have : c' = lit := by
    subst hlit
    apply Array.ext'
    apply List.ext_getElem?
    intro j
    have hc : i ≤ c.toList.length := by simp; omega
    have ht : (c.toList.take i).length = i := by rw [List.length_take]; omega
    rw [Array.getElem?_toList]
    by_cases h1 : j < i
    · rw [r1 j (.inl h1), List.getElem?_append_left (by omega), List.getElem?_take_of_lt h1, Array.getElem?_toList]
    · rw [List.getElem?_append_right (by omega), ht]
      by_cases h2 : j < i + vs.length
      · have hk : vs[j - i]? = some (vs[j - i]'(by omega)) := List.getElem?_eq_getElem _
        have := r2 (j - i) _ hk
        rw [show i + (j - i) = j by omega] at this
        rw [this, List.getElem?_append_left (by omega), hk]
      · rw [r1 j (.inr (by omega)), List.getElem?_append_right (by omega), List.getElem?_drop, Array.getElem?_toList]
        congr 1; omega
  rw [← this]; exact b'
end Go.Den
namespace Go.Proofs.YtgccegnmggjkjaaGreatDoor
open Go.Den Go.Fields Go.Heapq
namespace Cps
open Eid Alarm Fld
variable {h h' : Heap} {R : Value → Heap → Prop} {t : Nat} {X : Ft} {s s' : CF} {m a1 a2 : Nat} {xs : List CV} {S1 S2 S1' S2' : Nat → Prop} {lab : Nat → Option Nat} {p : Option Addr} {n c : Nat}
theorem st_e {g : Heap} {b : Nat} {y : CV} {K : Heap → Prop} (e : Ev) (hy : y.at g b) (hk : ∀ h', CV.at h' b { y with e := e } → h'.size = g.size → (∀ x, x ≠ b → h'[x]? = g[x]?) → K h') : eid_Eid.ST g ⟨b, 1, none⟩ e.ipn e.node e.svc e.host e.dem K :=
  storeL_part (i := 1) (vs := [.bool e.ipn, .int .u64 e.node, .int .u64 e.svc, .string e.host, .string e.dem]) hy (by simp) rfl rfl hk
theorem st_4 {g : Heap} {b : Nat} {y : CV} {K : Heap → Prop} (v : BV) (till : Nat) (ses : Int) (dl : Nat) (hy : y.at g b) (hk : ∀ h', CV.at h' b { y with v := v, till := till, ses := ses, dl := dl } → h'.size = g.size → (∀ x, x ≠ b → h'[x]? = g[x]?) → K h') :
    StoreP g ⟨b, 6, none⟩ (.slice v.p v.b.length v.c) fun h1 => StoreP h1 ⟨b, 7, none⟩ (.int .u64 (till : Int)) fun h2 => StoreP h2 ⟨b, 8, none⟩ (.int .i64 ses) fun h3 => StoreP h3 ⟨b, 9, none⟩ (.int .u64 (dl : Int)) K :=
  storeL_part (i := 6) (vs := [.slice v.p v.b.length v.c, .int .u64 (till : Int), .int .i64 ses, .int .u64 (dl : Int)]) hy (by simp) rfl rfl hk
def loadF (s : CF) (z : Cp) : CF := { s with L := s.L ++ [z], E1 := setL s.E1 (z.num : Int) (z.till : Int), E2 := if z.ses = 0 then s.E2 else setL s.E2 (z.num : Int) (z.dl : Int) }
section
variable {z : Cp}
theorem rd1 (k : okZ z) : readInt 0 (recC z) = (z.num, 0, encText (textE z.e) ++ (encText z.d ++ (encNum z.till ++ (encNum (natOf z.ses) ++ encNum z.dl)))) := by
  have := k.n
  unfold recC
  simp only [List.append_assoc]
  exact readMost_enc (by omega) (by decide) _
theorem rd2 (k : okZ z) (y : List UInt8) : readText 0 (encText (textE z.e) ++ y) = (textE z.e, 0, y) := by
  have := text_len k.r k.v
  exact readText_enc (by omega) _
theorem rd3 (k : okZ z) (y : List UInt8) : readText 0 (encText z.d ++ y) = (z.d, 0, y) := by
  have := k.d
  exact readText_enc (by omega) _
theorem rd4 (k : okZ z) (y : List UInt8) : readNum 0 (encNum z.till ++ y) = (z.till, 0, y) := by
  have := k.t
  exact readNum_enc (by omega) _
theorem rd5 (k : okZ z) (y : List UInt8) : readInt 0 (encNum (natOf z.ses) ++ y) = (natOf z.ses, 0, y) := by
  have := k.s1
  exact readMost_enc (by unfold natOf; omega) (by decide) _
theorem rd6 (k : okZ z) : readNum 0 (encNum z.dl) = (z.dl, 0, []) := by
  have := k.l
  have h := readNum_enc (n := z.dl) (by omega) []
  rwa [List.append_nil] at h
end
set_option maxHeartbeats 1000000 in
theorem load1_ok (H : Ct h t X s) (sm : Small s) {z : Cp} (kz : okZ z) (hm : mayC z.e z.d.length (z.till : Int) = true) (hfr : z.ses = 0 → z.dl = 0) {last : Int} (hl : last < (z.num : Int)) (h1 : ∀ y ∈ s.L, y.num < z.num) (hpos : 1 ≤ z.num) (hn : z.num < s.next) (hfull : (ofL s.L z.e).length < 16)
    (row : Row h p (bc (recC z))) (hnl : n = (recC z).length) (tb : Num.Tab h) (mx : Num.Mx h)
    (hk : ∀ h' X', Ct h' t X' (loadF s z) → StepF X h X' h' → R (.tuple #[.int .i64 (z.num : Int), .bool true]) h') :
    CallsH Tryz.prog F.copies_Table_load #[.pointer (some ⟨t, 0, none⟩), .slice p n c, .int .i64 last] h R := by
  obtain ⟨m, xs, a1, S1, a2, S2, lab, H⟩ := H
  have rl := recC_len kz
  have sl := sm.l
  have xl := H.len
  have hz0 : z.e ≠ Ev.zero := by
    have := hm
    unfold mayC at this
    simp only [Bool.and_eq_true, Bool.not_eq_true', decide_eq_true_eq, decide_eq_false_iff_not] at this
    exact this.2.1
  refine copies_Table_load.walk (Fld.read_ok row hnl (by omega) fun g1 f S D1 f1 n1 => ⟨_, rfl, Fld.rint_ok D1 fun g2 D2 f2 => ?_⟩)
  have nf : h.size ≤ f := n1 f D1.self
  have F2 := f1.fresh f2 (fun y e => by rw [e]; exact nf)
  rw [rd1 kz] at D2 ⊢
  dsimp only at D2 ⊢
  refine ⟨_, rfl, newP_of ?_⟩
  have f3 : Fr (fun _ => False) g2 (g2.push (.cells #[.int .i64 (z.num : Int), .bool false, .int .u64 0, .int .u64 0, .string ⟨#[]⟩, .string ⟨#[]⟩, .slice none 0 0, .int .u64 0, .int .i64 0, .int .u64 0] T.copies_Copy)) := Fr.push _ _
  have y3 : CV.at (g2.push (.cells #[.int .i64 (z.num : Int), .bool false, .int .u64 0, .int .u64 0, .string ⟨#[]⟩, .string ⟨#[]⟩, .slice none 0 0, .int .u64 0, .int .i64 0, .int .u64 0] T.copies_Copy)) g2.size ⟨z.num, g2.size, .zero, ⟨none, 0, []⟩, 0, 0, 0⟩ := push_new
  generalize g2.push (.cells #[.int .i64 (z.num : Int), .bool false, .int .u64 0, .int .u64 0, .string ⟨#[]⟩, .string ⟨#[]⟩, .slice none 0 0, .int .u64 0, .int .i64 0, .int .u64 0] T.copies_Copy) = g3 at f3 y3 ⊢
  have nS : ¬ S g2.size := fun hs => by have := D2.lt _ hs; omega
  have hb0 : h.size ≤ g2.size := F2.1
  generalize g2.size = b at y3 nS hb0 ⊢
  have bf : ¬ b = f := fun e => nS (by rw [e]; exact D2.self)
  have D3 := D2.frame f3 (fun _ _ => id)
  have tl := text_len kz.r kz.v
  have e1 := encText_len (textE z.e)
  have e2 := encText_len z.d
  have dl := kz.d
  have e3 := (encNum_len z.till).2
  have e4 := (encNum_len (natOf z.ses)).2
  have e5 := (encNum_len z.dl).2
  refine Fld.rtext_ok D3 (by simp only [List.length_append]; omega) fun g4 p4 c4 D4 o4 n4 f4 => ?_
  rw [rd2 kz] at D4 o4 ⊢
  dsimp only at D4 o4 ⊢
  have F4 := (F2.tt f3).fresh f4 (fun y e => by rw [e]; exact nf)
  have y4 := f4.get y3 bf
  refine ⟨_, _, _, rfl, _, conv o4.row' rfl, Eid.parse_ok kz.r kz.v hz0 (tb.on F4) (mx.on F4) fun g5 f5 => ⟨_, _, _, _, _, _, rfl, st_e z.e (f5.get y4 id) fun g6 y6 s6 o6 => ?_⟩⟩
  have f6 : Fr (fun y => y = b) g5 g6 := ⟨by omega, fun y _ hn => o6 y hn⟩
  have F6 := (F4.tt f5).fresh f6 (fun y e => by rw [e]; exact hb0)
  have D6 := (D4.frame f5 (fun _ _ => id)).frame f6 (fun y hy e => nS (e ▸ hy))
  refine Fld.rtext_ok D6 (by simp only [List.length_append]; omega) fun g7 p7 c7 D7 o7 n7 f7 => ?_
  rw [rd3 kz] at D7 o7 ⊢
  dsimp only at D7 o7 ⊢
  have F7 := F6.fresh f7 (fun y e => by rw [e]; exact nf)
  refine ⟨_, _, _, rfl, Fld.rnum_ok D7 fun g8 D8 f8 => ?_⟩
  rw [rd4 kz] at D8 ⊢
  dsimp only at D8 ⊢
  refine ⟨_, rfl, Fld.rint_ok D8 fun g9 D9 f9 => ?_⟩
  rw [rd5 kz] at D9 ⊢
  dsimp only at D9 ⊢
  refine ⟨_, rfl, Fld.rnum_ok D9 fun g10 D10 f10 => ?_⟩
  rw [rd6 kz] at D10 ⊢
  dsimp only at D10 ⊢
  have ns : ((natOf z.ses : Nat) : Int) = z.ses := by have := kz.s0; unfold natOf; omega
  rw [ns]
  have F10 := ((F7.fresh f8 (fun y e => by rw [e]; exact nf)).fresh f9 (fun y e => by rw [e]; exact nf)).fresh f10 (fun y e => by rw [e]; exact nf)
  have y10 := f10.get (f9.get (f8.get (f7.get y6 bf) bf) bf) bf
  have n7' : ∀ y, inBlk p7 y → ¬ y = f := fun y hy e => by
    have h1 := n7 y hy
    have h2 := D6.lt f D6.self
    omega
  have o10 := ((o7.frame f8 n7').frame f9 n7').frame f10 n7'
  refine ⟨_, rfl, st_4 ⟨p7, c7, z.d⟩ z.till z.ses z.dl y10 fun g11 y11 s11 o11 => ⟨_, cell_at y11 rfl, ?_⟩⟩
  have f11 : Fr (fun y => y = b) g10 g11 := ⟨by omega, fun y _ hn => o11 y hn⟩
  have F11 := F10.fresh f11 (fun y e => by rw [e]; exact hb0)
  have D11 := D10.frame f11 (fun y hy e => nS (e ▸ hy))
  have lb6 := lt_of_get y6
  have n7b : ∀ y, inBlk p7 y → y ≠ b := fun y hy e => by have := n7 y hy; omega
  have w11 := o10.frame f11 n7b
  have lt7 : ∀ y, inBlk p7 y → h.size ≤ y := fun y hy => by have := n7 y hy; have := F6.1; omega
  clear o10 y10 D10 D9 D8 D7 D6 D4 D3 D2 D1 y6 y4 y3 o7 o4 o6 o11 f10 f9 f8 f7 f6 f5 f4 f3 f2 f1
  refine JoinP.of fun J hJ => Fld.rend_ok D11 ⟨_, rfl, ?_⟩
  have fin : ∀ g, Fr (fun _ => False) g11 g → J false g := by
    intro g fg
    subst hJ
    dsimp only
    rw [if_neg (by decide)]
    have Fg := F11.tt fg
    have Hg := H.on Fg
    have yg := fg.get y11 id
    have wg := w11.frame fg (fun _ _ => id)
    refine ⟨_, cell_at Hg.blk rfl, _, cell_at yg rfl, den_putP mapTy Hg.map (k := (z.num : Int)) fun g13 M13 s13 o13 => ?_⟩
    obtain ⟨X13, lab13, H13, st13⟩ := H.add (s' := { s with L := s.L ++ [z] }) (y := ⟨z.num, b, z.e, ⟨p7, c7, z.d⟩, z.till, z.ses, z.dl⟩) Fg yg hb0 wg.row' wg.le (fun c hc => ⟨lt7 c hc, n7b c hc, wg.blk_lt hc⟩)
      (fun u hu => by
        have : u.abs ∈ s.L := by rw [← H.abs]; exact List.mem_map_of_mem hu
        exact h1 _ this) M13 s13 o13 rfl rfl rfl ⟨rfl, rfl, rfl, rfl⟩
    have y13 := H13.cps _ (List.mem_append_right _ (List.mem_singleton.2 rfl))
    have hm1 : may (z.num : Int) (z.till : Int) = true := may_iff.2 ⟨by omega, by have := kz.n; omega, by have := kz.t; omega⟩
    have hm2 : may (z.num : Int) (z.dl : Int) = true := may_iff.2 ⟨by omega, by have := kz.n; omega, by have := kz.l; omega⟩
    refine ⟨_, cell_at H13.blk rfl, _, cell_at y13 rfl, _, cell_at y13 rfl, Alarm.set_ok H13.al1 (by have := sm.e1; show s.E1.length < _; omega) (z.num : Int) (z.till : Int) (by omega) (fun _ g14 S14 A14 q14 f14 => ⟨_, rfl, ?_⟩) (fun hm => absurd hm1 (by rw [hm]; simp))⟩
    obtain ⟨X14, lab14, H14, st14, _⟩ := H13.alarm1 (s' := { s with L := s.L ++ [z], E1 := setL s.E1 (z.num : Int) (z.till : Int) }) A14 q14 f14 rfl rfl rfl ⟨rfl, rfl, rfl, rfl⟩
    have y14 := H14.cps _ (List.mem_append_right _ (List.mem_singleton.2 rfl))
    refine JoinP.of fun J1 hJ1 => ?_
    subst hJ1
    by_cases hs : z.ses = 0
    · rw [if_neg (by show ¬ decide (z.ses > 0) = true; rw [hs]; simp)]
      have eF : loadF s z = { s with L := s.L ++ [z], E1 := setL s.E1 (z.num : Int) (z.till : Int) } := by unfold loadF; rw [if_pos hs]
      rw [eF] at hk
      exact ⟨_, cell_at y14 rfl, hk g14 X14 ⟨_, _, _, _, _, _, _, H14⟩ (st13.trans st14)⟩
    · rw [if_pos (by have := kz.s0; simp; omega)]
      have eF : loadF s z = { s with L := s.L ++ [z], E1 := setL s.E1 (z.num : Int) (z.till : Int), E2 := setL s.E2 (z.num : Int) (z.dl : Int) } := by unfold loadF; rw [if_neg hs]
      rw [eF] at hk
      refine ⟨_, cell_at H14.blk rfl, _, cell_at y14 rfl, _, cell_at y14 rfl, Alarm.set_ok H14.al2 (by have := sm.e2; show s.E2.length < _; omega) (z.num : Int) (z.dl : Int) (by omega) (fun _ g15 S15 A15 q15 f15 => ⟨_, rfl, ?_⟩) (fun hm => absurd hm2 (by rw [hm]; simp))⟩
      obtain ⟨X15, lab15, H15, st15, _⟩ := H14.alarm2 (s' := { s with L := s.L ++ [z], E1 := setL s.E1 (z.num : Int) (z.till : Int), E2 := setL s.E2 (z.num : Int) (z.dl : Int) }) A15 q15 f15 rfl rfl rfl ⟨rfl, rfl, rfl, rfl⟩
      have y15 := H15.cps _ (List.mem_append_right _ (List.mem_singleton.2 rfl))
      exact ⟨_, cell_at y15 rfl, hk g15 X15 ⟨_, _, _, _, _, _, _, H15⟩ (st13.trans (st14.trans st15))⟩
  clear hJ hk
  have H11 := H.on F11
  have e0 : (readEnd 0 [] != 0) = false := by decide
  rw [e0, if_neg (by decide)]
  refine ⟨_, cell_at y11 rfl, ?_⟩
  rw [if_neg (by simp; omega)]
  refine ⟨_, cell_at y11 rfl, _, cell_at H11.blk rfl, ?_⟩
  rw [if_neg (by simp; omega)]
  refine ld_e y11 ⟨_, _, _, cell_at y11 rfl, _, cell_at y11 rfl, isCopy_ok z.e fun g12 f12 => ⟨_, rfl, cell_at (f12.get H11.blk id) rfl, cell_at (f12.get y11 id) rfl, cell_at (f12.get y11 id) rfl, ?_⟩⟩
  rw [hm, if_neg (by decide)]
  have y12 := f12.get y11 id
  have H12 := H11.on f12
  refine ⟨_, cell_at y12 rfl, ?_⟩
  have lz := kz.l
  rw [if_neg (by simp; omega)]
  have go : ∀ g, Fr (fun _ => False) g12 g → (xs.filter (fun y => decide (y.e = z.e))).length < 16 := fun _ _ => by rw [of_len H z.e]; exact hfull
  by_cases hs : z.ses = 0
  · rw [if_pos (by show (!decide (z.ses > 0)) = true; rw [hs]; rfl)]
    refine ⟨_, cell_at y12 rfl, ?_⟩
    rw [if_neg (by simp; exact hfr hs)]
    refine ld_e y12 (of_ok H12 z.e (by omega) fun g13 p13 c13 o13 n13 f13 => ⟨_, _, _, rfl, cell_at (f13.get y12 id) rfl, cell_at (f13.get y12 id) rfl, cell_at (f13.get H12.blk id) rfl, cell_at (f13.get y12 id) rfl, cell_at (f13.get y12 id) rfl, ?_⟩)
    rw [if_neg (by have := go g13 f13; simp; omega)]
    have F13 := f12.tt f13
    have y13 := F13.get y11 id
    refine record_ok (z := ⟨z.num, b, z.e, ⟨p7, c7, z.d⟩, z.till, z.ses, z.dl⟩) y13 ((w11.frame F13 (fun _ _ => id)).row') kz (tb.on (F11.tt F13)) fun p14 c14 g14 o14 f14 n14 => ?_
    have F14 := F13.tt f14
    have y14 := F14.get y11 id
    have H14 := H11.on F14
    refine ⟨_, _, _, rfl, cell_at y14 rfl, cell_at y14 rfl, cell_at H14.blk rfl, cell_at y14 rfl, cell_at y14 rfl, Fld.equal_ok o14.row' rfl (row.frame (F11.tt F14) (fun _ _ => id)) hnl ⟨_, rfl, cell_at y14 rfl, cell_at y14 rfl, cell_at H14.blk rfl, cell_at y14 rfl, cell_at y14 rfl, ?_⟩⟩
    have e : (!decide (recC (CV.abs ⟨z.num, b, z.e, ⟨p7, c7, z.d⟩, z.till, z.ses, z.dl⟩) = recC z)) = false := by simp [CV.abs]
    rw [e]
    exact fin g14 F14
  · rw [if_neg (by have := kz.s0; simp; omega)]
    refine ld_e y12 (of_ok H12 z.e (by omega) fun g13 p13 c13 o13 n13 f13 => ⟨_, _, _, rfl, cell_at (f13.get y12 id) rfl, cell_at (f13.get H12.blk id) rfl, cell_at (f13.get y12 id) rfl, cell_at (f13.get y12 id) rfl, ?_⟩)
    rw [if_neg (by have := go g13 f13; simp; omega)]
    have F13 := f12.tt f13
    have y13 := F13.get y11 id
    refine record_ok (z := ⟨z.num, b, z.e, ⟨p7, c7, z.d⟩, z.till, z.ses, z.dl⟩) y13 ((w11.frame F13 (fun _ _ => id)).row') kz (tb.on (F11.tt F13)) fun p14 c14 g14 o14 f14 n14 => ?_
    have F14 := F13.tt f14
    have y14 := F14.get y11 id
    have H14 := H11.on F14
    refine ⟨_, _, _, rfl, cell_at y14 rfl, cell_at H14.blk rfl, cell_at y14 rfl, cell_at y14 rfl, Fld.equal_ok o14.row' rfl (row.frame (F11.tt F14) (fun _ _ => id)) hnl ⟨_, rfl, cell_at y14 rfl, cell_at H14.blk rfl, cell_at y14 rfl, cell_at y14 rfl, ?_⟩⟩
    have e : (!decide (recC (CV.abs ⟨z.num, b, z.e, ⟨p7, c7, z.d⟩, z.till, z.ses, z.dl⟩) = recC z)) = false := by simp [CV.abs]
    rw [e]
    exact fin g14 F14
end Cps
end Go.Proofs.YtgccegnmggjkjaaGreatDoor
set_option maxRecDepth 100000
namespace Go.Proofs.YtgccegnmggjkjaaGreatDoor
open Go.Den Go.Fields Go.Heapq
namespace Cps
open Eid Alarm Fld
variable {h h' : Heap} {R : Value → Heap → Prop} {t : Nat} {X : Ft} {s s1 : CF} {p : Option Addr} {n c l k j : Nat}
structure Part (s : CF) (j : Nat) (s1 : CF) : Prop where
  L : s1.L = s.L.take j
  next : s1.next = s.next
  acked : s1.acked = s.acked
  over : s1.over = s.over
  gone : s1.gone = s.gone
  e1 : ∀ e, e ∈ s1.E1 ↔ ∃ z ∈ s1.L, e = ((z.num : Int), (z.till : Int))
  e2 : ∀ e, e ∈ s1.E2 ↔ ∃ z ∈ s1.L, z.ses ≠ 0 ∧ e = ((z.num : Int), (z.dl : Int))
theorem Part.nil : Part s 0 ⟨[], s.next, s.acked, s.over, s.gone, [], []⟩ := ⟨rfl, rfl, rfl, rfl, rfl, fun e => by simp, fun e => by simp⟩
theorem lt_of_so (so : (s.L.map Cp.num).Pairwise (· < ·)) {z : Cp} (hz : s.L[j]? = some z) {y : Cp} (hy : y ∈ s.L.take j) : y.num < z.num := by
  obtain ⟨i, hi⟩ := List.getElem?_of_mem hy
  have hij : i < j := by
    have := (List.getElem?_eq_some_iff.1 hi).1
    rw [List.length_take] at this; omega
  rw [List.getElem?_take_of_lt hij] at hi
  have h1 := List.pairwise_map.1 so
  rw [List.pairwise_iff_getElem] at h1
  obtain ⟨a1, rfl⟩ := List.getElem?_eq_some_iff.1 hi
  obtain ⟨a2, rfl⟩ := List.getElem?_eq_some_iff.1 hz
  exact h1 i j a1 a2 hij
theorem Part.step (P : Part s j s1) (so : (s.L.map Cp.num).Pairwise (· < ·)) {z : Cp} (hz : s.L[j]? = some z) : Part s (j + 1) (loadF s1 z) := by
  have hlt : ∀ y ∈ s1.L, y.num < z.num := fun y hy => by rw [P.L] at hy; exact lt_of_so so hz hy
  refine ⟨?_, P.next, P.acked, P.over, P.gone, fun e => ?_, fun e => ?_⟩
  · show s1.L ++ [z] = _
    rw [P.L, List.take_add_one, hz]; rfl
  · show e ∈ setL s1.E1 (z.num : Int) (z.till : Int) ↔ ∃ y ∈ s1.L ++ [z], _
    rw [setL_mem, P.e1]
    constructor
    · rintro (rfl | ⟨⟨y, hy, rfl⟩, _⟩)
      · exact ⟨z, by simp, rfl⟩
      · exact ⟨y, by simp [hy], rfl⟩
    · rintro ⟨y, hy, rfl⟩
      rcases List.mem_append.1 hy with hy | hy
      · refine .inr ⟨⟨y, hy, rfl⟩, ?_⟩
        have := hlt y hy
        show (y.num : Int) ≠ (z.num : Int); omega
      · obtain rfl := List.mem_singleton.1 hy; exact .inl rfl
  · show e ∈ (if z.ses = 0 then s1.E2 else setL s1.E2 (z.num : Int) (z.dl : Int)) ↔ ∃ y ∈ s1.L ++ [z], _
    by_cases h0 : z.ses = 0
    · rw [if_pos h0, P.e2]
      constructor
      · rintro ⟨y, hy, h1, h2⟩; exact ⟨y, by simp [hy], h1, h2⟩
      · rintro ⟨y, hy, h1, h2⟩
        rcases List.mem_append.1 hy with hy | hy
        · exact ⟨y, hy, h1, h2⟩
        · obtain rfl := List.mem_singleton.1 hy; exact absurd h0 h1
    · rw [if_neg h0, setL_mem, P.e2]
      constructor
      · rintro (rfl | ⟨⟨y, hy, h1, rfl⟩, _⟩)
        · exact ⟨z, by simp, h0, rfl⟩
        · exact ⟨y, by simp [hy], h1, rfl⟩
      · rintro ⟨y, hy, h1, rfl⟩
        rcases List.mem_append.1 hy with hy | hy
        · refine .inr ⟨⟨y, hy, h1, rfl⟩, ?_⟩
          have := hlt y hy
          show (y.num : Int) ≠ (z.num : Int); omega
        · obtain rfl := List.mem_singleton.1 hy; exact .inl rfl
theorem Part.small (P : Part s j s1) (G : Good s k) (O : Ord s1) (hk : k ≤ 40000) : Small s1 := by
  have h1 := G.L
  have h2 := G.len
  have hL : s1.L.length ≤ s.L.length := by rw [P.L, List.length_take]; omega
  have nd : ∀ {l : List E}, (keys l).Nodup → l.Nodup := fun {l} hn => (List.pairwise_map.1 hn).imp (fun h e => h (congrArg _ e))
  have e1 : s1.E1.length ≤ s1.L.length := by
    have := nd_le (l2 := s1.L.map (fun z => (((z.num : Int), (z.till : Int)) : E))) (nd O.n1) (fun e he => by
      obtain ⟨z, hz, rfl⟩ := (P.e1 e).1 he
      exact List.mem_map.2 ⟨z, hz, rfl⟩)
    rwa [List.length_map] at this
  have e2 : s1.E2.length ≤ s1.L.length := by
    have := nd_le (l2 := s1.L.map (fun z => (((z.num : Int), (z.dl : Int)) : E))) (nd O.n2) (fun e he => by
      obtain ⟨z, hz, _, rfl⟩ := (P.e2 e).1 he
      exact List.mem_map.2 ⟨z, hz, rfl⟩)
    rwa [List.length_map] at this
  have := P.next
  exact ⟨by omega, by omega, by omega, by omega⟩
theorem Part.all (P : Part s s.L.length s1) (G : Good s k) (O : Ord s) (O1 : Ord s1) : s1 = s := by
  have hL : s1.L = s.L := by rw [P.L, List.take_length]
  refine state_ext G.ok O ⟨?_, ?_, P.e1, P.e2, ?_⟩ O1 hL P.next P.acked P.over P.gone
  · rw [hL, P.next]; exact G.ok.bd
  · rw [hL]; exact G.ok.sp
  · rw [hL, P.next, P.acked, P.over, P.gone]; exact G.ok.cnt
theorem Ct.so (H : Ct h t X s) : (s.L.map Cp.num).Pairwise (· < ·) := by
  obtain ⟨m, xs, a1, S1, a2, S2, lab, H⟩ := H
  rw [← H.abs, List.map_map]
  exact H.so
theorem hd (G : Good s k) (hk : k ≤ 30000) : readInt 0 (headC s) = (s.next, 0, encNum s.acked ++ (encNum s.over ++ (encNum s.gone ++ encNum s.L.length))) := by
  have := G.len
  unfold headC
  simp only [List.append_assoc]
  exact readMost_enc (by omega) (by decide) _
theorem hd' {n : Nat} (hn : n ≤ 40000) (y : List UInt8) : readInt 0 (encNum n ++ y) = (n, 0, y) := readMost_enc (by omega) (by decide) _
theorem hd0 {n : Nat} (hn : n ≤ 40000) : readInt 0 (encNum n) = (n, 0, []) := by
  have := hd' hn []
  rwa [List.append_nil] at this
theorem st_t {g : Heap} {b0 b5 b6 v1 v2 v3 v4 w1 w2 w3 w4 : Value} {K : Heap → Prop} (hb : g[t]? = some (.cells #[b0, v1, v2, v3, v4, b5, b6] T.copies_Table (0, 0))) (hv : [w1, w2, w3, w4].all oneCell = true)
    (hk : ∀ h', h'[t]? = some (.cells #[b0, w1, w2, w3, w4, b5, b6] T.copies_Table (0, 0)) → h'.size = g.size → (∀ x, x ≠ t → h'[x]? = g[x]?) → K h') :
    onSome (some (⟨t, 0, none⟩ : Addr)) fun a1 => StoreP g (a1.add 1) w1 fun h1 => onSome (some (⟨t, 0, none⟩ : Addr)) fun a2 => StoreP h1 (a2.add 2) w2 fun h2 => onSome (some (⟨t, 0, none⟩ : Addr)) fun a3 => StoreP h2 (a3.add 3) w3 fun h3 => onSome (some (⟨t, 0, none⟩ : Addr)) fun a4 => StoreP h3 (a4.add 4) w4 K := by
  have := storeL_part (i := 1) (vs := [w1, w2, w3, w4]) (lit := #[b0, w1, w2, w3, w4, b5, b6]) (K := K) hb (by simp) hv rfl hk
  simp only [List.all_cons, Bool.and_eq_true] at hv
  obtain ⟨q1, q2, q3, q4, _⟩ := hv
  unfold storeL at this
  rw [q1] at this
  refine onSome_some.2 ⟨this.1, this.2.1, fun h1 e1 => ?_⟩
  have this := this.2.2 h1 e1
  unfold storeL at this
  rw [q2] at this
  refine onSome_some.2 ⟨this.1, this.2.1, fun h2 e2 => ?_⟩
  have this := this.2.2 h2 e2
  unfold storeL at this
  rw [q3] at this
  refine onSome_some.2 ⟨this.1, this.2.1, fun h3 e3 => ?_⟩
  have this := this.2.2 h3 e3
  unfold storeL at this
  rw [q4] at this
  exact onSome_some.2 this
set_option maxHeartbeats 1000000 in
theorem load_ok {vs : List BV} {bs : List (List UInt8)} (H : Fld.Rows h p l c vs) (e : vs.map BV.b = headC s :: bs) (G : Good s k) (so : (s.L.map Cp.num).Pairwise (· < ·)) (O : Ord s) (hk8 : k ≤ 30000) (hl : l ≤ 100000) (tb : Num.Tab h) (mx : Num.Mx h) (hb : bs = s.L.map recC ∨ bs.length ≠ s.L.length)
    (k1 : bs = s.L.map recC → ∀ h' t X, Ct h' t X s → UpF h X h' → R (.tuple #[.pointer (some ⟨t, 0, none⟩), .int .i64 0]) h')
    (k2 : bs.length ≠ s.L.length → ∀ h', Fr (fun _ => False) h h' → R (.tuple #[.pointer none, .int .i64 3]) h') : CallsH Tryz.prog F.copies_Load #[.slice p l c] h R := by
  obtain ⟨v, vs, rfl⟩ : ∃ v vs', vs = v :: vs' := by
    cases vs with
    | nil => simp at e
    | cons v vs => exact ⟨v, vs, rfl⟩
  rw [List.map_cons, List.cons.injEq] at e
  obtain ⟨ev, es⟩ := e
  have ll := H.len
  rw [List.length_cons] at ll
  have lb : bs.length = vs.length := by rw [← es, List.length_map]
  have GL := G.L
  have gl := G.len
  obtain ⟨a, rfl⟩ := H.row.some (by simp)
  refine copies_Load.walk ?_
  rw [if_neg (by simp; omega)]
  refine new_ok fun h1 t X H1 u1 => ⟨_, rfl, ⟨by first | trivial | omega, by first | trivial | omega⟩, onSome_some.2 ?_⟩
  have Hr1 := H.on u1.fr
  have c0 := (Hr1.row.heldAt nenc_len (i := 0) rfl).1
  rw [add_zero_addr] at c0
  have rv := Hr1.each v (by simp)
  rw [ev] at rv
  have hdl : (headC s).length ≤ 100 := by
    unfold headC
    have e1 := (encNum_len s.next).2
    have e2 := (encNum_len s.acked).2
    have e3 := (encNum_len s.over).2
    have e4 := (encNum_len s.gone).2
    have e5 := (encNum_len s.L.length).2
    simp only [List.length_append]; omega
  refine ⟨_, _, _, c0, Fld.read_ok rv (by rw [ev]) (by omega) fun h2 f S D2 f2 n2 => ⟨_, rfl, Fld.rint_ok D2 fun h3 D3 f3 => ?_⟩⟩
  rw [hd G hk8] at D3 ⊢
  dsimp only at D3 ⊢
  refine ⟨_, rfl, Fld.rint_ok D3 fun h4 D4 f4 => ?_⟩
  rw [hd' (by omega)] at D4 ⊢
  dsimp only at D4 ⊢
  refine ⟨_, rfl, Fld.rint_ok D4 fun h5 D5 f5 => ?_⟩
  rw [hd' (by omega)] at D5 ⊢
  dsimp only at D5 ⊢
  refine ⟨_, rfl, Fld.rint_ok D5 fun h6 D6 f6 => ?_⟩
  rw [hd' (by omega)] at D6 ⊢
  dsimp only at D6 ⊢
  refine ⟨_, rfl, ?_⟩
  have nf : h1.size ≤ f := n2 f D2.self
  have F6 := (((f2.fresh f3 (fun y e => by rw [e]; exact nf)).fresh f4 (fun y e => by rw [e]; exact nf)).fresh f5 (fun y e => by rw [e]; exact nf)).fresh f6 (fun y e => by rw [e]; exact nf)
  have H6 := H1.on F6
  have u6 := u1.on F6
  obtain ⟨m, xs, a1, S1, a2, S2, lab, H6⟩ := H6
  have nt : ¬ S t := fun hs => by
    have h1 := n2 t hs
    have h2 := H1.lt t (.inl ((H6.mm t).2 (by rw [H6.l0]; simp)))
    omega
  refine st_t H6.blk rfl fun h7 b7 s7 o7 => ?_
  obtain ⟨H7, st7⟩ := H6.field (s' := ⟨[], s.next, s.acked, s.over, s.gone, [], []⟩) rfl rfl rfl b7 s7 o7
  have f7 : Fr (fun y => y = t) h6 h7 := ⟨by omega, fun y _ hn => o7 y hn⟩
  have D7 := D6.frame f7 (fun y hy e => nt (e ▸ hy))
  refine Fld.rint_ok D7 fun h8 D8 f8 => ?_
  rw [hd0 (by omega)] at D8 ⊢
  dsimp only at D8 ⊢
  refine ⟨_, rfl, ?_⟩
  have u7 := u6.step st7
  have z1 := u1.fr.1
  have u8 : UpF h X h8 := ⟨u7.fr.fresh f8 (fun y e => by rw [e]; omega), u7.ge⟩
  have H8 : Ct h8 t X ⟨[], s.next, s.acked, s.over, s.gone, [], []⟩ := Ct.frame ⟨_, _, _, _, _, _, _, H7⟩ f8 (fun y hy e => by
    have := H1.lt y hy
    omega)
  clear H7 b7 o7 H6 D7 D6 D5 D4 D3 D2
  refine JoinP.of fun J hJ => Fld.rend_ok D8 ⟨_, rfl, ?_⟩
  have e0 : (readEnd 0 [] != 0) = false := by decide
  rw [e0, if_neg (by decide), wrap_id (by omega) (by omega)]
  by_cases hn : bs.length = s.L.length
  · have eb := hb.resolve_right (fun h => h hn)
    rw [if_neg (by simp; omega)]
    obtain ⟨m, xs, a1, S1, a2, S2, lab, H8m⟩ := id H8
    have q1 := G.ok.cnt
    refine onSome_some.2 ⟨_, cell_at H8m.blk rfl, ?_⟩
    rw [if_neg (by simp; omega)]
    refine onSome_some.2 ⟨_, cell_at H8m.blk rfl, onSome_some.2 ⟨_, cell_at H8m.blk rfl, onSome_some.2 ⟨_, cell_at H8m.blk rfl, onSome_some.2 ⟨_, cell_at H8m.blk rfl, ?_⟩⟩⟩⟩
    have ef : (IntKind.wrap .i64 ((s.next : Int) - 1) != IntKind.wrap .i64 (IntKind.wrap .i64 (IntKind.wrap .i64 ((s.acked : Int) + (s.over : Int)) + (s.gone : Int)) + (s.L.length : Int))) = false := by
      rw [wrap_id (by omega) (by omega), wrap_id (n := (s.acked : Int) + (s.over : Int)) (by omega) (by omega), wrap_id (n := (s.acked : Int) + (s.over : Int) + (s.gone : Int)) (by omega) (by omega), wrap_id (by omega) (by omega)]
      simp; omega
    rw [ef]
    subst hJ
    dsimp only
    rw [if_neg (by decide)]
    refine ⟨⟨by first | trivial | omega, by first | trivial | omega⟩, ?_⟩
    refine ⟨fun last i g => ∃ (j : Nat) (s1 : CF) (X' : Ft), i = (j : Int) ∧ j ≤ s.L.length ∧ Part s j s1 ∧ Ct g t X' s1 ∧ UpF h X' g ∧ ∀ z, s.L[j]? = some z → last < (z.num : Int), fun _ i _ => s.L.length - i.toNat, ⟨0, _, X, rfl, by omega, Part.nil, H8, u8, fun z hz => ?_⟩, ?_⟩
    · have := (G.ok.bd z (List.mem_of_getElem? hz)).1
      omega
    rintro last _ g ⟨j, s1, X', rfl, hj, P, Hg, ug, hlast⟩
    have el : (l - Int.toNat 1 : Nat) = s.L.length := by show l - 1 = _; omega
    by_cases hlt : j < s.L.length
    · rw [if_pos (by rw [el]; simp; omega)]
      refine ⟨⟨by first | trivial | omega, by rw [el]; omega⟩, ?_⟩
      have hz : s.L[j]? = some s.L[j] := List.getElem?_eq_getElem hlt
      generalize s.L[j] = z at hz
      have hv : vs[j]? = some (vs[j]'(by omega)) := List.getElem?_eq_getElem _
      generalize vs[j]'(by omega) = w at hv
      have ew : w.b = recC z := by
        have h1 : (vs.map BV.b)[j]? = (s.L.map recC)[j]? := by rw [es, eb]
        rw [List.getElem?_map, List.getElem?_map, hv, hz] at h1
        exact Option.some.inj h1
      have Hr := H.on ug.fr
      have sub : Row g (slBase (some a) c (Int.toNat 1) 1) (vs.flatMap nenc) := by
        have h1 := Hr.row.sub (cap := c) (l := 1) (u := l) (sz := 1) (by omega) Hr.cap
        have e1 : ((v :: vs).flatMap nenc).take (l * 1) = (v :: vs).flatMap nenc := List.take_of_length_le (by
          have fl : ∀ xs : List BV, (xs.flatMap nenc).length = xs.length := fun xs => by induction xs with | nil => rfl | cons _ _ ih => simp [ih]
          rw [fl]; simp; omega)
        rw [e1] at h1
        exact h1
      obtain ⟨a5, ha5⟩ := sub.some (by intro e; cases vs with | nil => simp at hv | cons => simp at e)
      rw [ha5] at sub ⊢
      have cw := (sub.heldAt nenc_len hv).1
      rw [add_zero_addr] at cw
      have rw' := Hr.each w (List.mem_cons_of_mem _ (List.mem_of_getElem? hv))
      rw [ew] at rw'
      have zm := List.mem_of_getElem? hz
      have bz := G.ok.bd z zm
      refine onSome_some.2 ⟨_, _, _, cw, load1_ok Hg (P.small G Hg.ord (by omega)) (G.all z zm) (G.may z zm) (G.fr z zm) (hlast z hz) (fun y hy => by rw [P.L] at hy; exact lt_of_so so hz hy) bz.1 (by rw [P.next]; exact bz.2.1) ?_ rw' (by rw [ew]) (tb.on ug.fr) (mx.on ug.fr) fun g2 X2 H2 st2 => ⟨_, _, rfl, ?_⟩⟩
      · have h1 := G.full z.e
        have h2 : (ofL s.L z.e).length = (ofL (s.L.take j) z.e).length + (ofL (s.L.drop j) z.e).length := by
          unfold ofL
          rw [← List.length_append, ← List.filter_append, List.take_append_drop]
        have h3 : 0 < (ofL (s.L.drop j) z.e).length := by
          refine List.length_pos_iff.2 (List.ne_nil_of_mem (a := z) (List.mem_filter.2 ⟨?_, by simp⟩))
          have : (s.L.drop j)[0]? = some z := by rw [List.getElem?_drop]; exact hz
          exact List.mem_of_getElem? this
        rw [P.L]; omega
      · rw [if_neg (by decide), wrap_id (by omega) (by omega)]
        refine ⟨⟨j + 1, loadF s1 z, X2, by omega, by omega, P.step so hz, H2, ug.step st2, fun y hy => ?_⟩, by show s.L.length - Int.toNat ((j : Int) + 1) < s.L.length - Int.toNat (j : Int); omega⟩
        have : z ∈ s.L.take (j + 1) := by rw [List.take_add_one, hz]; simp
        have := lt_of_so so hy this
        omega
    · rw [if_neg (by rw [el]; simp; omega)]
      obtain rfl : j = s.L.length := by omega
      have := P.all G O Hg.ord
      subst this
      exact k1 eb g t X' Hg ug
  · rw [if_pos (by simp; omega)]
    subst hJ
    dsimp only
    rw [if_pos rfl]
    exact k2 hn h8 u8.fr
end Cps
end Go.Proofs.YtgccegnmggjkjaaGreatDoor
set_option maxRecDepth 100000
set_option maxHeartbeats 4000000
namespace Go.Proofs.YtgccegnmggjkjaaGreatDoor
open Go.Den
variable {h : Heap} {R : Value → Heap → Prop}
theorem law21_home.walk  (hv :
 NewP h (.cells #[.bool false, .int .u64 0, .int .u64 0, .string (⟨#[]⟩ : ByteArray), .string (⟨#[]⟩ : ByteArray)] T.eid_Eid) fun b h_1 =>
 eid_Eid.ST h_1 ⟨b, 0, none⟩ true 7 1 (⟨#[]⟩ : ByteArray) (⟨#[]⟩ : ByteArray) fun h_2 =>
 eid_Eid.LD h_2 ⟨b, 0, none⟩ fun r_0 r_1 r_2 r_3 r_4 =>
 R (.agg #[.bool r_0, .int .u64 r_1, .int .u64 r_2, .string r_3, .string r_4]) h_2) : CallsH Tryz.prog F.law21_home #[] h R :=
 callsH_of_body (.seq .leaf (.seq .leaf .leaf)) Tryz.func18 rfl rfl (Eq.mp (by kernel_rfl) hv)
theorem law21_Great.walk {o_0 : Int} {o_1 : Int} {o_2 : Int} {o_3 : Bool} {o_4 : Int} {o_5 : Int} {o_6 : ByteArray} {o_7 : ByteArray} {o_8_p : Option Addr} {o_8_l o_8_c : Nat} {o_9 : Int} (hv :
 NewP h (.cells #[.int .i64 o_0, .int .i64 o_1, .int .i64 o_2, .bool o_3, .int .u64 o_4, .int .u64 o_5, .string o_6, .string o_7, .slice o_8_p o_8_l o_8_c, .int .u64 o_9] T.law21_Op) fun b h_1 =>
 ∃ t4_p t4_l t4_c, hcell h_1 ⟨b, 8, none⟩ = some (.slice t4_p t4_l t4_c) ∧
 if (decide (((t4_l : Nat) : Int) > 700)) = true then
 R (.bool true) h_1
 else
 ∃ t10, hcell h_1 ⟨b, 6, none⟩ = some (.string t10) ∧
 ∃ t14, hcell h_1 ⟨b, 7, none⟩ = some (.string t14) ∧
 R (.bool (decide ((IntKind.wrap .i64 (((t10.size : Nat) : Int) + ((t14.size : Nat) : Int))) > 300))) h_1) : CallsH Tryz.prog F.law21_Great #[.agg #[.int .i64 o_0, .int .i64 o_1, .int .i64 o_2, .bool o_3, .int .u64 o_4, .int .u64 o_5, .string o_6, .string o_7, .slice o_8_p o_8_l o_8_c, .int .u64 o_9]] h R :=
 callsH_of_body (.seq .leaf (.seq .leaf .leaf)) Tryz.func11 rfl rfl (Eq.mp (by kernel_rfl) hv)
theorem law21_alive.walk  (hv :
 Cl F.copies_New #[] h fun v h_1 =>
 ∃ t12, v = .pointer t12 ∧
 Cl F.law21_home #[] h_1 fun v_1 h_2 =>
 ∃ t15_0 t15_1 t15_2 t15_3 t15_4, v_1 = .agg #[.bool t15_0, .int .u64 t15_1, .int .u64 t15_2, .string t15_3, .string t15_4] ∧
 NewP h_2 (.cells #[.int .u8 97] T.uint8) fun b h_3 =>
 denSem Tryz.prog (convert T.s_uint8 T.s_uint8 (.slice (some ⟨b, 0, none⟩) 1 1)) h_3 fun v_2 h_4 =>
 ∃ t17_p t17_l t17_c, v_2 = .slice t17_p t17_l t17_c ∧
 Cl F.copies_Table_Add #[.pointer t12, .agg #[.bool t15_0, .int .u64 t15_1, .int .u64 t15_2, .string t15_3, .string t15_4], .slice t17_p t17_l t17_c, .int .u64 50] h_4 fun v_3 h_5 =>
 ∃ t18_0 t18_1, v_3 = .tuple #[.int .i64 t18_0, .int .i64 t18_1] ∧
 Cl F.law21_home #[] h_5 fun v_4 h_6 =>
 ∃ t22_0 t22_1 t22_2 t22_3 t22_4, v_4 = .agg #[.bool t22_0, .int .u64 t22_1, .int .u64 t22_2, .string t22_3, .string t22_4] ∧
 NewP h_6 (.cells #[.int .u8 98] T.uint8) fun b_1 h_7 =>
 denSem Tryz.prog (convert T.s_uint8 T.s_uint8 (.slice (some ⟨b_1, 0, none⟩) 1 1)) h_7 fun v_5 h_8 =>
 ∃ t24_p t24_l t24_c, v_5 = .slice t24_p t24_l t24_c ∧
 Cl F.copies_Table_Add #[.pointer t12, .agg #[.bool t22_0, .int .u64 t22_1, .int .u64 t22_2, .string t22_3, .string t22_4], .slice t24_p t24_l t24_c, .int .u64 9] h_8 fun v_6 h_9 =>
 ∃ t25_0 t25_1, v_6 = .tuple #[.int .i64 t25_0, .int .i64 t25_1] ∧
 Cl F.law21_home #[] h_9 fun v_7 h_10 =>
 ∃ t28_0 t28_1 t28_2 t28_3 t28_4, v_7 = .agg #[.bool t28_0, .int .u64 t28_1, .int .u64 t28_2, .string t28_3, .string t28_4] ∧
 Cl F.copies_Table_Lease #[.pointer t12, .agg #[.bool t28_0, .int .u64 t28_1, .int .u64 t28_2, .string t28_3, .string t28_4], .int .i64 3, .int .u64 20] h_10 fun v_8 h_11 =>
 ∃ t29_0_0 t29_0_1 t29_0_2 t29_0_3 t29_0_4 t29_0_5 t29_0_6_p t29_0_6_l t29_0_6_c t29_0_7 t29_0_8 t29_0_9 t29_1, v_8 = .tuple #[.agg #[.int .i64 t29_0_0, .bool t29_0_1, .int .u64 t29_0_2, .int .u64 t29_0_3, .string t29_0_4, .string t29_0_5, .slice t29_0_6_p t29_0_6_l t29_0_6_c, .int .u64 t29_0_7, .int .i64 t29_0_8, .int .u64 t29_0_9], .int .i64 t29_1] ∧
 NewP h_11 (.cells #[.int .i64 0, .bool false, .int .u64 0, .int .u64 0, .string (⟨#[]⟩ : ByteArray), .string (⟨#[]⟩ : ByteArray), .slice none 0 0, .int .u64 0, .int .i64 0, .int .u64 0] T.copies_Copy) fun b_2 h_12 =>
 copies_Copy.ST h_12 ⟨b_2, 0, none⟩ t29_0_0 t29_0_1 t29_0_2 t29_0_3 t29_0_4 t29_0_5 t29_0_6_p t29_0_6_l t29_0_6_c t29_0_7 t29_0_8 t29_0_9 fun h_13 =>
 Cl F.copies_Table_Ack #[.pointer t12, .int .i64 1, .int .i64 4] h_13 fun v_9 h_14 =>
 ∃ t33, v_9 = .int .i64 t33 ∧
 Cl F.copies_Table_Release #[.pointer t12, .int .i64 1, .int .i64 3] h_14 fun v_10 h_15 =>
 ∃ t35, v_10 = .int .i64 t35 ∧
 Cl F.law21_home #[] h_15 fun v_11 h_16 =>
 ∃ t38_0 t38_1 t38_2 t38_3 t38_4, v_11 = .agg #[.bool t38_0, .int .u64 t38_1, .int .u64 t38_2, .string t38_3, .string t38_4] ∧
 Cl F.copies_Table_Lease #[.pointer t12, .agg #[.bool t38_0, .int .u64 t38_1, .int .u64 t38_2, .string t38_3, .string t38_4], .int .i64 4, .int .u64 5] h_16 fun v_12 h_17 =>
 ∃ t39_0_0 t39_0_1 t39_0_2 t39_0_3 t39_0_4 t39_0_5 t39_0_6_p t39_0_6_l t39_0_6_c t39_0_7 t39_0_8 t39_0_9 t39_1, v_12 = .tuple #[.agg #[.int .i64 t39_0_0, .bool t39_0_1, .int .u64 t39_0_2, .int .u64 t39_0_3, .string t39_0_4, .string t39_0_5, .slice t39_0_6_p t39_0_6_l t39_0_6_c, .int .u64 t39_0_7, .int .i64 t39_0_8, .int .u64 t39_0_9], .int .i64 t39_1] ∧
 NewP h_17 (.cells #[.int .i64 0, .bool false, .int .u64 0, .int .u64 0, .string (⟨#[]⟩ : ByteArray), .string (⟨#[]⟩ : ByteArray), .slice none 0 0, .int .u64 0, .int .i64 0, .int .u64 0] T.copies_Copy) fun b_3 h_18 =>
 copies_Copy.ST h_18 ⟨b_3, 0, none⟩ t39_0_0 t39_0_1 t39_0_2 t39_0_3 t39_0_4 t39_0_5 t39_0_6_p t39_0_6_l t39_0_6_c t39_0_7 t39_0_8 t39_0_9 fun h_19 =>
 Cl F.copies_Table_Pass #[.pointer t12, .int .u64 9] h_19 fun v_13 h_20 =>
 ∃ t43_p t43_l t43_c, v_13 = .slice t43_p t43_l t43_c ∧
 Cl F.copies_Table_Ack #[.pointer t12, .int .i64 1, .int .i64 4] h_20 fun v_14 h_21 =>
 ∃ t45, v_14 = .int .i64 t45 ∧
 if (t18_0 == 1) = true then
 if (t18_1 == 0) = true then
 ∃ t54_p t54_l t54_c, hcell h_21 ⟨b_2, 6, none⟩ = some (.slice t54_p t54_l t54_c) ∧
 ∃ (t55 : ByteArray), ConvV Tryz.prog T.s_uint8 T.string (.slice t54_p t54_l t54_c) h_21 t55 ∧
 if (t55.toList == (⟨#[97]⟩ : ByteArray).toList) = true then
 if (t29_1 == 0) = true then
 if (t33 == 14) = true then
 if (t35 == 0) = true then
 ∃ t72, hcell h_21 ⟨b_3, 0, none⟩ = some (.int .i64 t72) ∧
 if (t72 == 1) = true then
 if (t39_1 == 0) = true then
 if (((t43_l : Nat) : Int) == 1) = true then
 ((0 : Int) ≤ 0 ∧ 0 < ((t43_l : Nat) : Int)) ∧
 onSome t43_p fun a =>
 ∃ t87, hcell h_21 (a.add (Int.toNat 0 * 1)) = some (.int .i64 t87) ∧
 if (t87 == 2) = true then
 if (t45 == 14) = true then
 Cl F.copies_Table_Counts #[.pointer t12] h_21 fun v_15 h_22 =>
 ∃ t96_0 t96_1 t96_2 t96_3 t96_4 t96_5, v_15 = .agg #[.int .i64 t96_0, .int .i64 t96_1, .int .i64 t96_2, .int .i64 t96_3, .int .i64 t96_4, .int .i64 t96_5] ∧
 ∃ (eq : Bool), EqV Tryz.prog T.a6_int (.agg #[.int .i64 t96_0, .int .i64 t96_1, .int .i64 t96_2, .int .i64 t96_3, .int .i64 t96_4, .int .i64 t96_5]) (.agg #[.int .i64 2, .int .i64 1, .int .i64 0, .int .i64 0, .int .i64 1, .int .i64 0]) eq ∧
 R (.bool eq) h_22
 else
 R (.bool false) h_21
 else
 R (.bool false) h_21
 else
 R (.bool false) h_21
 else
 R (.bool false) h_21
 else
 R (.bool false) h_21
 else
 R (.bool false) h_21
 else
 R (.bool false) h_21
 else
 R (.bool false) h_21
 else
 R (.bool false) h_21
 else
 R (.bool false) h_21
 else
 R (.bool false) h_21) : CallsH Tryz.prog F.law21_alive #[] h R :=
 callsH_of_body (.seq .leaf (.seq .leaf (.seq .leaf (.seq .leaf (.seq .leaf (.seq .leaf (.seq .leaf (.seq .leaf (.seq .leaf (.seq .leaf (.seq .leaf .leaf))))))))))) Tryz.func10 rfl rfl (Eq.mp (by kernel_rfl) hv)
end Go.Proofs.YtgccegnmggjkjaaGreatDoor
set_option maxRecDepth 100000
namespace Go.Proofs.YtgccegnmggjkjaaGreatDoor
open Go.Den Go.Heapq
namespace Cps
open Eid Alarm Fld
variable {h h' : Heap} {R : Value → Heap → Prop} {t : Nat} {X X' : Ft} {s s' : CF} {p : Option Addr} {n c : Nat}
def Out (X : Ft) (h : Heap) (Q : Nat → Prop) : Prop := ∀ c, Q c → c < h.size ∧ ¬ X.M c
abbrev hm : Ev := ⟨true, 7, 1, ⟨#[]⟩, ⟨#[]⟩⟩
theorem home_ok (hk : ∀ h', Fr (fun _ => False) h h' → R (ev5 hm) h') : CallsH Tryz.prog F.law21_home #[] h R :=
  law21_home.walk (eid_Eid.new fun b1 h1 e1 hb1 f1 => eid_Eid.ld hb1 (hk h1 f1))
def a0 : CF := ⟨[], 1, 0, 0, 0, [], []⟩
def a1 : CF := ⟨[⟨1, hm, [97], 50, 0, 0⟩], 2, 0, 0, 0, [(1, 50)], []⟩
def a2 : CF := ⟨[⟨1, hm, [97], 50, 0, 0⟩, ⟨2, hm, [98], 9, 0, 0⟩], 3, 0, 0, 0, [(2, 9), (1, 50)], []⟩
def a3 : CF := ⟨[⟨1, hm, [97], 50, 3, 20⟩, ⟨2, hm, [98], 9, 0, 0⟩], 3, 0, 0, 0, [(2, 9), (1, 50)], [(1, 20)]⟩
def a5 : CF := ⟨[⟨1, hm, [97], 50, 4, 5⟩, ⟨2, hm, [98], 9, 0, 0⟩], 3, 0, 0, 0, [(2, 9), (1, 50)], [(1, 5)]⟩
def a6 : CF := ⟨[⟨1, hm, [97], 50, 0, 0⟩], 3, 0, 1, 0, [(1, 50)], []⟩
theorem alive_ok (hk : ∀ h', Fr (fun _ => False) h h' → R (.bool true) h') : CallsH Tryz.prog F.law21_alive #[] h R := by
  have q1 : addF a0 hm [97] 50 = a1 := by kernel_rfl
  have q1e : addE a0 hm [97] 50 = 0 := by kernel_rfl
  have q1n : addN a0 hm [97] 50 = 1 := by kernel_rfl
  have q2 : addF a1 hm [98] 9 = a2 := by kernel_rfl
  have q3 : leaseC a2.L hm = some ⟨1, hm, [97], 50, 0, 0⟩ := by kernel_rfl
  have q3' : leaseF a2 ⟨1, hm, [97], 50, 0, 0⟩ 3 20 = a3 := by kernel_rfl
  have q4 : findE a3.L 1 4 = 14 := by kernel_rfl
  have q4' : ackF a3 1 4 = a3 := by kernel_rfl
  have q5 : findE a3.L 1 3 = 0 := by kernel_rfl
  have q5' : relF a3 1 3 = a2 := by kernel_rfl
  have q6' : leaseF a2 ⟨1, hm, [97], 50, 0, 0⟩ 4 5 = a5 := by kernel_rfl
  have q7 : Alarm.due a5.E1 9 = [(2, 9)] := by kernel_rfl
  have q7' : passF a5 9 = a6 := by kernel_rfl
  have q8 : findE a6.L 1 4 = 14 := by kernel_rfl
  have q8' : ackF a6 1 4 = a6 := by kernel_rfl
  have eqC : eqT Tryz.prog 10000 T.a6_int (.agg #[.int .i64 ((a6.next : Int) - 1), .int .i64 ((a6.L.length : Int) - (a6.E2.length : Int)), .int .i64 (a6.E2.length : Int), .int .i64 (a6.acked : Int), .int .i64 (a6.over : Int), .int .i64 (a6.gone : Int)]) (.agg #[.int .i64 2, .int .i64 1, .int .i64 0, .int .i64 0, .int .i64 1, .int .i64 0]) = some true := by kernel_rfl
  have m1 : Small a0 := ⟨by decide, by decide, by decide, by decide⟩
  have m2 : Small a1 := ⟨by decide, by decide, by decide, by decide⟩
  have m3 : Small a2 := ⟨by decide, by decide, by decide, by decide⟩
  have m4 : Small a3 := ⟨by decide, by decide, by decide, by decide⟩
  have m5 : Small a5 := ⟨by decide, by decide, by decide, by decide⟩
  have m6 : Small a6 := ⟨by decide, by decide, by decide, by decide⟩
  have bz : ∀ z ∈ a2.L, 1 ≤ z.num ∧ z.num < a2.next ∧ z.d.length ≤ 600 := by simp [Cps.a2]
  refine law21_alive.walk (new_ok fun h1 t X1 H1 u1 => ⟨_, rfl, home_ok fun h2 f2 => ⟨_, _, _, _, _, rfl, lit_ok (bs := [97]) rfl fun h3 r3 f3 => ?_⟩⟩)
  have lt1 := (H1.on f2).lt
  refine add_ok (s := a0) ((H1.on f2).on f3) m1 (by simp [a0]) (by decide) hm 50 rfl r3 rfl (fun _ a e hm => by cases e; exact absurd (lt1 _ (.inl hm)) (Nat.lt_irrefl _)) fun h4 X4 H4 s4 => ⟨_, _, rfl, ?_⟩
  rw [q1] at H4
  rw [q1e, q1n]
  have u4 := ((u1.on f2).on f3).step s4
  refine home_ok fun h5 f5 => ⟨_, _, _, _, _, rfl, lit_ok (bs := [98]) rfl fun h6 r6 f6 => ?_⟩
  have lt4 := (H4.on f5).lt
  refine add_ok (s := a1) ((H4.on f5).on f6) m2 (by simp [Cps.a1]) (by decide) hm 9 rfl r6 rfl (fun _ a e hm => by cases e; exact absurd (lt4 _ (.inl hm)) (Nat.lt_irrefl _)) fun h7 X7 H7 s7 => ⟨_, _, rfl, ?_⟩
  rw [q2] at H7
  have u7 := ((u4.on f5).on f6).step s7
  refine home_ok fun h8 f8 => ⟨_, _, _, _, _, rfl, lease_ok (H7.on f8) m3 bz hm 3 20 rfl (fun hn => absurd ⟨by omega, by omega, by omega⟩ hn) (fun _ hn => by rw [q3] at hn; cases hn) fun _ z hz h9 X9 p9 c9 H9 s9 r9 g9 => ?_⟩
  rw [q3] at hz; cases hz
  rw [q3'] at H9
  have u9 := (u7.on f8).step s9
  refine ⟨_, _, _, _, _, _, _, _, _, _, _, _, _, rfl, copies_Copy.new fun b2 h11 e11 hb11 f11 => ?_⟩
  have H11 := H9.on f11
  have o11 : Out X9 h11 (fun c => c = b2 ∨ inBlk p9 c) := fun c hc => by
    rcases hc with rfl | hc
    · exact ⟨lt_of_get hb11, fun hm => by have := H9.lt _ (.inl hm); omega⟩
    · refine ⟨?_, (g9 c hc).2⟩
      have := row_lt r9 (by simp [bc]) hc
      have := f11.1
      omega
  refine ack_ok H11 m4 (by decide) 1 4 fun h13 X13 H13 s13 => ⟨_, rfl, ?_⟩
  rw [q4'] at H13
  rw [q4]
  refine release_ok H13 m4 1 3 fun h14 X14 H14 s14 => ⟨_, rfl, ?_⟩
  rw [q5'] at H14
  rw [q5]
  refine home_ok fun h15 f15 => ⟨_, _, _, _, _, rfl, lease_ok (H14.on f15) m3 bz hm 4 5 rfl (fun hn => absurd ⟨by omega, by omega, by omega⟩ hn) (fun _ hn => by rw [q3] at hn; cases hn) fun _ z hz h16 X16 p16 c16 H16 s16 r16 g16 => ?_⟩
  rw [q3] at hz; cases hz
  rw [q6'] at H16
  refine ⟨_, _, _, _, _, _, _, _, _, _, _, _, _, rfl, copies_Copy.new fun b3 h18 e18 hb18 f18 => ?_⟩
  have S18 : StepF X9 h11 X16 h18 := (((s13.trans s14).on f15).trans s16).on f18
  have o18 : Out X16 h18 (fun c => c = b3) := fun c hc => by
    subst hc
    exact ⟨lt_of_get hb18, fun hm => by have := H16.lt _ (.inl hm); omega⟩
  refine pass_ok (H16.on f18) m5 (by decide) (by unfold Held; simp [a5, keys]) 9 fun h19 X19 p19 c19 H19 s19 N19 g19 => ⟨_, _, _, rfl, ?_⟩
  rw [q7'] at H19
  rw [q7] at N19 ⊢
  refine ack_ok H19 m6 (by decide) 1 4 fun h20 X20 H20 s20 => ⟨_, rfl, ?_⟩
  rw [q8'] at H20
  rw [q8]
  have S20 : StepF X9 h11 X20 h20 := (S18.trans s19).trans s20
  have T20 : StepF X16 h18 X20 h20 := s19.trans s20
  have hb2 := S20.fr.get hb11 (o11 _ (.inl rfl)).2
  have hb3 := T20.fr.get hb18 (o18 _ rfl).2
  have r20 := (r9.frame f11 (fun _ _ => id)).frame S20.fr (fun a e => (o11 _ (.inr ⟨a, e, rfl⟩)).2)
  rw [if_pos (by rfl), if_pos (by rfl)]
  refine ⟨_, _, _, cell_at hb2 rfl, _, conv r20 rfl, ?_⟩
  rw [str_list]
  rw [if_pos (by rw [toList_data]; decide), if_pos (by rfl), if_pos (by rfl), if_pos (by rfl)]
  refine ⟨_, cell_at hb3 rfl, ?_⟩
  rw [if_pos (by rfl), if_pos (by rfl), if_pos (by rfl)]
  refine (N19.step s20).at (i := 0) (k := 2) rfl ?_
  rw [if_pos (by rfl), if_pos (by rfl)]
  refine counts_ok H20 m6 fun h21 f21 => ⟨_, _, _, _, _, _, rfl, true, EqV.of eqC, ?_⟩
  exact hk h21 (((u9.on f11).step S20).fr.tt f21)
end Cps
end Go.Proofs.YtgccegnmggjkjaaGreatDoor
set_option maxRecDepth 100000
namespace Go.Proofs.YtgccegnmggjkjaaGreatDoor
open Go.Den Go.Heapq
namespace Cps
open Eid Alarm Fld
variable {h h' : Heap} {R : Value → Heap → Prop} {t : Nat} {X X' : Ft} {s s' : CF} {p : Option Addr} {n c : Nat}
abbrev OP.at (f : OP) (h : Heap) (b : Nat) : Prop := law21_Op.at h b f.kind f.num f.ses f.e.ipn f.e.node f.e.svc f.e.host f.e.dem f.p f.b.length f.c (f.till : Int)
theorem op_tl : tleaves Tryz.prog 5 T.law21_Op = some [T.int, T.int, T.int, T.bool, T.uint64, T.uint64, T.string, T.string, T.s_uint8, T.uint64] := by kernel_rfl
theorem Rok.str {m : Nat} {v : Value} (hr : Rok Tryz.prog h m T.string [v]) : ∃ s, v = .string s := by
  cases m with
  | zero => exact hr.elim
  | succ m =>
    unfold Rok at hr
    rw [uS] at hr
    obtain ⟨s, e, _⟩ := hr
    exact ⟨s, by simpa using e⟩
theorem op_dec (n : Nat) (cs : List Value) (hl : cs.length = 10) (hr : Rok Tryz.prog h n T.law21_Op cs) : ∃ f : OP, cs = oenc f ∧ Row h f.p (bc f.b) ∧ 0 ≤ f.e.svc := by
  have L := tleaves_ok 5 n _ _ cs op_tl (by rw [hl]; rfl) hr
  match cs, hl with
  | [a, b, c, d, e, f, g, i, j, k], _ =>
    obtain ⟨k0, rfl, _⟩ := L.int 0 rfl rfl (k := .i64) (by kernel_rfl)
    obtain ⟨k1, rfl, _⟩ := L.int 1 rfl rfl (k := .i64) (by kernel_rfl)
    obtain ⟨k2, rfl, _⟩ := L.int 2 rfl rfl (k := .i64) (by kernel_rfl)
    obtain ⟨k3, rfl⟩ := L.bool 3 rfl rfl (by kernel_rfl)
    obtain ⟨k4, rfl, _⟩ := L.int 4 rfl rfl (k := .u64) (by kernel_rfl)
    obtain ⟨k5, rfl, w5⟩ := L.int 5 rfl rfl (k := .u64) (by kernel_rfl)
    obtain ⟨m6, hm6⟩ := L.get 6 rfl rfl
    obtain ⟨k6, rfl⟩ := Rok.str hm6
    obtain ⟨m7, hm7⟩ := L.get 7 rfl rfl
    obtain ⟨k7, rfl⟩ := Rok.str hm7
    obtain ⟨m, hm⟩ := L.get 8 rfl rfl
    obtain ⟨p, q, bs, rfl, hrow⟩ := Rok.bytes (by kernel_rfl) u8 uU hm
    obtain ⟨x, rfl, w1⟩ := L.int 9 rfl rfl (k := .u64) (by kernel_rfl)
    have w1 := wf_u64 w1
    obtain ⟨x, rfl⟩ := Int.eq_ofNat_of_zero_le w1.1
    exact ⟨⟨k0, k1, k2, ⟨k3, k4, k5, k6, k7⟩, p, q, bs, x⟩, rfl, hrow, (wf_u64 w5).1⟩
theorem ops_read2 {l c : Nat} (hv : RokV Tryz.prog h T.s_law21_Op (.slice p l c)) : ∃ fs : List OP, fs.length = l ∧ Row h p (fs.flatMap oenc) ∧ ∀ f ∈ fs, Row h f.p (bc f.b) ∧ 0 ≤ f.e.svc := by
  obtain ⟨xs, h1, _, _, h2, h3⟩ := RokV.slice (e := T.law21_Op) oenc 10 (fun f => Row h f.p (bc f.b) ∧ 0 ≤ f.e.svc) (by kernel_rfl) (fun _ => rfl) (fun n cs hl hr => op_dec n cs hl hr) (by kernel_rfl) hv
  exact ⟨xs, h1, h2, h3⟩
theorem great_ok (f : OP) (hk : ∀ b h', Fr (fun _ => False) h h' → R (.bool b) h') : CallsH Tryz.prog F.law21_Great #[.agg (oenc f).toArray] h R := by
  refine law21_Great.walk (law21_Op.box fun b h1 eb hb f1 => ⟨_, _, _, cell_at hb rfl, ?_⟩)
  split
  · exact hk _ h1 f1
  · exact ⟨_, cell_at hb rfl, _, cell_at hb rfl, hk _ h1 f1⟩
theorem op_eid {f : OP} {b : Nat} {K : Bool → Int → Int → ByteArray → ByteArray → Prop} (hb : f.at h b) (hk : K f.e.ipn f.e.node f.e.svc f.e.host f.e.dem) : eid_Eid.LD h ⟨b, 3, none⟩ K :=
  ⟨_, cell_at hb rfl, _, cell_at hb rfl, _, cell_at hb rfl, _, cell_at hb rfl, _, cell_at hb rfl, hk⟩
end Cps
end Go.Proofs.YtgccegnmggjkjaaGreatDoor
set_option maxRecDepth 100000
set_option maxHeartbeats 4000000
namespace Go.Proofs.YtgccegnmggjkjaaGreatDoor
open Go.Den
variable {h : Heap} {R : Value → Heap → Prop}
theorem law21_do.walk {t : Nat} {o_0 : Int} {o_1 : Int} {o_2 : Int} {o_3 : Bool} {o_4 : Int} {o_5 : Int} {o_6 : ByteArray} {o_7 : ByteArray} {o_8_p : Option Addr} {o_8_l o_8_c : Nat} {o_9 : Int} (hv :
 NewP h (.cells #[.int .i64 o_0, .int .i64 o_1, .int .i64 o_2, .bool o_3, .int .u64 o_4, .int .u64 o_5, .string o_6, .string o_7, .slice o_8_p o_8_l o_8_c, .int .u64 o_9] T.law21_Op) fun b h_1 =>
 ∃ t10, hcell h_1 ⟨b, 0, none⟩ = some (.int .i64 t10) ∧
 JoinP (fun (e : Int) (n : Int) (h_2 : Heap) =>
 Cl F.copies_Table_Ready #[.pointer (some ⟨t, 0, none⟩), .agg #[.bool true, .int .u64 7, .int .u64 1, .string (⟨#[]⟩ : ByteArray), .string (⟨#[]⟩ : ByteArray)]] h_2 fun v h_3 =>
 ∃ t76, v = .int .i64 t76 ∧
 R (.int .i64 (IntKind.wrap .i64 ((IntKind.wrap .i64 ((IntKind.wrap .i64 (100 * n)) + e)) + (IntKind.wrap .i64 (t76 * 100000))))) h_3)
 (fun J =>
 JoinP (fun (e_1 : Int) (n_1 : Int) (h_4 : Heap) =>
 J e_1 n_1 h_4)
 (fun J_1 =>
 if (t10 == 0) = true then
 eid_Eid.LD h_1 ⟨b, 3, none⟩ fun t16_0 t16_1 t16_2 t16_3 t16_4 =>
 ∃ t18_p t18_l t18_c, hcell h_1 ⟨b, 8, none⟩ = some (.slice t18_p t18_l t18_c) ∧
 ∃ t20, hcell h_1 ⟨b, 9, none⟩ = some (.int .u64 t20) ∧
 Cl F.copies_Table_Add #[.pointer (some ⟨t, 0, none⟩), .agg #[.bool t16_0, .int .u64 t16_1, .int .u64 t16_2, .string t16_3, .string t16_4], .slice t18_p t18_l t18_c, .int .u64 t20] h_1 fun v_1 h_5 =>
 ∃ t21_0 t21_1, v_1 = .tuple #[.int .i64 t21_0, .int .i64 t21_1] ∧
 J_1 t21_1 t21_0 h_5
 else
 JoinP (fun (e_2 : Int) (n_2 : Int) (h_6 : Heap) =>
 J_1 e_2 n_2 h_6)
 (fun J_2 =>
 if (t10 == 1) = true then
 eid_Eid.LD h_1 ⟨b, 3, none⟩ fun t29_0 t29_1 t29_2 t29_3 t29_4 =>
 ∃ t31, hcell h_1 ⟨b, 2, none⟩ = some (.int .i64 t31) ∧
 ∃ t33, hcell h_1 ⟨b, 9, none⟩ = some (.int .u64 t33) ∧
 Cl F.copies_Table_Lease #[.pointer (some ⟨t, 0, none⟩), .agg #[.bool t29_0, .int .u64 t29_1, .int .u64 t29_2, .string t29_3, .string t29_4], .int .i64 t31, .int .u64 t33] h_1 fun v_2 h_7 =>
 ∃ t34_0_0 t34_0_1 t34_0_2 t34_0_3 t34_0_4 t34_0_5 t34_0_6_p t34_0_6_l t34_0_6_c t34_0_7 t34_0_8 t34_0_9 t34_1, v_2 = .tuple #[.agg #[.int .i64 t34_0_0, .bool t34_0_1, .int .u64 t34_0_2, .int .u64 t34_0_3, .string t34_0_4, .string t34_0_5, .slice t34_0_6_p t34_0_6_l t34_0_6_c, .int .u64 t34_0_7, .int .i64 t34_0_8, .int .u64 t34_0_9], .int .i64 t34_1] ∧
 NewP h_7 (.cells #[.int .i64 0, .bool false, .int .u64 0, .int .u64 0, .string (⟨#[]⟩ : ByteArray), .string (⟨#[]⟩ : ByteArray), .slice none 0 0, .int .u64 0, .int .i64 0, .int .u64 0] T.copies_Copy) fun b_1 h_8 =>
 copies_Copy.ST h_8 ⟨b_1, 0, none⟩ t34_0_0 t34_0_1 t34_0_2 t34_0_3 t34_0_4 t34_0_5 t34_0_6_p t34_0_6_l t34_0_6_c t34_0_7 t34_0_8 t34_0_9 fun h_9 =>
 ∃ t38, hcell h_9 ⟨b_1, 0, none⟩ = some (.int .i64 t38) ∧
 J_2 t34_1 t38 h_9
 else
 JoinP (fun (e_3 : Int) (n_3 : Int) (h_10 : Heap) =>
 J_2 e_3 n_3 h_10)
 (fun J_3 =>
 if (t10 == 2) = true then
 ∃ t44, hcell h_1 ⟨b, 1, none⟩ = some (.int .i64 t44) ∧
 ∃ t46, hcell h_1 ⟨b, 2, none⟩ = some (.int .i64 t46) ∧
 Cl F.copies_Table_Ack #[.pointer (some ⟨t, 0, none⟩), .int .i64 t44, .int .i64 t46] h_1 fun v_3 h_11 =>
 ∃ t47, v_3 = .int .i64 t47 ∧
 J_3 t47 0 h_11
 else
 JoinP (fun (e_4 : Int) (n_4 : Int) (h_12 : Heap) =>
 J_3 e_4 n_4 h_12)
 (fun J_4 =>
 if (t10 == 3) = true then
 ∃ t52, hcell h_1 ⟨b, 1, none⟩ = some (.int .i64 t52) ∧
 ∃ t54, hcell h_1 ⟨b, 2, none⟩ = some (.int .i64 t54) ∧
 Cl F.copies_Table_Release #[.pointer (some ⟨t, 0, none⟩), .int .i64 t52, .int .i64 t54] h_1 fun v_4 h_13 =>
 ∃ t55, v_4 = .int .i64 t55 ∧
 J_4 t55 0 h_13
 else
 JoinP (fun (n_5 : Int) (h_14 : Heap) =>
 J_4 0 n_5 h_14)
 (fun J_5 =>
 if (t10 == 4) = true then
 ∃ t60, hcell h_1 ⟨b, 9, none⟩ = some (.int .u64 t60) ∧
 Cl F.copies_Table_Pass #[.pointer (some ⟨t, 0, none⟩), .int .u64 t60] h_1 fun v_5 h_15 =>
 ∃ t61_p t61_l t61_c, v_5 = .slice t61_p t61_l t61_c ∧
 J_5 ((t61_l : Nat) : Int) h_15
 else
 JoinP (fun (n_6 : Int) (h_16 : Heap) =>
 J_5 n_6 h_16)
 (fun J_6 =>
 if (t10 == 5) = true then
 eid_Eid.LD h_1 ⟨b, 3, none⟩ fun t67_0 t67_1 t67_2 t67_3 t67_4 =>
 Cl F.copies_Table_Drop #[.pointer (some ⟨t, 0, none⟩), .agg #[.bool t67_0, .int .u64 t67_1, .int .u64 t67_2, .string t67_3, .string t67_4]] h_1 fun v_6 h_17 =>
 ∃ t68_p t68_l t68_c, v_6 = .slice t68_p t68_l t68_c ∧
 J_6 ((t68_l : Nat) : Int) h_17
 else
 J_6 0 h_1)))))))) : CallsH Tryz.prog F.law21_do #[.pointer (some ⟨t, 0, none⟩), .agg #[.int .i64 o_0, .int .i64 o_1, .int .i64 o_2, .bool o_3, .int .u64 o_4, .int .u64 o_5, .string o_6, .string o_7, .slice o_8_p o_8_l o_8_c, .int .u64 o_9]] h R :=
 callsH_of_body (.seq .leaf (.seq .leaf (.seq .leaf (.seq (.seq .leaf (.join [(5, .one (.int .i64)), (6, .one (.int .i64))] (.block (.seq .leaf (.join [(5, .one (.int .i64)), (6, .one (.int .i64))] (.cond .leaf (.seq .leaf (.join [(5, .one (.int .i64)), (6, .one (.int .i64))] (.cond (.seq .leaf .leaf) (.seq .leaf (.join [(5, .one (.int .i64)), (6, .one (.int .i64))] (.cond .leaf (.seq .leaf (.join [(5, .one (.int .i64)), (6, .one (.int .i64))] (.cond .leaf (.seq .leaf (.join [(6, .one (.int .i64))] (.cond .leaf (.seq .leaf (.join [(6, .one (.int .i64))] (.cond .leaf .leaf))))))))))))))))))))) (.seq .leaf .leaf))))) Tryz.func37 rfl rfl (Eq.mp (by kernel_rfl) hv)
theorem law21_CopiesBack.walk {ops_p : Option Addr} {ops_l ops_c : Nat} {more_p : Option Addr} {more_l more_c : Nat} (hv :
 Cl F.copies_New #[] h fun v h_1 =>
 ∃ t15, v = .pointer t15 ∧
 ∃ (I : Int → Heap → Prop) (mu : Int → Heap → Nat), I 0 h_1 ∧ ∀ (i : Int) (h_2 : Heap), I i h_2 →
 JoinP (fun (t23 : Bool) (h_3 : Heap) =>
 if t23 = true then
 ((0 : Int) ≤ i ∧ i < ((ops_l : Nat) : Int)) ∧
 onSome ops_p fun a =>
 law21_Op.LD h_3 (a.add (Int.toNat i * 10)) fun t29_0 t29_1 t29_2 t29_3 t29_4 t29_5 t29_6 t29_7 t29_8_p t29_8_l t29_8_c t29_9 =>
 Cl F.law21_Great #[.agg #[.int .i64 t29_0, .int .i64 t29_1, .int .i64 t29_2, .bool t29_3, .int .u64 t29_4, .int .u64 t29_5, .string t29_6, .string t29_7, .slice t29_8_p t29_8_l t29_8_c, .int .u64 t29_9]] h_3 fun v_1 h_4 =>
 ∃ t30, v_1 = .bool t30 ∧
 if t30 = true then
 Cl F.law21_alive #[] h_4 fun v_2 h_5 =>
 ∃ t31, v_2 = .bool t31 ∧
 R (.bool t31) h_5
 else
 ((0 : Int) ≤ i ∧ i < ((ops_l : Nat) : Int)) ∧
 onSome ops_p fun a_1 =>
 law21_Op.LD h_4 (a_1.add (Int.toNat i * 10)) fun t36_0 t36_1 t36_2 t36_3 t36_4 t36_5 t36_6 t36_7 t36_8_p t36_8_l t36_8_c t36_9 =>
 Cl F.law21_do #[.pointer t15, .agg #[.int .i64 t36_0, .int .i64 t36_1, .int .i64 t36_2, .bool t36_3, .int .u64 t36_4, .int .u64 t36_5, .string t36_6, .string t36_7, .slice t36_8_p t36_8_l t36_8_c, .int .u64 t36_9]] h_4 fun v_3 h_6 =>
 ∃ t37, v_3 = .int .i64 t37 ∧
 (I (IntKind.wrap .i64 (i + 1)) h_6 ∧ mu (IntKind.wrap .i64 (i + 1)) h_6 < mu i h_2)
 else
 Cl F.copies_Table_Save #[.pointer t15] h_3 fun v_4 h_7 =>
 ∃ t39_p t39_l t39_c, v_4 = .slice t39_p t39_l t39_c ∧
 Cl F.copies_Load #[.slice t39_p t39_l t39_c] h_7 fun v_5 h_8 =>
 ∃ t42_0 t42_1, v_5 = .tuple #[.pointer t42_0, .int .i64 t42_1] ∧
 JoinP (fun (t62 : Bool) (h_9 : Heap) =>
 if t62 = true then
 R (.bool false) h_9
 else
 ∃ (I_1 : Int → Heap → Prop) (mu_1 : Int → Heap → Nat), I_1 0 h_9 ∧ ∀ (i_1 : Int) (h_10 : Heap), I_1 i_1 h_10 →
 JoinP (fun (t70 : Bool) (h_11 : Heap) =>
 if t70 = true then
 ((0 : Int) ≤ i_1 ∧ i_1 < ((more_l : Nat) : Int)) ∧
 onSome more_p fun a_2 =>
 law21_Op.LD h_11 (a_2.add (Int.toNat i_1 * 10)) fun t76_0 t76_1 t76_2 t76_3 t76_4 t76_5 t76_6 t76_7 t76_8_p t76_8_l t76_8_c t76_9 =>
 Cl F.law21_Great #[.agg #[.int .i64 t76_0, .int .i64 t76_1, .int .i64 t76_2, .bool t76_3, .int .u64 t76_4, .int .u64 t76_5, .string t76_6, .string t76_7, .slice t76_8_p t76_8_l t76_8_c, .int .u64 t76_9]] h_11 fun v_6 h_12 =>
 ∃ t77, v_6 = .bool t77 ∧
 if t77 = true then
 Cl F.law21_alive #[] h_12 fun v_7 h_13 =>
 ∃ t78, v_7 = .bool t78 ∧
 R (.bool t78) h_13
 else
 JoinP (fun (t98 : Bool) (h_14 : Heap) =>
 if t98 = true then
 R (.bool false) h_14
 else
 (I_1 (IntKind.wrap .i64 (i_1 + 1)) h_14 ∧ mu_1 (IntKind.wrap .i64 (i_1 + 1)) h_14 < mu_1 i_1 h_10))
 (fun J_3 =>
 ((0 : Int) ≤ i_1 ∧ i_1 < ((more_l : Nat) : Int)) ∧
 onSome more_p fun a_3 =>
 law21_Op.LD h_12 (a_3.add (Int.toNat i_1 * 10)) fun t83_0 t83_1 t83_2 t83_3 t83_4 t83_5 t83_6 t83_7 t83_8_p t83_8_l t83_8_c t83_9 =>
 ((0 : Int) ≤ i_1 ∧ i_1 < ((more_l : Nat) : Int)) ∧
 onSome more_p fun a_4 =>
 law21_Op.LD h_12 (a_4.add (Int.toNat i_1 * 10)) fun t89_0 t89_1 t89_2 t89_3 t89_4 t89_5 t89_6 t89_7 t89_8_p t89_8_l t89_8_c t89_9 =>
 Cl F.law21_do #[.pointer t15, .agg #[.int .i64 t83_0, .int .i64 t83_1, .int .i64 t83_2, .bool t83_3, .int .u64 t83_4, .int .u64 t83_5, .string t83_6, .string t83_7, .slice t83_8_p t83_8_l t83_8_c, .int .u64 t83_9]] h_12 fun v_8 h_15 =>
 ∃ t84, v_8 = .int .i64 t84 ∧
 heldL (a_4.add (Int.toNat i_1 * 10)) [.int .i64 t89_0, .int .i64 t89_1, .int .i64 t89_2, .bool t89_3, .int .u64 t89_4, .int .u64 t89_5, .string t89_6, .string t89_7, .slice t89_8_p t89_8_l t89_8_c, .int .u64 t89_9] 0 h_15 ∧
 Cl F.law21_do #[.pointer t42_0, .agg #[.int .i64 t89_0, .int .i64 t89_1, .int .i64 t89_2, .bool t89_3, .int .u64 t89_4, .int .u64 t89_5, .string t89_6, .string t89_7, .slice t89_8_p t89_8_l t89_8_c, .int .u64 t89_9]] h_15 fun v_9 h_16 =>
 ∃ t90, v_9 = .int .i64 t90 ∧
 if (t84 != t90) = true then
 J_3 true h_16
 else
 Cl F.copies_Table_Counts #[.pointer t15] h_16 fun v_10 h_17 =>
 ∃ t94_0 t94_1 t94_2 t94_3 t94_4 t94_5, v_10 = .agg #[.int .i64 t94_0, .int .i64 t94_1, .int .i64 t94_2, .int .i64 t94_3, .int .i64 t94_4, .int .i64 t94_5] ∧
 Cl F.copies_Table_Counts #[.pointer t42_0] h_17 fun v_11 h_18 =>
 ∃ t96_0 t96_1 t96_2 t96_3 t96_4 t96_5, v_11 = .agg #[.int .i64 t96_0, .int .i64 t96_1, .int .i64 t96_2, .int .i64 t96_3, .int .i64 t96_4, .int .i64 t96_5] ∧
 ∃ (eq : Bool), EqV Tryz.prog T.a6_int (.agg #[.int .i64 t94_0, .int .i64 t94_1, .int .i64 t94_2, .int .i64 t94_3, .int .i64 t94_4, .int .i64 t94_5]) (.agg #[.int .i64 t96_0, .int .i64 t96_1, .int .i64 t96_2, .int .i64 t96_3, .int .i64 t96_4, .int .i64 t96_5]) eq ∧
 J_3 (!eq) h_18)
 else
 ((0 : Int) ≤ IntKind.wrap .i64 (((t39_l : Nat) : Int) - 1) ∧ IntKind.wrap .i64 (((t39_l : Nat) : Int) - 1) ≤ ((t39_c : Nat) : Int)) ∧
 Cl F.copies_Load #[.slice (slBase t39_p t39_c 0 1) ((Int.toNat (IntKind.wrap .i64 (((t39_l : Nat) : Int) - 1))) - 0) (t39_c - 0)] h_11 fun v_12 h_19 =>
 ∃ t105_0 t105_1, v_12 = .tuple #[.pointer t105_0, .int .i64 t105_1] ∧
 NewP h_19 (.cells #[] T.s_uint8) fun b h_20 =>
 denSem Tryz.prog (Builtin.append_ #[T.s_s_uint8, T.s_s_uint8] T.s_s_uint8 #[.slice (some ⟨b, 0, none⟩) 0 0, .slice t39_p t39_l t39_c]) h_20 fun v_13 h_21 =>
 ∃ t111_p t111_l t111_c, v_13 = .slice t111_p t111_l t111_c ∧
 NewP h_21 (.cells #[.int .u8 1] T.uint8) fun b_1 h_22 =>
 NewP h_22 (.cells #[.slice (some ⟨b_1, 0, none⟩) 1 1] T.s_uint8) fun b_2 h_23 =>
 denSem Tryz.prog (Builtin.append_ #[T.s_s_uint8, T.s_s_uint8] T.s_s_uint8 #[.slice t111_p t111_l t111_c, .slice (some ⟨b_2, 0, none⟩) 1 1]) h_23 fun v_14 h_24 =>
 ∃ t114_p t114_l t114_c, v_14 = .slice t114_p t114_l t114_c ∧
 Cl F.copies_Load #[.slice t114_p t114_l t114_c] h_24 fun v_15 h_25 =>
 ∃ t115_0 t115_1, v_15 = .tuple #[.pointer t115_0, .int .i64 t115_1] ∧
 Cl F.law21_alive #[] h_25 fun v_16 h_26 =>
 ∃ t118, v_16 = .bool t118 ∧
 if t118 = true then
 Cl F.copies_Table_Save #[.pointer t15] h_26 fun v_17 h_27 =>
 ∃ t121_p t121_l t121_c, v_17 = .slice t121_p t121_l t121_c ∧
 Cl F.copies_Table_Save #[.pointer t42_0] h_27 fun v_18 h_28 =>
 ∃ t123_p t123_l t123_c, v_18 = .slice t123_p t123_l t123_c ∧
 Cl F.law19_Same #[.slice t121_p t121_l t121_c, .slice t123_p t123_l t123_c] h_28 fun v_19 h_29 =>
 ∃ t124, v_19 = .bool t124 ∧
 if t124 = true then
 if (t105_1 == 3) = true then
 R (.bool (t115_1 == 3)) h_29
 else
 R (.bool false) h_29
 else
 R (.bool false) h_29
 else
 R (.bool false) h_26)
 (fun J_2 =>
 if (decide (i_1 < ((more_l : Nat) : Int))) = true then
 J_2 (decide (i_1 < 40)) h_10
 else
 J_2 false h_10))
 (fun J_1 =>
 if (t42_1 != 0) = true then
 J_1 true h_8
 else
 if t42_0.isNone = true then
 J_1 true h_8
 else
 Cl F.copies_Table_Save #[.pointer t42_0] h_8 fun v_20 h_30 =>
 ∃ t53_p t53_l t53_c, v_20 = .slice t53_p t53_l t53_c ∧
 Cl F.law19_Same #[.slice t53_p t53_l t53_c, .slice t39_p t39_l t39_c] h_30 fun v_21 h_31 =>
 ∃ t55, v_21 = .bool t55 ∧
 if (!t55) = true then
 J_1 true h_31
 else
 J_1 (((t39_l : Nat) : Int) == 0) h_31))
 (fun J =>
 if (decide (i < ((ops_l : Nat) : Int))) = true then
 J (decide (i < 60)) h_2
 else
 J false h_2)) : CallsH Tryz.prog F.law21_CopiesBack #[.slice ops_p ops_l ops_c, .slice more_p more_l more_c] h R :=
 callsH_of_body (.seq .leaf (.seq .leaf (.seq (.seq .leaf (.block (.loop [(6, .one (.int .i64))] (.seq (.seq (.join [(23, .one (.bool))] .leaf) (.cond .leaf .leaf)) (.seq (.block (.seq (.seq .leaf (.cond (.seq .leaf .leaf) .leaf)) .leaf)) .leaf))))) (.seq .leaf (.seq .leaf (.seq (.seq (.join [(62, .one (.bool))] .leaf) (.cond (.seq .leaf .leaf) .leaf)) (.seq (.seq .leaf (.block (.loop [(10, .one (.int .i64))] (.seq (.seq (.join [(70, .one (.bool))] .leaf) (.cond .leaf .leaf)) (.seq (.block (.seq (.seq .leaf (.cond (.seq .leaf .leaf) .leaf)) (.seq (.join [(98, .one (.bool))] (.plan (.op 0 (.op 1 (.op 2 (.op 3 (.op 4 (.op 6 (.op 7 (.op 8 (.op 9 (.op 10 (.op 5 (.op 11 (.op 12 (.op 13 (.op 14 (.op 16 (.op 15 (.op 17 (.op 18 (.op 19 .done)))))))))))))))))))))) (.cond (.seq .leaf .leaf) .leaf)))) .leaf))))) (.seq .leaf (.seq .leaf (.seq .leaf .leaf)))))))))) Tryz.func5 rfl rfl (Eq.mp (by kernel_rfl) hv)
end Go.Proofs.YtgccegnmggjkjaaGreatDoor
set_option maxRecDepth 100000
namespace Go.Proofs.YtgccegnmggjkjaaGreatDoor
open Go.Den Go.Fields Go.Heapq
namespace Cps
open Eid Alarm Fld
variable {h h' : Heap} {R : Value → Heap → Prop} {t : Nat} {X X' : Ft} {s s' : CF} {k : Nat}
abbrev e71 : Ev := ⟨true, 7, 1, ⟨#[]⟩, ⟨#[]⟩⟩
def doR (f : OP) (s : CF) : Int := IntKind.wrap .i64 ((IntKind.wrap .i64 ((IntKind.wrap .i64 (100 * (doE f s).2)) + (doE f s).1)) + (IntKind.wrap .i64 ((readyN (doS f s).L e71 : Int) * 100000)))
theorem do_ok1 (H : Ct h t X s) (G : Good s k) (hk8 : k ≤ 30000) (f : OP) (rowf : Row h f.p (bc f.b)) (hpm : f.b ≠ [] → ∀ a, f.p = some a → ¬ X.M a.block) (hsv : 0 ≤ f.e.svc)
    (hk : ∀ h' X', Ct h' t X' (doS f s) → StepF X h X' h' → R (.int .i64 (doR f s)) h') : CallsH Tryz.prog F.law21_do #[.pointer (some ⟨t, 0, none⟩), .agg (oenc f).toArray] h R := by
  have O := H.ord
  have sm := G.small O (by omega)
  have GL := G.L
  have G' := Good.do (f := f) G O hsv hk8
  refine law21_do.walk (law21_Op.box fun b h1 eb hb f1 => ⟨_, cell_at hb rfl, JoinP.of fun J hJ => ?_⟩)
  have H1 := H.on f1
  have row1 := rowf.frame f1 (fun _ _ => id)
  have fin : ∀ g X', Ct g t X' (doS f s) → StepF X h1 X' g → J (doE f s).1 (doE f s).2 g := by
    intro g X' H' st
    subst hJ
    exact ready_ok H' (G'.small H'.ord (by omega)) e71 fun g2 f2 => ⟨_, rfl, hk g2 X' (H'.on f2) ((StepF.no f1 st).on f2)⟩
  clear hJ hk
  refine JoinP.of fun J1 hJ1 => ?_
  subst hJ1
  by_cases k0 : f.kind = 0
  · have eS : doS f s = addF s f.e f.b f.till := if_pos k0
    have eE : doE f s = (addE s f.e f.b f.till, addN s f.e f.b f.till) := if_pos k0
    rw [eS, eE] at fin
    rw [if_pos (by simpa using k0)]
    have hc := G.ok.cnt
    exact op_eid hb ⟨_, _, _, cell_at hb rfl, _, cell_at hb rfl, add_ok H1 sm (fun z hz => (G.ok.bd z hz).2.1) (by omega) f.e f.till rfl row1 rfl hpm fun g X' H' st => ⟨_, _, rfl, fin g X' H' st⟩⟩
  rw [if_neg (by simpa using k0)]
  refine JoinP.of fun J2 hJ2 => ?_
  subst hJ2
  by_cases k1 : f.kind = 1
  · have eS : doS f s = (if mayS f.ses f.till then (match leaseC s.L f.e with | none => s | some z => leaseF s z f.ses f.till) else s) := (if_neg k0).trans (if_pos k1)
    have eE : doE f s = (if mayS f.ses f.till then (match leaseC s.L f.e with | none => ((4, 0) : Int × Int) | some z => (0, (z.num : Int))) else (1, 0)) := (if_neg k0).trans (if_pos k1)
    rw [if_pos (by simpa using k1)]
    refine op_eid hb ⟨_, cell_at hb rfl, _, cell_at hb rfl, lease_ok H1 sm G.ok.bd f.e f.ses f.till rfl (fun hm g fg => ?_) (fun hm hn g fg => ?_) (fun hm z hz g X' p' c' H' st _ _ => ?_)⟩
    · rw [eS, eE, if_neg hm, if_neg hm] at fin
      exact ⟨_, _, _, _, _, _, _, _, _, _, _, _, _, rfl, copies_Copy.new fun b2 h9 e9 hb2 f9 => ⟨_, cell_at hb2 rfl, fin h9 X (H1.on (fg.tt f9)) (StepF.of_no (fg.tt f9))⟩⟩
    · rw [eS, eE, if_pos hm, if_pos hm, hn] at fin
      exact ⟨_, _, _, _, _, _, _, _, _, _, _, _, _, rfl, copies_Copy.new fun b2 h9 e9 hb2 f9 => ⟨_, cell_at hb2 rfl, fin h9 X (H1.on (fg.tt f9)) (StepF.of_no (fg.tt f9))⟩⟩
    · rw [eS, eE, if_pos hm, if_pos hm, hz] at fin
      exact ⟨_, _, _, _, _, _, _, _, _, _, _, _, _, rfl, copies_Copy.new fun b2 h9 e9 hb2 f9 => ⟨_, cell_at hb2 rfl, fin h9 X' (H'.on f9) (st.on f9)⟩⟩
  rw [if_neg (by simpa using k1)]
  refine JoinP.of fun J3 hJ3 => ?_
  subst hJ3
  by_cases k2 : f.kind = 2
  · have eS : doS f s = ackF s f.num f.ses := (if_neg k0).trans ((if_neg k1).trans (if_pos k2))
    have eE : doE f s = (findE s.L f.num f.ses, 0) := (if_neg k0).trans ((if_neg k1).trans (if_pos k2))
    rw [eS, eE] at fin
    rw [if_pos (by simpa using k2)]
    exact ⟨_, cell_at hb rfl, _, cell_at hb rfl, ack_ok H1 sm (by omega) f.num f.ses fun g X' H' st => ⟨_, rfl, fin g X' H' st⟩⟩
  rw [if_neg (by simpa using k2)]
  refine JoinP.of fun J4 hJ4 => ?_
  subst hJ4
  by_cases k3 : f.kind = 3
  · have eS : doS f s = relF s f.num f.ses := (if_neg k0).trans ((if_neg k1).trans ((if_neg k2).trans (if_pos k3)))
    have eE : doE f s = (findE s.L f.num f.ses, 0) := (if_neg k0).trans ((if_neg k1).trans ((if_neg k2).trans (if_pos k3)))
    rw [eS, eE] at fin
    rw [if_pos (by simpa using k3)]
    exact ⟨_, cell_at hb rfl, _, cell_at hb rfl, release_ok H1 sm f.num f.ses fun g X' H' st => ⟨_, rfl, fin g X' H' st⟩⟩
  rw [if_neg (by simpa using k3)]
  refine JoinP.of fun J5 hJ5 => ?_
  subst hJ5
  by_cases k4 : f.kind = 4
  · have eS : doS f s = passF s (f.till : Int) := (if_neg k0).trans ((if_neg k1).trans ((if_neg k2).trans ((if_neg k3).trans (if_pos k4))))
    have eE : doE f s = (0, ((Alarm.due s.E1 (f.till : Int)).length : Int)) := (if_neg k0).trans ((if_neg k1).trans ((if_neg k2).trans ((if_neg k3).trans (if_pos k4))))
    rw [eS, eE] at fin
    rw [if_pos (by simpa using k4)]
    exact ⟨_, cell_at hb rfl, pass_ok H1 sm (by omega) G.held (f.till : Int) fun g X' p' c' H' st _ _ => ⟨_, _, _, rfl, fin g X' H' st⟩⟩
  rw [if_neg (by simpa using k4)]
  refine JoinP.of fun J6 hJ6 => ?_
  subst hJ6
  by_cases k5 : f.kind = 5
  · have eS : doS f s = dropF s f.e := (if_neg k0).trans ((if_neg k1).trans ((if_neg k2).trans ((if_neg k3).trans ((if_neg k4).trans (if_pos k5)))))
    have eE : doE f s = (0, ((ofL s.L f.e).length : Int)) := (if_neg k0).trans ((if_neg k1).trans ((if_neg k2).trans ((if_neg k3).trans ((if_neg k4).trans (if_pos k5)))))
    rw [eS, eE] at fin
    rw [if_pos (by simpa using k5)]
    exact op_eid hb (drop_ok H1 sm (by omega) f.e fun g X' p' c' H' st _ _ => ⟨_, _, _, rfl, fin g X' H' st⟩)
  · have eS : doS f s = s := (if_neg k0).trans ((if_neg k1).trans ((if_neg k2).trans ((if_neg k3).trans ((if_neg k4).trans (if_neg k5)))))
    have eE : doE f s = (0, 0) := (if_neg k0).trans ((if_neg k1).trans ((if_neg k2).trans ((if_neg k3).trans ((if_neg k4).trans (if_neg k5)))))
    rw [eS, eE] at fin
    rw [if_neg (by simpa using k5)]
    exact fin h1 X H1 (StepF.refl _ _)
end Cps
end Go.Proofs.YtgccegnmggjkjaaGreatDoor
set_option maxRecDepth 100000
namespace Go.Proofs.YtgccegnmggjkjaaGreatDoor
open Go.Den Go.Fields Go.Heapq
namespace Cps
open Eid Alarm Fld
variable {h h' h0 : Heap} {R : Value → Heap → Prop} {t : Nat} {X : Ft} {s s1 : CF} {p q : Option Addr} {n m c d l k j : Nat} {xs ys : List BV} {D : Nat → Prop}
theorem Good.mono (G : Good s k) {k' : Nat} (hk : k ≤ k') : Good s k' := ⟨G.ok, G.all, G.may, G.fr, G.full, by have := G.len; omega⟩
structure RowsD (h : Heap) (p : Option Addr) (l c : Nat) (xs : List BV) (D : Nat → Prop) : Prop where
  rows : Fld.Rows h p l c xs
  inp : ∀ y, inBlk p y → D y
  ind : ∀ x ∈ xs, x.b ≠ [] → ∀ y, inBlk x.p y → D y
theorem RowsD.frame {Q : Nat → Prop} (H : RowsD h p l c xs D) (f : Fr Q h h') (hq : ∀ y, D y → ¬ Q y) : RowsD h' p l c xs D :=
  ⟨⟨H.rows.len, H.rows.row.frame f (fun a e => hq _ (H.inp _ ⟨a, e, rfl⟩)), H.rows.cap, fun x hx => by
    by_cases hb : x.b = []
    · rw [hb]; exact Row.nil
    · exact (H.rows.each x hx).frame f (fun a e => hq _ (H.ind x hx hb _ ⟨a, e, rfl⟩))⟩, H.inp, H.ind⟩
theorem BL.to_rowsD {bs : List (List UInt8)} (H : Fld.BL h0 h p l c bs) : ∃ xs D, RowsD h p l c xs D ∧ xs.map BV.b = bs ∧ ∀ y, D y → h0.size ≤ y ∧ y < h.size := by
  have lt : ∀ {y}, inBlk p y → y < h.size := fun hy => H.lt hy
  obtain ⟨xs, D, e1, o, e2, ok, hD, hp⟩ := H
  refine ⟨xs, fun y => D y ∨ inBlk p y, ⟨⟨e1, o.row', o.le, fun x hx => (ok x hx).row⟩, fun y hy => .inr hy, fun x hx hb y hy => .inl ((ok x hx).own hb y hy)⟩, e2, fun y hy => ?_⟩
  rcases hy with hy | hy
  · exact ⟨(hD y hy).1, (hD y hy).2.1⟩
  · exact ⟨hp y hy, lt hy⟩
theorem load_nil (hk : R (.tuple #[.pointer none, .int .i64 3]) h) : CallsH Tryz.prog F.copies_Load #[.slice p 0 c] h R := by
  refine copies_Load.walk ?_
  rw [if_pos (by rfl)]
  exact hk
theorem fl (xs : List BV) : (xs.flatMap nenc).length = xs.length := by induction xs with | nil => rfl | cons _ _ ih => simp [ih]
theorem app_rows {K : Value → Heap → Prop} (H : Fld.Rows h p l c xs) (hl : l ≤ 1000) (hk : ∀ h' p' l' c' xs', Fld.Rows h' p' l' c' xs' → xs'.map BV.b = xs.map BV.b ++ [[1]] → Fr (fun _ => False) h h' → K (.slice p' l' c') h') :
    NewP h (.cells #[] T.s_uint8) fun b h1 => denSem Tryz.prog (Builtin.append_ #[T.s_s_uint8, T.s_s_uint8] T.s_s_uint8 #[.slice (some ⟨b, 0, none⟩) 0 0, .slice p l c]) h1 fun v h2 => ∃ (p' : Option Addr) (l' c' : Nat), v = .slice p' l' c' ∧
      NewP h2 (.cells #[.int .u8 1] T.uint8) fun b1 h3 => NewP h3 (.cells #[.slice (some ⟨b1, 0, none⟩) 1 1] T.s_uint8) fun b2 h4 => denSem Tryz.prog (Builtin.append_ #[T.s_s_uint8, T.s_s_uint8] T.s_s_uint8 #[.slice p' l' c', .slice (some ⟨b2, 0, none⟩) 1 1]) h4 K := by
  refine newP_of ?_
  have f0 : Fr (fun _ => False) h (h.push (.cells #[] T.s_uint8)) := Fr.push _ _
  have o0 : Own (h.push (.cells #[] T.s_uint8)) (some ⟨h.size, 0, none⟩) 0 0 1 [] := .row h.size 0 #[] T.s_uint8 rfl push_new (by omega) (by simp) (by simp) (fun j v hj => by simp at hj)
  have hlen := H.len
  refine den_append Fld.tN Fld.uN o0 (H.row.frame f0 (fun _ _ => id)) (by rw [fl]; omega) (nenc_one xs) (by omega) (by omega) fun p1 c1 h1 o1 _ f1 g1 => ⟨_, _, _, rfl, newP_of ?_⟩
  have F1 := f0.fresh f1 (fun y ⟨a, e, e'⟩ => by cases e; rw [← e']; exact Nat.le_refl _)
  have f2 : Fr (fun _ => False) h1 (h1.push (.cells #[.int .u8 1] T.uint8)) := Fr.push _ _
  have r2 : Row (h1.push (.cells #[.int .u8 1] T.uint8)) (some ⟨h1.size, 0, none⟩) (bc [1]) := row_new (cs := [.int .u8 1])
  have b1 : ∀ y, inBlk p1 y → h.size ≤ y ∧ y < h1.size := fun y hy => ⟨by
    rcases g1 y hy with ⟨a, e, e'⟩ | h2
    · cases e; rw [← e']; exact Nat.le_refl _
    · have := f0.1; omega, o1.blk_lt hy⟩
  rw [List.nil_append] at o1
  refine den_append1 Fld.tN Fld.uN (o1.frame f2 (fun _ _ => id)) rfl (fun v hv => by simp at hv; rw [hv]; rfl) (by omega) (by omega) fun p3 c3 h3 o3 f3 g3 => ?_
  have F3 := (F1.tt f2).fresh f3 (fun y hy => (b1 y hy).1)
  refine hk h3 p3 (0 + l + 1) c3 (xs ++ [⟨some ⟨h1.size, 0, none⟩, 1, [1]⟩]) ⟨by rw [List.length_append]; simp; omega, by rw [List.flatMap_append]; exact o3.row', o3.le, fun x hx => ?_⟩ (by simp) F3
  rcases List.mem_append.1 hx with hx | hx
  · exact (H.each x hx).frame F3 (fun _ _ => id)
  · obtain rfl := List.mem_singleton.1 hx
    exact r2.frame f3 (fun a ea hy => by cases ea; have := (b1 _ hy).2; simp at this)
theorem eqC (a b c d e f : Int) : EqV Tryz.prog T.a6_int (.agg #[.int .i64 a, .int .i64 b, .int .i64 c, .int .i64 d, .int .i64 e, .int .i64 f]) (.agg #[.int .i64 a, .int .i64 b, .int .i64 c, .int .i64 d, .int .i64 e, .int .i64 f]) true := by
  have q : (a == a && (b == b && (c == c && (d == d && (e == e && (f == f && true)))))) = true := by simp
  rw [← q]
  exact EqV.of (by kernel_rfl)
set_option maxHeartbeats 2000000 in
theorem _root_.Go.Proofs.YtgccegnmggjkjaaGreatDoor.copiesBack_ok (op : Option Addr) (ol oc : Nat) (mp : Option Addr) (ml mc : Nat) (hv : RokV Tryz.prog h T.s_law21_Op (.slice op ol oc)) (hv2 : RokV Tryz.prog h T.s_law21_Op (.slice mp ml mc)) (tb : Num.Tab h) (mx : Num.Mx h) : LawH Tryz.prog F.law21_CopiesBack #[.slice op ol oc, .slice mp ml mc] h := by
  obtain ⟨fs, rfl, hrow, hok⟩ := ops_read2 hv
  obtain ⟨ms, rfl, mrow, mok⟩ := ops_read2 hv2
  clear hv hv2
  unfold LawH
  generalize hR : (fun (v : Value) h' => v = .bool true ∧ Fr (fun _ => False) h h') = R
  have hk : ∀ h', Fr (fun _ => False) h h' → R (.bool true) h' := fun h' hf => by rw [← hR]; exact ⟨rfl, hf⟩
  clear hR
  have hpm : ∀ {f : OP} {g : Heap} {X : Ft}, Row h f.p (bc f.b) → UpF h X g → f.b ≠ [] → ∀ a, f.p = some a → ¬ X.M a.block := fun {f g X} r u hne a ea hm => by
    have h1 := row_lt r (by cases hb : f.b with | nil => exact absurd hb hne | cons => simp [bc]) ⟨a, ea, rfl⟩
    have h2 := u.ge _ (.inl hm)
    omega
  refine law21_CopiesBack.walk (Cps.new_ok fun h1 t X1 H1 u1 => ⟨_, rfl, ?_⟩)
  refine ⟨fun i g => ∃ (k : Nat) (X : Ft) (s : CF), i = (k : Int) ∧ k ≤ 60 ∧ Ct g t X s ∧ UpF h X g ∧ Good s k, fun i _ => 60 - i.toNat, ⟨0, X1, _, rfl, by omega, H1, u1, Good.nil⟩, ?_⟩
  clear H1 u1
  rintro _ h3 ⟨k, X, s, rfl, hk60, H, u, G⟩
  refine JoinP.of fun J hJ => ?_
  by_cases hl : k < fs.length ∧ k < 60
  · have q1 : (k : Int) < ((fs.length : Nat) : Int) := by omega
    have q2 : (k : Int) < 60 := by omega
    simp only [q1, q2, decide_true, if_true]
    subst hJ
    simp only [if_true, Int.toNat_natCast]
    obtain ⟨f, hf⟩ : ∃ f, fs[k]? = some f := ⟨fs[k], List.getElem?_eq_getElem hl.1⟩
    have row3 := hrow.frame u.fr (fun _ _ => id)
    obtain ⟨a, rfl⟩ := row3.some (by intro e; cases fs with | nil => simp at hf | cons => simp at e)
    obtain ⟨rowf, hsv⟩ := hok f (List.mem_of_getElem? hf)
    refine ⟨⟨by first | trivial | omega, by first | trivial | omega⟩, onSome_some.2 (law21_Op.ldA (row3.heldAt oenc_len hf) (great_ok f fun gb h4 f4 => ⟨_, rfl, ?_⟩))⟩
    split
    · exact alive_ok fun h5 f5 => ⟨_, rfl, hk h5 (u.fr.tt (f4.tt f5))⟩
    · have row4 := row3.frame f4 (fun _ _ => id)
      have u4 := u.on f4
      refine ⟨⟨by first | trivial | omega, by first | trivial | omega⟩, onSome_some.2 (law21_Op.ldA (row4.heldAt oenc_len hf) (do_ok1 (H.on f4) G (by omega) f (rowf.frame u4.fr (fun _ _ => id)) (hpm rowf u) hsv fun g X' H' st => ⟨_, rfl, ?_⟩))⟩
      rw [wrap_id (by omega) (by omega)]
      exact ⟨⟨k + 1, X', _, by omega, by omega, H', u4.step st, G.do H.ord hsv (by omega)⟩, by show 60 - Int.toNat ((k : Int) + 1) < 60 - Int.toNat (k : Int); omega⟩
  · have hJf : J false h3 := by
      subst hJ
      dsimp only
      rw [if_neg (by decide)]
      have O := H.ord
      have GL := G.L
      refine save_ok H (G.small O (by omega)) (by omega) G.all (tb.on u.fr) fun h4 p4 l4 c4 B4 f4 => ⟨_, _, _, rfl, ?_⟩
      have ln4 := B4.len
      unfold recsC at ln4
      rw [List.length_cons, List.length_map] at ln4
      obtain ⟨xs, D, RD, ex, hD⟩ := BL.to_rowsD B4
      have F4 := u.fr.tt f4
      refine load_ok RD.rows ex G H.so O (by omega) (by omega) (tb.on F4) (mx.on F4) (.inl rfl) (fun _ h5 v Y H5 u5 => ?_) (fun hn => absurd (List.length_map _) hn)
      refine ⟨_, _, rfl, JoinP.of fun J1 hJ1 => ?_⟩
      rw [if_neg (by decide), if_neg (by simp)]
      have F5 := F4.tt u5.fr
      refine save_ok H5 (G.small O (by omega)) (by omega) G.all (tb.on F5) fun h6 p6 l6 c6 B6 f6 => ⟨_, _, _, rfl, ?_⟩
      obtain ⟨ys, r6, e6⟩ := B6.to_rows
      have ln6 := B6.len
      unfold recsC at ln6
      rw [List.length_cons, List.length_map] at ln6
      have RD6 := RD.frame (u5.fr.tt f6) (fun _ _ => id)
      refine Fld.same_ok r6 RD6.rows (by omega) ⟨_, rfl, ?_⟩
      have el0 : (((l4 : Nat) : Int) == 0) = false := by simp; omega
      rw [decide_eq_true (e6.trans ex.symm), if_neg (by decide), el0]
      subst hJ1
      dsimp only
      rw [if_neg (by decide)]
      have z5 := u5.fr.1
      have z6 := f6.1
      have H6 := H.on (f4.tt (u5.fr.tt f6))
      have u6 := u.on (f4.tt (u5.fr.tt f6))
      have V6 := H5.on f6
      have w6 : UpF h Y h6 := ⟨F5.tt f6, fun c hc => by have := u5.ge c hc; have := F4.1; omega⟩
      refine ⟨fun i g => ∃ (j : Nat) (X' Y' : Ft) (s' : CF), i = (j : Int) ∧ j ≤ 40 ∧ Ct g t X' s' ∧ Ct g v Y' s' ∧ UpF h X' g ∧ UpF h Y' g ∧ (∀ c, X'.M c ∨ X'.D c → ¬ (Y'.M c ∨ Y'.D c)) ∧ RowsD g p4 l4 c4 xs D ∧ (∀ c, D c → c < g.size ∧ ¬ X'.M c ∧ ¬ Y'.M c) ∧ Good s' (60 + j), fun i _ => 40 - i.toNat,
        ⟨0, X, Y, s, rfl, by omega, H6, V6, u6, w6, fun c h1 h2 => ?_, RD6, fun c hc => ⟨?_, fun hm => ?_, fun hm => ?_⟩, G.mono (by omega)⟩, ?_⟩
      · have := H.lt c h1
        have := u5.ge c h2
        have := f4.1
        omega
      · have := hD c hc; omega
      · have := hD c hc; have := H.lt c (.inl hm); omega
      · have := hD c hc; have := u5.ge c (.inl hm); omega
      clear H6 V6 u6 w6 RD6 r6 e6 B6
      rintro _ h7 ⟨j, X', Y', s', rfl, hj, H7, V7, u7, w7, ap, RD7, hD7, G7⟩
      refine JoinP.of fun J2 hJ2 => ?_
      by_cases hl2 : j < ms.length ∧ j < 40
      · have q1 : (j : Int) < ((ms.length : Nat) : Int) := by omega
        have q2 : (j : Int) < 40 := by omega
        simp only [q1, q2, decide_true, if_true]
        subst hJ2
        simp only [if_true, Int.toNat_natCast]
        obtain ⟨f, hf⟩ : ∃ f, ms[j]? = some f := ⟨ms[j], List.getElem?_eq_getElem hl2.1⟩
        have row7 := mrow.frame u7.fr (fun _ _ => id)
        obtain ⟨a, rfl⟩ := row7.some (by intro e; cases ms with | nil => simp at hf | cons => simp at e)
        obtain ⟨rowf, hsv⟩ := mok f (List.mem_of_getElem? hf)
        refine ⟨⟨by first | trivial | omega, by first | trivial | omega⟩, onSome_some.2 (law21_Op.ldA (row7.heldAt oenc_len hf) (great_ok f fun gb h8 f8 => ⟨_, rfl, ?_⟩))⟩
        split
        · exact alive_ok fun h9 f9 => ⟨_, rfl, hk h9 (u7.fr.tt (f8.tt f9))⟩
        · have row8 := row7.frame f8 (fun _ _ => id)
          have u8 := u7.on f8
          have w8 := w7.on f8
          have V8 := V7.on f8
          have O7 := H7.ord
          refine JoinP.of fun J3 hJ3 => ⟨⟨by first | trivial | omega, by first | trivial | omega⟩, onSome_some.2 (law21_Op.ldA (row8.heldAt oenc_len hf) ⟨⟨by first | trivial | omega, by first | trivial | omega⟩, onSome_some.2 (law21_Op.ldA (row8.heldAt oenc_len hf) (do_ok1 (H7.on f8) G7 (by omega) f (rowf.frame u8.fr (fun _ _ => id)) (hpm rowf u7) hsv fun h9 X9 H9 st9 => ⟨_, rfl, ?_⟩))⟩)⟩
          have u9 := u8.step st9
          have row9 := mrow.frame u9.fr (fun _ _ => id)
          have V9 : Ct h9 v Y' s' := V8.frame st9.fr (fun y hy hm => ap y (.inl hm) hy)
          have ap9 : ∀ c, X9.M c ∨ X9.D c → ¬ (Y'.M c ∨ Y'.D c) := st9.apart ap (fun c hc => V8.lt c hc)
          have w9 : UpF h Y' h9 := ⟨u9.fr, w8.ge⟩
          refine ⟨row9.heldAt oenc_len hf, do_ok1 V9 G7 (by omega) f (rowf.frame u9.fr (fun _ _ => id)) (hpm rowf w9) hsv fun h10 Y10 V10 st10 => ⟨_, rfl, ?_⟩⟩
          have w10 := w9.step st10
          have H10 : Ct h10 t X9 (doS f s') := H9.frame st10.fr (fun y hy hm => ap9 y hy (.inl hm))
          have ap10 : ∀ c, X9.M c ∨ X9.D c → ¬ (Y10.M c ∨ Y10.D c) := fun c h1 h2 => st10.apart (Q := fun c => X9.M c ∨ X9.D c) (fun c h3 h4 => ap9 c h4 h3) (fun c hc => H9.lt c hc) c h2 h1
          have G10 := G7.do O7 hsv (by omega) (f := f)
          have O10 := H10.ord
          rw [if_neg (by simp)]
          have sm10 := G10.small O10 (by omega)
          refine counts_ok H10 sm10 fun h11 f11 => ⟨_, _, _, _, _, _, rfl, counts_ok (V10.on f11) sm10 fun h12 f12 => ⟨_, _, _, _, _, _, rfl, _, eqC _ _ _ _ _ _, ?_⟩⟩
          subst hJ3
          dsimp only
          rw [if_neg (by decide), wrap_id (by omega) (by omega)]
          have F12 := f11.tt f12
          have z8 := f8.1
          have z9 := st9.fr.1
          have z10 := st10.fr.1
          have z12 := F12.1
          have RD12 := (((RD7.frame f8 (fun _ _ => id)).frame st9.fr (fun y hy => (hD7 y hy).2.1)).frame st10.fr (fun y hy => (hD7 y hy).2.2)).frame F12 (fun _ _ => id)
          refine ⟨⟨j + 1, X9, Y10, doS f s', by omega, by omega, H10.on F12, V10.on F12, (⟨w10.fr, u9.ge⟩ : UpF h X9 h10).on F12, w10.on F12, ap10, RD12, fun c hc => ⟨?_, fun hm => ?_, fun hm => ?_⟩, G10⟩, by show 40 - Int.toNat ((j : Int) + 1) < 40 - Int.toNat (j : Int); omega⟩
          · have := (hD7 c hc).1; omega
          · rcases st9.newM c hm with h | h
            · exact (hD7 c hc).2.1 h
            · have := (hD7 c hc).1; omega
          · rcases st10.newM c hm with h | h
            · exact (hD7 c hc).2.2 h
            · have := (hD7 c hc).1; omega
      · have hJ2f : J2 false h7 := by
          subst hJ2
          dsimp only
          rw [if_neg (by decide), wrap_id (by omega) (by omega)]
          have cp := RD7.rows.cap
          refine ⟨⟨by first | trivial | omega, by first | trivial | omega⟩, ?_⟩
          have F7 := u7.fr
          have exl : xs.length = s.L.length + 1 := by have := RD7.rows.len; omega
          have tail : ∀ h8, Fr (fun _ => False) h7 h8 → NewP h8 (.cells #[] T.s_uint8) fun b h_20 =>
              denSem Tryz.prog (Builtin.append_ #[T.s_s_uint8, T.s_s_uint8] T.s_s_uint8 #[.slice (some ⟨b, 0, none⟩) 0 0, .slice p4 l4 c4]) h_20 fun v_13 h_21 =>
              ∃ (t111_p : Option Addr) (t111_l t111_c : Nat), v_13 = .slice t111_p t111_l t111_c ∧
              NewP h_21 (.cells #[.int .u8 1] T.uint8) fun b_1 h_22 =>
              NewP h_22 (.cells #[.slice (some ⟨b_1, 0, none⟩) 1 1] T.s_uint8) fun b_2 h_23 =>
              denSem Tryz.prog (Builtin.append_ #[T.s_s_uint8, T.s_s_uint8] T.s_s_uint8 #[.slice t111_p t111_l t111_c, .slice (some ⟨b_2, 0, none⟩) 1 1]) h_23 fun v_14 h_24 =>
              ∃ (t114_p : Option Addr) (t114_l t114_c : Nat), v_14 = .slice t114_p t114_l t114_c ∧
              CallsH Tryz.prog F.copies_Load #[.slice t114_p t114_l t114_c] h_24 fun v_15 h_25 =>
              ∃ (t115_0 : Option Addr), ∃ (t115_1 : Int), v_15 = .tuple #[.pointer t115_0, .int .i64 t115_1] ∧
              CallsH Tryz.prog F.law21_alive #[] h_25 fun v_16 h_26 =>
              ∃ (t118 : Bool), v_16 = .bool t118 ∧
              if t118 = true then
              CallsH Tryz.prog F.copies_Table_Save #[.pointer (some ⟨t, 0, none⟩)] h_26 fun v_17 h_27 =>
              ∃ (t121_p : Option Addr) (t121_l t121_c : Nat), v_17 = .slice t121_p t121_l t121_c ∧
              CallsH Tryz.prog F.copies_Table_Save #[.pointer (some ⟨v, 0, none⟩)] h_27 fun v_18 h_28 =>
              ∃ (t123_p : Option Addr) (t123_l t123_c : Nat), v_18 = .slice t123_p t123_l t123_c ∧
              CallsH Tryz.prog F.law19_Same #[.slice t121_p t121_l t121_c, .slice t123_p t123_l t123_c] h_28 fun v_19 h_29 =>
              ∃ (t124 : Bool), v_19 = .bool t124 ∧
              if t124 = true then
              if ((3 : Int) == 3) = true then
              R (.bool (t115_1 == 3)) h_29
              else
              R (.bool false) h_29
              else
              R (.bool false) h_29
              else
              R (.bool false) h_26 := by
            intro h8 f8
            refine app_rows (RD7.rows.on f8) (by omega) fun h9 p9 l9 c9 xs9 R9 e9 f9 => ⟨_, _, _, rfl, ?_⟩
            have F9 := f8.tt f9
            rw [ex] at e9
            have e9 : xs9.map BV.b = headC s :: (s.L.map recC ++ [[1]]) := e9
            have l9' := R9.len
            have x9 := congrArg List.length e9
            simp at x9
            refine load_ok (s := s) (bs := s.L.map recC ++ [[1]]) R9 e9 G H.so O (by omega) (by omega) (tb.on (F7.tt F9)) (mx.on (F7.tt F9)) (.inr (by simp)) (fun hn => absurd (congrArg List.length hn) (by simp)) fun _ h10 f10 => ⟨_, _, rfl, alive_ok fun h11 f11 => ⟨_, rfl, ?_⟩⟩
            rw [if_pos rfl]
            have F11 := F9.tt (f10.tt f11)
            have sm := G7.small H7.ord (by omega)
            have gl := G7.L
            refine save_ok (H7.on F11) sm (by omega) G7.all (tb.on (F7.tt F11)) fun h12 p12 l12 c12 B12 f12 => ⟨_, _, _, rfl, save_ok (V7.on (F11.tt f12)) sm (by omega) G7.all (tb.on (F7.tt (F11.tt f12))) fun h13 p13 l13 c13 B13 f13 => ⟨_, _, _, rfl, ?_⟩⟩
            obtain ⟨y1, r1, e1⟩ := (B12.on f13).to_rows
            obtain ⟨y2, r2, e2⟩ := B13.to_rows
            have ln := B12.len
            unfold recsC at ln
            rw [List.length_cons, List.length_map] at ln
            refine Fld.same_ok r1 r2 (by omega) ⟨_, rfl, ?_⟩
            rw [decide_eq_true (e1.trans e2.symm), if_pos rfl, if_pos (by decide)]
            exact hk h13 (F7.tt (F11.tt (f12.tt f13)))
          have en : (Int.toNat (((l4 : Nat) : Int) - 1)) - 0 = s.L.length := by omega
          rw [en]
          by_cases hz : s.L.length = 0
          · rw [hz]
            exact load_nil ⟨_, _, rfl, tail h7 (Fr.refl _ _)⟩
          · have sub : Fld.Rows h7 (slBase p4 c4 0 1) s.L.length (c4 - 0) (xs.take s.L.length) := by
              have h1 := RD7.rows.row.sub (cap := c4) (l := 0) (u := s.L.length) (sz := 1) (by omega) (by omega)
              have e1 : (((xs.flatMap nenc).take (s.L.length * 1)).drop (0 * 1)) = (xs.take s.L.length).flatMap nenc := by
                simp only [Nat.mul_one, Nat.zero_mul, List.drop_zero]
                have key : ∀ (n : Nat) (ys : List BV), (ys.flatMap nenc).take n = (ys.take n).flatMap nenc := fun n ys => by
                  induction ys generalizing n with
                  | nil => simp
                  | cons y ys ih => cases n with
                    | zero => rfl
                    | succ n => simp [ih]
                exact key _ _
              rw [e1] at h1
              exact ⟨by rw [List.length_take]; omega, h1, by omega, fun x hx => RD7.rows.each x (List.mem_of_mem_take hx)⟩
            obtain ⟨m, hm⟩ : ∃ m, s.L.length = m + 1 := ⟨s.L.length - 1, by omega⟩
            refine load_ok (s := s) (bs := (s.L.map recC).take m) sub (by rw [List.map_take, ex, hm]; rfl) G H.so O (by omega) (by omega) (tb.on F7) (mx.on F7) (.inr (by simp; omega)) (fun hn => absurd (congrArg List.length hn) (by simp; omega)) fun _ h8 f8 => ⟨_, _, rfl, tail h8 f8⟩
        by_cases q1 : j < ms.length
        · have q2 : ¬ j < 40 := fun e => hl2 ⟨q1, e⟩
          have q1 : (j : Int) < ((ms.length : Nat) : Int) := by omega
          have q2 : ¬ (j : Int) < 40 := by omega
          simp only [q1, q2, decide_true, decide_false, if_true]
          exact hJ2f
        · have q1 : ¬ (j : Int) < ((ms.length : Nat) : Int) := by omega
          simp only [q1, decide_false, Bool.false_eq_true, if_false]
          exact hJ2f
    by_cases q1 : k < fs.length
    · have q2 : ¬ k < 60 := fun e => hl ⟨q1, e⟩
      have q1 : (k : Int) < ((fs.length : Nat) : Int) := by omega
      have q2 : ¬ (k : Int) < 60 := by omega
      simp only [q1, q2, decide_true, decide_false, if_true]
      exact hJf
    · have q1 : ¬ (k : Int) < ((fs.length : Nat) : Int) := by omega
      simp only [q1, decide_false, Bool.false_eq_true, if_false]
      exact hJf
end Cps
end Go.Proofs.YtgccegnmggjkjaaGreatDoor
set_option maxRecDepth 100000
namespace Go.Proofs.YtgccegnmggjkjaaGreatDoor
open Go.Den
theorem handed_shaped {H : Type} {enc : TypeId × Value → H} {C : Checked} {os : Os} {f : FuncId} {fn : Func} {s : ChangeSpec} {conds : List PathCond} {apart fresh handsOn again : Bool} {a : Assume} {X : World → Array Value → Prop}
    (hX : ∀ (w w' : World) (args : Array Value), w.heap = w'.heap → X w args → X w' args) (own : ownKnob C.prog.godebug = none) (started : os.Started) (noInit : C.prog.inits.idxOf? f = none) (hfn : C.prog.funcs[f]? = some fn)
    (witness : ∃ (w : World) (tape : Tape) (i : Input), w.os = os ∧ (w.forCall tape i).Shaped C.prog ∧ i.vars = [] ∧ Input.okWide C.prog (w.forCall tape i) .any w.heap.size f i ∧
      ((s.pre enc C.prog fn conds apart (w.forCall tape i).memory i.args ∧ X (w.forCall tape i).memory i.args) ∧ sizedMet enc C.prog fn (OpenSpec.ofChange s) apart (w.forCall tape i).memory i.args) ∧ a.holds C.prog (lone (Frame.enter C.prog f i.args .normal) [] (w.forCall tape i)))
    (con : ∀ (W : World) (base : Nat) (args : Array Value) (ds gs : List (DataW H)) (before : List MemPlace), W.ShapedOpen C.prog → (∀ (j : Nat) t v, fn.params[j]? = some t → args[j]? = some v → Value.okWide C.prog W .any base t v) →
      DataW.Whole enc C.prog fn.params.toList s.vars apart W args.toList ds gs before → X W args → Calls C.prog f args W fun e W' => ∃ v, e = .returned v ∧ s.post enc C.prog fn apart fresh handsOn again W args v W') :
    ReturnsInHanded a C os f .any (fun w args => (s.pre enc C.prog fn conds apart w args ∧ X w args) ∧ sizedMet enc C.prog fn (OpenSpec.ofChange s) apart w args) (s.post enc C.prog fn apart fresh handsOn again) :=
  returnsInHanded_of_calls own started noInit witness fun w tape i _ sh _ ok pre _ => by
    obtain ⟨_, _, _, g, hg, _, _, _, _, val⟩ := ok
    cases Option.some.inj (hg.symm.trans hfn)
    obtain ⟨⟨⟨ds, gs, before, hw, _⟩, hx⟩, _⟩ := pre
    refine (con (w.forCall tape i) w.heap.size i.args ds gs before sh val (DataW.Whole.of_heap (w' := w.forCall tape i) (by rfl) hw) (hX _ _ _ (by rfl) hx)).mono fun e W' hp => ?_
    obtain ⟨v, rfl, hp⟩ := hp
    exact ChangeSpec.post_blind hp
theorem Num.Mx.of_shaped {W : World} (h : W.ShapedOpen Tryz.prog) : Num.Mx W.heap := by
  obtain ⟨m, hm⟩ := cell_of_shapedOpen_int (g := 1) (t := T.int) (zero := #[.int .i64 0]) (k := .i64) h (of_decide_eq_true (by kernel_rfl)) (by kernel_rfl) rfl (by kernel_rfl) (by kernel_rfl) (by kernel_rfl)
  rw [cell_eq] at hm
  exact ⟨m, hm⟩
end Go.Proofs.YtgccegnmggjkjaaGreatDoor
set_option maxRecDepth 100000
namespace Go.Proofs.YtgccegnmggjkjaaGreatDoor
open Go.Den
namespace Num
theorem Tab.of_laid {W : World} {l : List (String × DataW Unit)} {s : String} (hs : Tryz.prog.globalNamed s = some 0) (h : laidMet Tryz.prog l W) (hm : (s, Lib.tabData .u64 Lib.pow10Tab) ∈ l) : Tab W.heap := by
  obtain ⟨g, t, cs, fuel, p, hg, ht, hv, hd⟩ := Lib.laidMet.reads h hm
  have hg : Tryz.prog.globalNamed s = some g := hg
  unfold World.var? at hv
  rw [hg] at hv
  have hv' : (match W.heap[g]? with | some (.cells cs _ _) => some cs | _ => none) = some cs := hv
  cases hh : W.heap[g]? with
  | none => rw [hh] at hv'; cases hv'
  | some o =>
    rw [hh] at hv'
    cases o with
    | cells c ty fz =>
      obtain rfl : c = cs := Option.some.inj hv'
      have eg : g = 0 := Option.some.inj (hg.symm.trans hs)
      subst eg
      refine ⟨ty, fz, ?_⟩
      have htt : t = T.a20_uint64 := by
        have e : (Tryz.prog.globals[(0 : Nat)]?).map (·.type) = some T.a20_uint64 := by kernel_rfl
        exact Option.some.inj (ht.symm.trans e)
      subst htt
      have := Lib.cells_of_tab (n := 20) (e := T.uint64) (by kernel_rfl) (by kernel_rfl) (by kernel_rfl) (by kernel_rfl) hd
      rw [hh, ← this]
    | _ => cases hv'
end Num
end Go.Proofs.YtgccegnmggjkjaaGreatDoor
