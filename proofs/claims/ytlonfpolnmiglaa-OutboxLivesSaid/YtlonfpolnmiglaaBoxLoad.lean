/-
  What is proved here: what Load of package outbox does with records that were saved, and with a head whose count is another one. No condition.
-/
import Derived.Test.YtlonfpolnmiglaaBoxSave
set_option maxRecDepth 100000
namespace Go.Proofs.Ytlonfpolnmiglaa
open Go.Den Go.Fields Go.Heapq
namespace Obx
open Fld
variable {h h' h0 : Heap} {b : Nat} {X : Ft} {R : Value → Heap → Prop} {p q : Option Addr} {c d i : Nat} {L : List E} {s : BS}

theorem int_enc {n : Nat} (hn : n ≤ 1099511627776) (y : List UInt8) : readInt 0 (encNum n ++ y) = (n, 0, y) := readMost_enc hn (by omega) y
/-- two ways: all is right, or the count is another one -/
theorem load_ok {xs : List BV} {l c : Nat} (H : Fld.Rows h p l c xs) (ok : okB s L) (hnx : s.next ≤ 1000000000) (hl : l ≤ 100)
    (hx : (∃ r, xs.map BV.b = headB s :: r ∧ r.length ≠ s.items.length) ∨ xs = [] ∨ xs.map BV.b = recsB s)
    (k1 : xs.map BV.b = recsB s → ∀ h' b X, Box h' b X s → UpF h X h' → R (.tuple #[.pointer (some ⟨b, 0, none⟩), .int .i64 0]) h')
    (k2 : xs.map BV.b ≠ recsB s → ∀ h', Fr (fun _ => False) h h' → R (.tuple #[.pointer none, .int .i64 3]) h') :
    CallsH Try.prog F.outbox_Load #[.slice p l c] h R := by
  have hcnt := ok.cnt
  have hle := ok.le
  refine outbox_Load.walk ?_
  unfold outbox_Load.vc
  by_cases h0 : xs = []
  · have hl0 : l = 0 := by rw [H.len, h0]; rfl
    rw [if_pos (by rw [hl0]; rfl)]
    exact k2 (by rw [h0]; intro e; cases e) h (Fr.refl _ _)
  obtain ⟨x0, xr, rfl⟩ := List.exists_cons_of_ne_nil h0
  have hlen : l = xr.length + 1 := H.len
  have hhead : x0.b = headB s := by
    rcases hx with ⟨r, e, _⟩ | e | e
    · exact (List.cons.inj e).1
    · cases e
    · exact (List.cons.inj e).1
  rw [if_neg (by simp only [beq_iff_eq]; omega)]
  obtain ⟨pa, rfl⟩ := H.row.some (by simp)
  refine new_ok fun h1 b X1 B1 f1 g1 => ⟨_, rfl, ⟨by omega, by omega⟩, onSome_some.2 ⟨x0.p, x0.b.length, x0.c, ?_, ?_⟩⟩
  · have := ((H.on f1).row.heldAt nenc_len (i := 0) (x := x0) rfl).1
    rw [Nat.zero_mul, add_zero_addr, add_zero_addr] at this
    rw [show Int.toNat 0 * 1 = 0 from rfl, add_zero_addr]; exact this
  have hb0 := headB_len s
  refine Fld.read_ok ((H.on f1).each x0 (by simp)) rfl (by rw [hhead]; omega) fun h2 r S2 D2 f2 g2 => ⟨_, rfl, ?_⟩
  obtain ⟨lp, lc, ys, a, S, M1⟩ := B1
  have hys : ys = [] := List.map_eq_nil_iff.1 M1.abs
  subst hys
  have z1 := f1.1
  have z2 := f2.1
  have ltX : ∀ y, X1.M y ∨ X1.D y → y < h1.size := fun y hy => M1.lt y hy
  have lb := lt_of_get M1.blk
  rw [hhead] at D2
  have e0 : headB s = encNum s.next ++ (encNum s.taken ++ (encNum s.canc ++ (encNum s.over ++ (encNum s.items.length ++ [])))) := by unfold headB; simp
  rw [e0] at D2
  have rS := g2 r D2.self
  have frr : ∀ {g g' : Heap}, Fr (fun _ => False) h1 g → Fr (fun y => y = r) g g' → Fr (fun _ => False) h1 g' := fun f1 f2 => f1.fresh f2 (fun y e => by omega)
  refine rint_ok D2 fun h3 D3 f3 => ?_
  rw [int_enc (by omega)] at D3 ⊢
  refine ⟨_, rfl, rint_ok D3 fun h4 D4 f4 => ?_⟩
  rw [int_enc (by omega)] at D4 ⊢
  refine ⟨_, rfl, rint_ok D4 fun h5 D5 f5 => ?_⟩
  rw [int_enc (by omega)] at D5 ⊢
  refine ⟨_, rfl, rint_ok D5 fun h6 D6 f6 => ?_⟩
  rw [int_enc (by omega)] at D6 ⊢
  refine ⟨_, rfl, ?_⟩
  dsimp only at D6 ⊢
  have F6 : Fr (fun _ => False) h1 h6 := frr (frr (frr (frr f2 f3) f4) f5) f6
  have M6 := M1.on F6
  refine onSome_some.2 (storeP_blk M6.blk (by simp) fun h7 a1 a2 a3 => onSome_some.2 (storeP_blk a1 (by simp) fun h8 b1 b2 b3 => onSome_some.2 (storeP_blk b1 (by simp) fun h9 c1 c2 c3 => onSome_some.2 (storeP_blk c1 (by simp) fun h10 d1 d2 d3 => ?_))))
  have f10 : Fr (fun y => y = b) h6 h10 := ⟨by omega, fun y hy hn => by rw [d3 y hn, c3 y hn, b3 y hn, a3 y hn]⟩
  obtain ⟨M10, s10⟩ := M6.field (s' := ⟨[], s.next, s.taken, s.canc, s.over⟩) (h' := h10) rfl (by rw [d1]; rfl) f10
  have D10 := D6.frame f10 (fun y hy e => by have := g2 y hy; omega)
  refine rint_ok D10 fun h11 D11 f11 => ?_
  rw [int_enc (by omega)] at D11 ⊢
  refine ⟨_, rfl, ?_⟩
  dsimp only at D11 ⊢
  have M11 : Mm h11 b X1 ⟨[], s.next, s.taken, s.canc, s.over⟩ [] lp lc [] a S := M10.frame f11 (fun y hy e => by have := ltX y hy; omega)
  have U11 : UpF h X1 h11 := by
    have u1 : UpF h X1 h1 := ⟨f1, g1⟩
    have u10 := (u1.on F6).step s10
    exact ⟨u10.fr.fresh f11 (fun y e => by omega), u10.ge⟩
  clear M1 M6 M10 D2 D3 D4 D5 D6 D10 a1 a2 a3 b1 b2 b3 c1 c2 c3 d1 d2 d3 s10
  refine JoinP.of fun J hJ => rend_ok D11 ⟨_, rfl, ?_⟩
  have er : readEnd 0 [] = 0 := rfl
  rw [er, if_neg (by decide)]
  have wl : IntKind.wrap .i64 (((l : Nat) : Int) - 1) = (xr.length : Int) := by rw [wrap_id (by omega) (by omega)]; omega
  rw [wl]
  by_cases hn : s.items.length = xr.length
  · -- the count is right
    have hrec : (x0 :: xr).map BV.b = recsB s := by
      rcases hx with ⟨r', e, hne⟩ | e | e
      · exfalso
        have := congrArg List.length (List.cons.inj e).2
        rw [List.length_map] at this
        omega
      · cases e
      · exact e
    have hxr : xr.map BV.b = s.items.map recI := (List.cons.inj hrec).2
    have q1 : (((s.items.length : Nat) : Int) != (xr.length : Int)) = false := by rw [hn]; simp
    rw [q1, if_neg (by simp), if_neg (by simp; omega)]
    refine onSome_some.2 ⟨_, cell_at M11.blk rfl, ?_⟩
    rw [if_neg (by simp; omega)]
    refine onSome_some.2 ⟨_, cell_at M11.blk rfl, onSome_some.2 ⟨_, cell_at M11.blk rfl, onSome_some.2 ⟨_, cell_at M11.blk rfl, onSome_some.2 ⟨_, cell_at M11.blk rfl, ?_⟩⟩⟩⟩
    have q2 : ((IntKind.wrap .i64 ((s.next : Int) - 1)) != (IntKind.wrap .i64 ((IntKind.wrap .i64 ((IntKind.wrap .i64 ((s.taken : Int) + (s.canc : Int))) + (s.over : Int))) + ((s.items.length : Nat) : Int)))) = false := by
      rw [wrap_id (n := (s.next : Int) - 1) (by omega) (by omega), wrap_id (n := (s.taken : Int) + (s.canc : Int)) (by omega) (by omega), wrap_id (n := (s.taken : Int) + (s.canc : Int) + (s.over : Int)) (by omega) (by omega), wrap_id (by omega) (by omega)]
      simp only [bne_eq_false_iff_eq]
      omega
    dsimp only
    rw [q2]
    subst hJ
    simp only [Bool.false_eq_true, if_false]
    have t1 : Int.toNat 1 = 1 := rfl
    rw [t1]
    have cap := H.cap
    refine ⟨⟨by omega, by omega⟩, ?_⟩
    have rowS : Row h (slBase (some pa) c 1 1) (xr.flatMap nenc) := by
      have rs := H.row.sub (cap := c) (l := 1) (u := l) (sz := 1) (by omega) (by omega)
      rw [flat_take nenc 1 nenc_len, flat_drop nenc 1 nenc_len, List.take_of_length_le (by rw [List.length_cons]; omega)] at rs
      exact rs
    refine ⟨fun last t g => ∃ (k : Nat) (X : Ft) (L' : List E), t = (k : Int) ∧ k ≤ xr.length ∧ Bx g b X ⟨s.items.take k, s.next, s.taken, s.canc, s.over⟩ L' ∧ UpF h X g ∧ L'.Perm ((s.items.take k).map It.kv) ∧ (∀ x, s.items[k]? = some x → last < (x.num : Int)), fun _ t _ => xr.length - t.toNat,
      ⟨0, X1, [], rfl, by omega, ⟨lp, lc, [], a, S, M11⟩, U11, .refl _, fun x hx0 => by have := (ok.it x (List.mem_of_getElem? hx0)).1; omega⟩, ?_⟩
    clear M11 U11 D11 f11 f10 F6
    rintro last _ g ⟨k, X, L', rfl, hkn, ⟨lp, lc, ys, a, S, M⟩, U, pm, hlast⟩
    have ylen := M.len
    have ylen : ys.length = k := by
      rw [ylen]
      show (s.items.take k).length = k
      rw [List.length_take]; omega
    by_cases hlt : k < xr.length
    · have q3 : (k : Int) < ((l - 1 : Nat) : Int) := by omega
      simp only [q3, decide_true, if_true, Int.toNat_natCast]
      have hxk : xr[k]? = some xr[k] := List.getElem?_eq_getElem hlt
      generalize xr[k] = v at hxk
      have hik : s.items[k]? = some (s.items[k]'(by omega)) := List.getElem?_eq_getElem _
      generalize s.items[k]'(by omega) = x at hik
      have hvb : v.b = recI x := by
        have h1 : (xr.map BV.b)[k]? = some v.b := by rw [List.getElem?_map, hxk]; rfl
        rw [hxr, List.getElem?_map, hik] at h1
        exact (Option.some.inj h1).symm
      have hxm := List.mem_of_getElem? hik
      have hit := ok.it x hxm
      have rlen := recI_len (x := x) hit.2.2.2.1
      have rg := rowS.frame U.fr (fun _ _ => id)
      obtain ⟨sa, hsa⟩ := rg.some (fun e => by have := congrArg List.length e; rw [flat_len nenc 1 nenc_len, List.length_nil] at this; omega)
      rw [hsa] at rg ⊢
      have cv := (rg.heldAt nenc_len hxk).1
      rw [add_zero_addr] at cv
      refine ⟨⟨by first | trivial | omega, by first | trivial | omega⟩, onSome_some.2 ⟨_, _, _, cv, ?_⟩⟩
      have rowv := (H.each v (List.mem_cons_of_mem _ (List.mem_of_getElem? hxk))).frame U.fr (fun _ _ => id)
      refine Fld.read_ok rowv rfl (by rw [hvb]; omega) fun h14 r S14 D14 f14 g14 => ⟨_, rfl, ?_⟩
      rw [hvb] at D14
      have ei : recI x = encNum x.num ++ (encNum x.owner.toNat ++ (encText x.d ++ (encNum x.till ++ []))) := by unfold recI; simp
      rw [ei] at D14
      have rS := g14 r D14.self
      have rlt := D14.lt r D14.self
      refine rint_ok D14 fun h15 D15 f15 => ?_
      rw [int_enc (by omega)] at D15 ⊢
      refine ⟨_, rfl, rint_ok D15 fun h16 D16 f16 => ?_⟩
      rw [int_enc (by omega)] at D16 ⊢
      refine ⟨_, rfl, ?_⟩
      dsimp only at D16 ⊢
      have et := readText_enc (t := x.d) (by omega) (encNum x.till ++ [])
      have lrest : (encText x.d ++ (encNum x.till ++ [])).length ≤ 1000 := by
        have := congrArg List.length ei
        simp only [List.length_append] at this ⊢
        omega
      refine rtext_ok D16 (by omega) fun h17 p17 c17 D17 o17 g17 f17 => ?_
      rw [et] at D17 o17 ⊢
      refine ⟨_, _, _, rfl, rnum_ok D17 fun h18 D18 f18 => ?_⟩
      dsimp only at D18 o17
      rw [readNum_enc (by omega)] at D18 ⊢
      refine ⟨_, rfl, ?_⟩
      dsimp only at D18 ⊢
      have z14 := f14.1
      have z15 := f15.1
      have z16 := f16.1
      have z17 := f17.1
      have z18 := f18.1
      have ey : ((x.owner.toNat : Nat) : Int) = x.owner := by omega
      rw [ey]
      refine outbox_Item.new fun b1 h23 eb1 hb1 f23 => JoinP.of fun J1 hJ1 => ?_
      have z23 := f23.1
      have l1 := lt_of_get hb1
      have F23 : Fr (fun _ => False) g h23 := (((f14.fresh f15 (fun y e => by omega)).fresh f16 (fun y e => by omega)).fresh f17 (fun y e => by omega)).fresh f18 (fun y e => by omega) |>.tt f23
      refine rend_ok (D18.frame f23 (fun _ _ => id)) ⟨_, rfl, ?_⟩
      rw [er, if_neg (by decide)]
      refine outbox_Item.ld hb1 (right_ok fun h30 f30 => ⟨_, rfl, ?_⟩)
      have hrt : rightB x.owner x.d.length (x.till : Int) = true := rightB_iff.2 ⟨hit.2.2.2.2.1, hit.2.2.2.2.2.1, hit.2.2.1, hit.2.2.2.1, by have := hit.2.2.2.2.2.2; omega⟩
      rw [hrt]
      simp only [Bool.not_true, Bool.false_eq_true, if_false]
      have F30 : Fr (fun _ => False) g h30 := F23.tt f30
      have z30 := f30.1
      have M30 := M.on F30
      have hb30 : outbox_Item.at h30 b1 (x.num : Int) x.owner p17 x.d.length c17 (x.till : Int) := f30.get hb1 id
      refine ⟨_, cell_at hb30 rfl, ?_⟩
      have hla := hlast x hik
      have q5 : ¬ (x.num : Int) ≤ last := by omega
      simp only [q5, decide_false, Bool.false_eq_true, if_false]
      refine ⟨_, cell_at hb30 rfl, onSome_some.2 ⟨_, cell_at M30.blk rfl, ?_⟩⟩
      have q6 : decide ((x.num : Int) ≥ (s.next : Int)) = false := decide_eq_false (by have := hit.2.1; omega)
      dsimp only
      rw [q6]
      subst hJ1
      simp only [Bool.false_eq_true, if_false]
      have o30 : Own h30 p17 x.d.length c17 1 (bc x.d) := ((o17.frame f18 (fun y hy e => by have := g17 y hy; omega)).frame f23 (fun _ _ => id)).frame f30 (fun _ _ => id)
      have p17y : ∀ y, inBlk p17 y → g.size ≤ y ∧ y < h30.size := fun y hy => ⟨by have := g17 y hy; omega, o30.blk_lt hy⟩
      clear D14 D15 D16 D17 D18 o17
      refine onSome_some.2 ⟨_, _, _, cell_at M30.blk rfl, outbox_Item.ld hb30 ?_⟩
      refine newP_of ⟨cell_at (M30.on (Fr.push (S := fun _ => False) h30 _)).blk rfl, ?_⟩
      have f9 : Fr (fun _ => False) h30 (h30.push (.cells #[.int .i64 (x.num : Int), .int .i64 x.owner, .slice p17 x.d.length c17, .int .u64 (x.till : Int)] T.outbox_Item)) := Fr.push _ _
      have r9 : Row (h30.push (.cells #[.int .i64 (x.num : Int), .int .i64 x.owner, .slice p17 x.d.length c17, .int .u64 (x.till : Int)] T.outbox_Item)) (some ⟨h30.size, 0, none⟩) [.int .i64 (x.num : Int), .int .i64 x.owner, .slice p17 x.d.length c17, .int .u64 (x.till : Int)] := row_new
      generalize h30.push (.cells #[.int .i64 (x.num : Int), .int .i64 x.owner, .slice p17 x.d.length c17, .int .u64 (x.till : Int)] T.outbox_Item) = h31 at f9 r9 ⊢
      have M31 := M30.on f9
      have hb31 : outbox_Item.at h31 b1 (x.num : Int) x.owner p17 x.d.length c17 (x.till : Int) := f9.get hb30 id
      refine den_append tI uI M31.own r9 rfl (fun w hw => by simp at hw; rcases hw with rfl | rfl | rfl | rfl <;> rfl) (by omega) (by omega) fun p10 c10 h10 o10 _ f10 g10 => ⟨_, _, _, rfl, ?_⟩
      have z9 := f9.1
      have z10 := f10.1
      have lb := lt_of_get M.blk
      have k10 := f10.get M31.blk M.bl
      refine onSome_some.2 (storeP_blk k10 (by simp) fun h11 a1 a2 a3 => onSome_some.2 ?_)
      have f11 : Fr (fun y => y = b) h10 h11 := Fr.of_eq a2 a3
      have nlp : ∀ y, g.size ≤ y → ¬ inBlk lp y := fun y hy hx => by have := M.own.blk_lt hx; omega
      have hb10 : outbox_Item.at h10 b1 (x.num : Int) x.owner p17 x.d.length c17 (x.till : Int) := f10.get hb31 (nlp b1 (by omega))
      have hb11 : outbox_Item.at h11 b1 (x.num : Int) x.owner p17 x.d.length c17 (x.till : Int) := (a3 b1 (by omega)).trans hb10
      have A11 : Alarm.Al h11 a S L' := (M31.al.frame f10 (fun y hy hx => M.ls y hx hy)).frame f11 (fun y hy e => M.bs (e ▸ hy))
      refine ⟨_, cell_at a1 rfl, _, cell_at hb11 rfl, _, cell_at hb11 rfl, ?_⟩
      have Ll : L'.length ≤ 16 := by have := pm.length_eq; rw [List.length_map, List.length_take] at this; omega
      have hmay : Alarm.may (x.num : Int) (x.till : Int) = true := Alarm.may_iff.2 ⟨by have := hit.1; omega, by have := hit.2.1; omega, by have := hit.2.2.2.2.2.2; omega⟩
      refine Alarm.set_ok A11 (by omega) _ _ (by omega) (fun _ h13 S13 A13 g13 f13 => ⟨_, rfl, ?_⟩) (fun hf => by rw [hmay] at hf; cases hf)
      have nS : ∀ y, g.size ≤ y → ¬ S y := fun y hy hs => by have := M.al.lt hs; omega
      refine ⟨_, cell_at (f13.get hb11 (nS b1 (by omega))) rfl, ?_⟩
      have F9 : Fr (fun _ => False) g h31 := F30.tt f9
      have F10 : Fr (inBlk lp) g h10 := Fr.no F9 f10
      have F11 : Fr (fun y => inBlk lp y ∨ y = b) g h11 := (F10.mono (fun _ _ hx => .inl hx)).tt (f11.mono (fun _ _ hx => .inr hx))
      have F13 : Fr X.M g h13 := ((F11.mono (fun y _ hx => (M.m y).2 (hx.elim (fun h => .inr (.inl h)) .inl))).tt (f13.mono (fun y _ hx => (M.m y).2 (.inr (.inr hx)))))
      have p10y : ∀ y, inBlk p10 y → inBlk lp y ∨ h30.size ≤ y := fun y hy => (g10 y hy).imp id (fun h1 => by omega)
      have p10lt : ∀ y, inBlk p10 y → y < h11.size := fun y hy => by have := o10.blk_lt hy; omega
      have o13 : Own h13 p17 x.d.length c17 1 (bc x.d) := by
        have F30_13 : Fr X.M h30 h13 := by
          refine ⟨by have := f13.1; omega, fun y hy hn => ?_⟩
          have e1 : h13[y]? = h11[y]? := f13.2 y (by omega) (fun hx => hn ((M.m y).2 (.inr (.inr hx))))
          have e3 : h11[y]? = h10[y]? := f11.2 y (by omega) (fun e => hn ((M.m y).2 (.inl e)))
          have e4 : h10[y]? = h31[y]? := f10.2 y (by omega) (fun e => hn ((M.m y).2 (.inr (.inl e))))
          have e5 : h31[y]? = h30[y]? := f9.2 y (by omega) id
          rw [e1, e3, e4, e5]
        exact o30.frame F30_13 (fun y hy hm => by have := M.lt y (.inl hm); have := p17y y hy; omega)
      have dlt13 : ∀ y, X.D y ∨ inBlk p17 y → y < h13.size := fun y hy => hy.elim (fun h1 => Nat.lt_of_lt_of_le (M.dlt y h1) F13.1) (fun h1 => by have := p17y y h1; have := f13.1; omega)
      have cat : ys.flatMap ienc ++ [.int .i64 (x.num : Int), .int .i64 x.owner, .slice p17 x.d.length c17, .int .u64 (x.till : Int)] = (ys ++ [(⟨x.num, x.owner, ⟨p17, c17, x.d⟩, x.till⟩ : IV)]).flatMap ienc := by rw [List.flatMap_append]; simp
      have ln : (ys ++ [(⟨x.num, x.owner, ⟨p17, c17, x.d⟩, x.till⟩ : IV)]).length = ys.length + 1 := by rw [List.length_append]; rfl
      have nb10 : ∀ y, inBlk p10 y → y ≠ b := fun y hy e => (p10y y hy).elim (fun h1 => M.bl (e ▸ h1)) (fun h1 => by omega)
      have S13M : ∀ y, S13 y → X.M y ∨ h11.size ≤ y := fun y hy => (g13 y hy).imp (fun h1 => (M.m y).2 (.inr (.inr h1))) id
      have tk : s.items.take (k + 1) = s.items.take k ++ [x] := by rw [List.take_add_one, hik]; rfl
      rw [wrap_id (by omega) (by omega)]
      have st : StepF X g ⟨fun y => y = b ∨ inBlk p10 y ∨ S13 y, fun y => X.D y ∨ inBlk p17 y⟩ h13 := by
        refine ⟨F13, ?_, ?_, fun _ => .inl⟩
        · rintro y (rfl | hy | hy)
          · exact .inl ((M.m _).2 (.inl rfl))
          · exact (p10y y hy).imp (fun h1 => (M.m _).2 (.inr (.inl h1))) (fun h1 => by omega)
          · exact (S13M y hy).imp id (fun h1 => by omega)
        · rintro y (hy | hy)
          · exact .inl hy
          · exact .inr (p17y y hy).1
      refine ⟨⟨k + 1, ⟨fun y => y = b ∨ inBlk p10 y ∨ S13 y, fun y => X.D y ∨ inBlk p17 y⟩, _, by omega, by omega, ⟨p10, c10, ys ++ [⟨x.num, x.owner, ⟨p17, c17, x.d⟩, x.till⟩], a, S13, ⟨?_, ?_, A13, ?_, ?_, fun _ => Iff.rfl, fun hx => nb10 b hx rfl, ?_, ?_, ?_, dlt13⟩⟩, U.step st, ?_, ?_⟩, ?_⟩
      · have k13 := f13.get a1 M.bs
        rw [k13]
        dsimp only
        rw [ln]; rfl
      · rw [ln, ← cat]
        exact (o10.frame f11 nb10).frame f13 (fun y hy hs => (p10y y hy).elim (fun h1 => M.ls y h1 hs) (fun h1 => nS y (by omega) hs))
      · rw [List.map_append, M.abs]
        show s.items.take k ++ [x] = s.items.take (k + 1)
        rw [tk]
      · intro w hw
        rcases List.mem_append.1 hw with hw | hw
        · exact ((M.dat w hw).frame F13 (fun y hd hm => M.dis y hm hd)).mono (fun y => .inl)
        · obtain rfl := List.mem_singleton.1 hw
          exact BV.of_own o13 (fun y => .inr)
      · intro hs; exact (g13 b hs).elim M.bs (fun h1 => by omega)
      · intro y hy hs
        rcases g13 y hs with h1 | h1
        · exact (p10y y hy).elim (fun h2 => M.ls y h2 h1) (fun h2 => nS y (by omega) h1)
        · have := p10lt y hy; omega
      · rintro y hy (hd | hd)
        · rcases hy with rfl | hy | hy
          · exact M.dis _ ((M.m _).2 (.inl rfl)) hd
          · exact (p10y y hy).elim (fun h1 => M.dis _ ((M.m _).2 (.inr (.inl h1))) hd) (fun h1 => by have := M.dlt y hd; omega)
          · exact (S13M y hy).elim (fun h1 => M.dis _ h1 hd) (fun h1 => by have := M.dlt y hd; omega)
        · have hp2 := p17y y hd
          rcases hy with rfl | hy | hy
          · omega
          · exact (p10y y hy).elim (fun h1 => nlp y hp2.1 h1) (fun h1 => by omega)
          · exact (S13M y hy).elim (fun h1 => by have := M.lt y (.inl h1); omega) (fun h1 => by omega)
      · have hnk : (x.num : Int) ∉ keys L' := by
          intro hm
          obtain ⟨e, he, ek⟩ := List.mem_map.1 hm
          obtain ⟨z, hz, rfl⟩ := List.mem_map.1 (pm.mem_iff.1 he)
          have ek : (z.num : Int) = (x.num : Int) := ek
          obtain ⟨j, hj⟩ := List.getElem?_of_mem hz
          rw [List.getElem?_take] at hj
          split at hj
          · rename_i hjk
            have hp := List.pairwise_iff_getElem.1 ok.inc j k (by rw [List.length_map]; omega) (by rw [List.length_map]; omega) hjk
            rw [List.getElem_map, List.getElem_map] at hp
            have e1 : s.items[j]'(by omega) = z := Option.some.inj ((List.getElem?_eq_getElem _).symm.trans hj)
            have e2 : s.items[k]'(by omega) = x := Option.some.inj ((List.getElem?_eq_getElem _).symm.trans hik)
            rw [e1, e2] at hp
            omega
          · cases hj
        unfold Alarm.setL
        rw [dropK_none hnk, tk, List.map_append]
        exact (insertS_perm _ _).trans ((List.Perm.cons _ pm).trans (List.perm_append_singleton _ _).symm)
      · intro z hz
        have hk1 := (List.getElem?_eq_some_iff.1 hz).1
        have hp := List.pairwise_iff_getElem.1 ok.inc k (k + 1) (by rw [List.length_map]; omega) (by rw [List.length_map]; omega) (by omega)
        rw [List.getElem_map, List.getElem_map] at hp
        have e1 : s.items[k + 1]'hk1 = z := Option.some.inj ((List.getElem?_eq_getElem _).symm.trans hz)
        have e2 : s.items[k]'(by omega) = x := Option.some.inj ((List.getElem?_eq_getElem _).symm.trans hik)
        rw [e1, e2] at hp
        omega
      · show xr.length - Int.toNat ((k : Int) + 1) < xr.length - k; omega
    · have q3 : ¬ (k : Int) < ((l - 1 : Nat) : Int) := by omega
      simp only [q3, decide_false, Bool.false_eq_true, if_false]
      have e1 : s.items.take k = s.items := List.take_of_length_le (by omega)
      rw [e1] at M pm
      exact k1 hrec g b X ⟨L', ⟨lp, lc, ys, a, S, M⟩, ⟨ok.le, pm, ok.it, ok.inc, ok.cnt⟩⟩ U
  · -- it is not
    have q1 : (((s.items.length : Nat) : Int) != (xr.length : Int)) = true := by simp; omega
    rw [if_pos q1]
    subst hJ
    simp only [if_true]
    refine k2 (fun e => ?_) h11 U11.fr
    have := congrArg List.length e
    unfold recsB at this
    simp at this
    omega
end Obx
end Go.Proofs.Ytlonfpolnmiglaa
