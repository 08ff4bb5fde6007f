/-
  What is proved here: what All of package regs does: all registrations, sorted. No condition.
-/
import Derived.Test.YtgccegnmggjkjaaDoorRegs
import Derived.Test.YtgccegnmggjkjaaDoorSort
import Derived.Test.YtgccegnmggjkjaaDoorVcBt
set_option maxRecDepth 100000
namespace Go.Proofs.YtgccegnmggjkjaaDoor
open Go.Den
namespace Regs
open Eid
variable {h h' : Heap} {R : Value → Heap → Prop} {b : Nat} {X : Ft} {L xs : List Rg} {m n c : Nat} {p : Option Addr}

theorem genc_one (r : Rg) : ∀ v ∈ genc r, oneCell v = true := by
  intro v hv
  simp only [List.mem_cons, List.not_mem_nil, or_false] at hv
  rcases hv with rfl | rfl | rfl | rfl | rfl | rfl | rfl <;> rfl
theorem genc_ones (xs : List Rg) : ∀ v ∈ xs.flatMap genc, oneCell v = true := by
  intro v hv
  obtain ⟨r, _, hr⟩ := List.mem_flatMap.1 hv
  exact genc_one r v hr
theorem cmp_ok (x y : Rg) (hk : ∀ h', Fr (fun _ => False) h h' → R (.int .i64 (if lessE x.e y.e = true then -1 else 1)) h') : CallsH Tryd.prog F.regs_Table_All_1 #[x.val, y.val] h R := by
  refine regs_Table_All_1.walk (regs_Reg.box fun b1 h1 e1 hb1 f1 => regs_Reg.box fun b2 h2 e2 hb2 f2 => ld_e (r := x) (f2.get hb1 id) (ld_e (r := y) hb2 (less_ok x.e y.e fun h3 f3 => ⟨_, rfl, ?_⟩)))
  have K := hk h3 (f1.tt (f2.tt f3))
  by_cases q : lessE x.e y.e = true
  · rw [if_pos q]; rw [if_pos q] at K; exact K
  · rw [if_neg q]; rw [if_neg q] at K; exact K
theorem tG : SlTy Tryd.prog T.s_regs_Reg T.regs_Reg 7 72 (Rg.zero).val := ⟨by kernel_rfl, by kernel_rfl, rfl⟩
theorem uG : Tryd.prog.underlying T.s_regs_Reg = some (.slice T.regs_Reg) := by kernel_rfl
def unp (x : Ev × Value) : Rg :=
  match x.2 with
  | .agg ⟨[_, _, _, _, _, .int _ a, .int _ b]⟩ => ⟨x.1, a, b⟩
  | _ => .zero
/-- the keys are apart -/
abbrev KeysNd (xs : List Rg) : Prop := (xs.map Rg.e).Nodup
theorem KeysNd.ne {i j : Nat} {x y : Rg} (hn : KeysNd xs) (hx : xs[i]? = some x) (hy : xs[j]? = some y) (hij : i ≠ j) : x.e ≠ y.e := fun e => by
  apply hij
  have hi := (List.getElem?_eq_some_iff.1 hx).1
  exact (List.getElem?_inj (l := xs.map Rg.e) (by simpa using hi) hn).1 (by rw [List.getElem?_map, List.getElem?_map, hx, hy]; simp [e])
theorem insertion_ok (o : Own h p n c 7 (xs.flatMap genc)) (hn : n = xs.length) (hl : xs.length ≤ 1000) (nd : KeysNd xs)
    (hk : ∀ h' (ys : List Rg), Own h' p n c 7 (ys.flatMap genc) → ys.Perm xs → ys.Pairwise rless → Fr (inBlk p) h h' → R (.tuple #[]) h') :
    CallsH Tryd.prog F.slices_insertionSortCmpFunc_regs_Reg #[.slice p n c, .int .i64 0, .int .i64 (n : Int), .func (.func F.regs_Table_All_1) #[] #[]] h R := by
  subst hn
  refine slices_insertionSortCmpFunc_regs_Reg.reg.walk ?_
  have plen : ∀ {ys : List Rg}, ys.Perm xs → ys.length = xs.length := fun hp => hp.length_eq
  refine ⟨fun t g => ∃ (i : Nat) (ys : List Rg), t = (i : Int) ∧ 1 ≤ i ∧ (i ≤ xs.length ∨ i = 1) ∧ Own g p xs.length c 7 (ys.flatMap genc) ∧ ys.Perm xs ∧ SortedOn rless ys 0 i ∧ Fr (inBlk p) h g, fun t _ => xs.length - t.toNat, ⟨1, xs, by rw [wrap_id (by omega) (by omega)]; rfl, by omega, .inr rfl, o, .refl _, SortedOn.small (by omega), Fr.refl _ _⟩, ?_⟩
  rintro _ g ⟨i, ys, rfl, h1, h2, oy, py, sy, fy⟩
  have ly := plen py
  by_cases hi : i < xs.length
  · have q1 : (i : Int) < ((xs.length : Nat) : Int) := by omega
    simp only [q1, decide_true, if_true]
    refine ⟨fun t g' => ∃ (j : Nat) (zs : List Rg), t = (j : Int) ∧ j ≤ i ∧ Own g' p xs.length c 7 (zs.flatMap genc) ∧ InsI rless ys zs 0 i j ∧ Fr (inBlk p) h g', fun t _ => t.toNat, ⟨i, ys, rfl, Nat.le_refl _, oy, InsI.start sy, fy⟩, ?_⟩
    rintro _ g2 ⟨j, zs, rfl, hj, oz, Iz, fz⟩
    have pz := Iz.perm.trans py
    have lz := plen pz
    have ndz : KeysNd zs := (pz.map Rg.e).nodup_iff.2 nd
    obtain ⟨ab, ao, rfl⟩ := oz.addr (by omega)
    refine JoinP.of fun J hJ => ?_
    have stop : (j = 0 ∨ ∀ x y, zs[j]? = some x → zs[j - 1]? = some y → rless y x) → ∀ g3, Fr (fun _ => False) g2 g3 → J false g3 := by
      intro he g3 f3
      subst hJ
      simp only [Bool.false_eq_true, if_false]
      rw [wrap_id (by omega) (by omega)]
      refine ⟨⟨i + 1, zs, by omega, by omega, .inl (by omega), oz.frame f3 (fun _ _ => id), pz, Iz.stop less_trans (Nat.zero_le _) hj (by omega) he, fz.on f3⟩, by show xs.length - Int.toNat ((i : Int) + 1) < xs.length - i; omega⟩
    by_cases hj0 : 0 < j
    · have q2 : (j : Int) > 0 := by omega
      have e1 : IntKind.wrap .i64 ((j : Int) - 1) = ((j - 1 : Nat) : Int) := by rw [wrap_id (by omega) (by omega)]; omega
      have hx : zs[j]? = some (zs[j]'(by omega)) := List.getElem?_eq_getElem _
      have hy : zs[j - 1]? = some (zs[j - 1]'(by omega)) := List.getElem?_eq_getElem _
      generalize zs[j]'(by omega) = x at hx
      generalize zs[j - 1]'(by omega) = y at hy
      simp only [q2, decide_true, if_true, e1, Int.toNat_natCast] at hJ ⊢
      refine ⟨⟨by omega, by omega⟩, onSome_some.2 (regs_Reg.ldA (oz.heldAt genc_len hx) ⟨⟨by omega, by omega⟩, onSome_some.2 (regs_Reg.ldA (oz.heldAt genc_len hy) (cmp_ok x y fun g3 f3 => ⟨_, rfl, ?_⟩))⟩)⟩
      by_cases hl : lessE x.e y.e = true
      · rw [if_pos hl, decide_eq_true (by omega)]
        have oz3 := oz.frame f3 (fun _ _ => id)
        subst hJ
        simp only [if_true]
        refine ⟨⟨by omega, by omega⟩, onSome_some.2 (regs_Reg.ldA (oz3.heldAt genc_len hy) ⟨⟨by omega, by omega⟩, onSome_some.2 (regs_Reg.ldA (oz3.heldAt genc_len hx) ⟨⟨by omega, by omega⟩, onSome_some.2 (regs_Reg.stA (oz3.storeRow genc_len (genc_one y) (by omega) fun g4 o4 s4 q4 => ⟨⟨by omega, by omega⟩, onSome_some.2 (regs_Reg.stA (o4.storeRow genc_len (genc_one x) (by rw [List.length_set]; omega) fun g5 o5 s5 q5 => ?_))⟩))⟩)⟩)⟩
        have e5 : (zs.set j y).set (j - 1) x = swp zs j (j - 1) := swp_eq hx hy
        rw [e5] at o5
        have f5 : Fr (inBlk (some ⟨ab, ao, none⟩)) g3 g5 := ⟨by omega, fun z _ hn => by rw [q5 z hn, q4 z hn]⟩
        exact ⟨⟨j - 1, _, rfl, by omega, o5, Iz.swap hj0 hj (by omega) hx hy hl, (fz.on f3).tt f5⟩, by show Int.toNat ((j - 1 : Nat) : Int) < j; omega⟩
      · rw [if_neg hl, decide_eq_false (by omega)]
        refine stop (.inr fun x' y' hx' hy' => ?_) g3 f3
        rw [hx] at hx'; rw [hy] at hy'
        cases hx'; cases hy'
        exact (less_total (ndz.ne hx hy (by omega))).resolve_left hl
    · have q2 : ¬ (j : Int) > 0 := by omega
      simp only [q2, decide_false, Bool.false_eq_true, if_false]
      exact stop (.inl (by omega)) g2 (Fr.refl _ _)
  · have q1 : ¬ (i : Int) < ((xs.length : Nat) : Int) := by omega
    simp only [q1, decide_false, Bool.false_eq_true, if_false]
    have : SortedOn rless ys 0 ys.length := by
      rcases h2 with h2 | h2
      · have : i = ys.length := by omega
        rw [← this]; exact sy
      · exact SortedOn.small (by omega)
    exact hk g ys oy py this.pair fy
theorem len_ok {x : Int} (hk : ∀ n : Int, R (.int .i64 n) h) : CallsH Tryd.prog F.math_bits_Len #[.int .u64 x] h R := by
  refine math_bits_Len.walk (math_bits_Len64.walk (JoinP.of fun J hJ => ?_))
  have w8 : ∀ n : Int, 0 ≤ IntKind.wrap .u8 n ∧ IntKind.wrap .u8 n < 256 := fun n => by rw [IntKind.wrap_u8]; omega
  have k1 : ∀ y n, J y n h := by
    intro y n
    subst hJ
    refine JoinP.of fun J hJ => ?_
    have k2 : ∀ y n, J y n h := by
      intro y n
      subst hJ
      refine JoinP.of fun J hJ => ?_
      have k3 : ∀ y n, J y n h := by
        intro y n
        subst hJ
        exact ⟨w8 y, _, rfl, hk _⟩
      split
      · exact k3 _ _
      · exact k3 _ _
    split
    · exact k2 _ _
    · exact k2 _ _
  split
  · exact k1 _ _
  · exact k1 _ _
theorem sort_ok (o : Own h p n c 7 (xs.flatMap genc)) (hn : n = xs.length) (hl : xs.length ≤ 12) (nd : KeysNd xs)
    (hk : ∀ h' (ys : List Rg), Own h' p n c 7 (ys.flatMap genc) → ys.Perm xs → ys.Pairwise rless → Fr (inBlk p) h h' → R (.tuple #[]) h') :
    CallsH Tryd.prog F.slices_SortFunc_s_regs_Reg_regs_Reg #[.slice p n c, .func (.func F.regs_Table_All_1) #[] #[]] h R := by
  subst hn
  refine slices_SortFunc_s_regs_Reg_regs_Reg.reg.walk (len_ok fun lim => ⟨_, rfl, slices_pdqsortCmpFunc_regs_Reg.reg.walk ?_⟩)
  refine ⟨fun a b l _ _ g => a = 0 ∧ b = ((xs.length : Nat) : Int) ∧ l = lim ∧ g = h, fun _ _ _ _ _ _ => 0, ⟨rfl, rfl, rfl, rfl⟩, ?_⟩
  rintro _ _ _ wb wp _ ⟨rfl, rfl, rfl, rfl⟩
  refine JoinP.of fun J hJ => ?_
  rw [wrap_id (by omega) (by omega), if_pos (by simp; omega)]
  exact insertion_ok o rfl (by omega) nd fun h' ys o' p' s' f' => ⟨rfl, rfl, hk h' ys o' p' s' f'⟩
theorem all_ok (H : Tb h b X L) (hl : L.length ≤ 12) (hk : ∀ h' p' c', Own h' p' L.length c' 7 (L.flatMap genc) → (∀ y, inBlk p' y → h.size ≤ y) → Fr (fun _ => False) h h' → R (.slice p' L.length c') h') :
    CallsH Tryd.prog F.regs_Table_All #[.pointer (some ⟨b, 0, none⟩)] h R := by
  obtain ⟨m, H⟩ := H
  refine regs_Table_All.walk (made_ok H ⟨_, rfl, JoinP.of fun J hJ => ?_⟩)
  rw [if_pos rfl]
  refine ⟨_, cell_at H.blk rfl, den_rangeP mapTy H.map fun it h1 e1 I1 f1 => ⟨_, rfl, ?_⟩⟩
  refine ⟨fun op ol oc g => ∃ ys : List Rg, ol = ys.length ∧ Own g op ol oc 7 (ys.flatMap genc) ∧ (∀ y, inBlk op y → h.size ≤ y ∧ y ≠ it) ∧ Iter g it m ev5 (L.map Rg.pair) (ys.map Rg.pair) ∧ Fr (fun _ => False) h g, fun _ ol _ _ => L.length - ol,
    ⟨[], rfl, .nil rfl rfl rfl rfl, (fun y ⟨a, e, _⟩ => by cases e), I1, f1⟩, ?_⟩
  rintro op ol oc g ⟨ys, rfl, oy, gy, Iy, fy⟩
  have zy := fy.1
  have hle := Iy.le
  rw [List.length_map, List.length_map] at hle
  refine den_nextP Iy (fun hp => .inl ⟨rfl, ?_⟩) (fun a v g1 hm hnm I1 s1 o1 => .inr ⟨_, _, rfl, ?_⟩)
  · subst hJ
    dsimp only
    -- all have come
    have hperm : ys.Perm L := by
      have e : ∀ l : List Rg, (l.map Rg.pair).map unp = l := fun l => by
        rw [List.map_map]
        conv => rhs; rw [← List.map_id l]
        exact List.map_congr_left (fun r _ => rfl)
      have := hp.map unp
      rwa [e, e] at this
    have nd : KeysNd ys := (hperm.map Rg.e).nodup_iff.2 (keys_nodup H.so)
    have hlen := hperm.length_eq
    refine sort_ok oy rfl (by omega) nd fun h3 zs o3 p3 s3 f3 => ⟨rfl, ?_⟩
    have : zs = L := (List.Perm.eq_of_pairwise (le := rless) (fun a b _ _ h1 h2 => by have := less_trans h1 h2; rw [less_irrefl] at this; cases this) s3 H.so (p3.trans hperm))
    subst this
    rw [hlen] at o3 ⊢
    exact hk h3 op oc o3 (fun y hy => (gy y hy).1) (fy.fresh f3 (fun y hy => (gy y hy).1))
  · obtain ⟨r, hr, e⟩ := List.mem_map.1 hm
    have ea : a = r.e := (congrArg Prod.fst e).symm
    have ev : v = r.val := (congrArg Prod.snd e).symm
    subst ea ev
    refine den_entryP I1 ⟨_, _, rfl, _, _, _, _, _, _, _, rfl, regs_Reg.new fun b2 g2 e2 hb2 f2 => regs_Reg.ld hb2 (newP_of ?_)⟩
    have f3 : Fr (fun _ => False) g2 (g2.push (.cells #[.bool r.e.ipn, .int .u64 r.e.node, .int .u64 r.e.svc, .string r.e.host, .string r.e.dem, .int .i64 r.pol, .int .i64 r.own] T.regs_Reg)) := Fr.push _ _
    have r3 : Row (g2.push (.cells #[.bool r.e.ipn, .int .u64 r.e.node, .int .u64 r.e.svc, .string r.e.host, .string r.e.dem, .int .i64 r.pol, .int .i64 r.own] T.regs_Reg)) (some ⟨g2.size, 0, none⟩) (genc r) := row_new (cs := genc r)
    generalize g2.push (.cells #[.bool r.e.ipn, .int .u64 r.e.node, .int .u64 r.e.svc, .string r.e.host, .string r.e.dem, .int .i64 r.pol, .int .i64 r.own] T.regs_Reg) = g3 at f3 r3 ⊢
    have fit : Fr (fun y => y = it) g g1 := ⟨by omega, fun y _ hn => o1 y hn⟩
    have oy1 := (oy.frame fit (fun y hy e => (gy y hy).2 e)).frame (f2.tt f3) (fun _ _ => id)
    have F1 : Fr (fun _ => False) h g1 := fy.fresh fit (fun y e => by have := f1.1; omega)
    have F3 := F1.tt (f2.tt f3)
    have hsz : g1.size ≤ g3.size := (f2.tt f3).1
    have itlt : it < g1.size := by
      obtain ⟨_, _, _, _, _, _, hr, _⟩ := I1
      exact lt_of_get hr
    refine den_append (cs := ys.flatMap genc) (ds := genc r) tG uG oy1 r3 rfl (genc_one r) (by omega) (by omega) fun p4 c4 g4 o4 _ f4 k4 => ⟨_, _, _, rfl, ?_⟩
    have hp4 : ∀ y, inBlk p4 y → h.size ≤ y ∧ y ≠ it := by
      intro y hy
      rcases k4 y hy with h5 | h5
      · exact gy y h5
      · have := F1.1; exact ⟨by omega, by omega⟩
    refine ⟨⟨ys ++ [r], by simp, ?_, hp4, ?_, F3.fresh f4 (fun y hy => (gy y hy).1)⟩, ?_⟩
    · rw [List.flatMap_append, List.flatMap_singleton]; exact o4
    · rw [List.map_append]
      have hmb : m < h.size := H.map.lt
      exact (I1.frame (f2.tt f3) id id).frame f4 (fun hy => (gy it hy).2 rfl) (fun hy => by have := (gy m hy).1; omega)
    · have := I1.le
      rw [List.length_append, List.length_map, List.length_map, List.length_singleton] at this
      show L.length - (ys.length + 1) < L.length - ys.length
      omega
end Regs
end Go.Proofs.YtgccegnmggjkjaaDoor
