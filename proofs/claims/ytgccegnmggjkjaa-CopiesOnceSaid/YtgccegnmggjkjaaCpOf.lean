/-
  What is proved here: what 'numbers' and 'of' of package copies do. No condition.
-/
import Derived.Test.YtgccegnmggjkjaaCp
import Derived.Test.YtgccegnmggjkjaaSrt3
set_option maxRecDepth 100000
namespace Go.Proofs.Ytgccegnmggjkjaa
open Go.Den Go.Heapq
namespace Cps
open Eid Alarm
variable {h h' : Heap} {R : Value → Heap → Prop} {t : Nat} {X : Ft} {s s' : CF} {m a1 a2 : Nat} {xs : List CV} {S1 S2 S1' S2' : Nat → Prop} {lab : Nat → Option Nat} {p : Option Addr} {n c : Nat}

theorem uSI : Try.prog.underlying T.s_int = some (.slice T.int) := by kernel_rfl
theorem made_ok (H : Cm h t X s m xs a1 S1 a2 S2 lab) (hk : R (.bool true) h) : CallsH Try.prog F.copies_Table_made #[.pointer (some ⟨t, 0, none⟩)] h R := copies_Table_made.walk ⟨_, cell_at H.blk rfl, hk⟩
def nums (xs : List CV) : List Int := xs.map (fun x => (x.num : Int))
theorem nums_so (H : Cm h t X s m xs a1 S1 a2 S2 lab) : (nums xs).Pairwise (· < ·) := by
  have := H.so
  rw [List.pairwise_map] at this
  unfold nums
  rw [List.pairwise_map]
  exact this.imp (fun h => by omega)
theorem numbers_ok (H : Cm h t X s m xs a1 S1 a2 S2 lab) (hl : xs.length ≤ 60000) (hk : ∀ h' p' c', Own h' p' xs.length c' 1 ((nums xs).map ienc) → (∀ y, inBlk p' y → h.size ≤ y) → Fr (fun _ => False) h h' → R (.slice p' xs.length c') h') :
    CallsH Try.prog F.copies_Table_numbers #[.pointer (some ⟨t, 0, none⟩)] h R := by
  refine copies_Table_numbers.walk (made_ok H ⟨_, rfl, JoinP.of fun J hJ => ?_⟩)
  rw [if_pos rfl]
  refine ⟨_, cell_at H.blk rfl, den_rangeP mapTy H.map fun it h1 e1 I1 f1 => ⟨_, rfl, ?_⟩⟩
  refine ⟨fun op ol oc g => ∃ ds : List (Int × Value), ol = ds.length ∧ Own g op ol oc 1 ((ds.map (·.1)).map ienc) ∧ (∀ y, inBlk op y → h.size ≤ y ∧ y ≠ it) ∧ Iter g it m ienc (xs.map CV.pair) ds ∧ Fr (fun _ => False) h g, fun _ ol _ _ => xs.length - ol,
    ⟨[], rfl, .nil rfl rfl rfl rfl, (fun y ⟨a, e, _⟩ => by cases e), I1, f1⟩, ?_⟩
  rintro op ol oc g ⟨ds, rfl, oy, gy, Iy, fy⟩
  have hle := Iy.le
  rw [List.length_map] at hle
  refine den_nextP Iy (fun hp => .inl ⟨rfl, ?_⟩) (fun a v g1 hm hnm I1 s1 o1 => .inr ⟨_, _, rfl, ?_⟩)
  · subst hJ
    dsimp only
    have hperm : (ds.map (·.1)).Perm (nums xs) := by
      have := hp.map (·.1)
      rw [List.map_map] at this
      exact this
    have so := nums_so H
    have nd : (ds.map (·.1)).Nodup := hperm.nodup_iff.2 (so.imp (fun h => by omega))
    have hlen : ds.length = xs.length := by rw [hp.length_eq, List.length_map]
    refine Srt.sort_ok oy (by rw [List.length_map]) nd (by omega) fun h3 zs o3 p3 s3 f3 => ⟨rfl, ?_⟩
    have : zs = nums xs := List.Perm.eq_of_pairwise (le := (· < ·)) (fun a b _ _ h1 h2 => by omega) s3 so (p3.trans hperm)
    subst this
    rw [hlen] at o3 ⊢
    exact hk h3 op oc o3 (fun y hy => (gy y hy).1) (fy.fresh f3 (fun y hy => (gy y hy).1))
  · refine den_entryP I1 ⟨_, _, rfl, _, rfl, newP_of ?_⟩
    have f3 : Fr (fun _ => False) g1 (g1.push (.cells #[.int .i64 a] T.int)) := Fr.push _ _
    have r3 : Row (g1.push (.cells #[.int .i64 a] T.int)) (some ⟨g1.size, 0, none⟩) [ienc a] := row_new (cs := [ienc a])
    have z3 : (g1.push (.cells #[.int .i64 a] T.int)).size = g1.size + 1 := Array.size_push _
    generalize g1.push (.cells #[.int .i64 a] T.int) = g3 at f3 r3 z3 ⊢
    have fit : Fr (fun y => y = it) g g1 := ⟨by omega, fun y _ hn => o1 y hn⟩
    have oy1 := (oy.frame fit (fun y hy e => (gy y hy).2 e)).frame f3 (fun _ _ => id)
    have zf := f1.1
    have F1 : Fr (fun _ => False) h g1 := fy.fresh fit (fun y e => by omega)
    have F3 := F1.tt f3
    have itlt : it < g1.size := by
      obtain ⟨_, _, _, _, _, _, hr, _⟩ := I1
      exact lt_of_get hr
    refine den_append (cs := (ds.map (·.1)).map ienc) (ds := [ienc a]) tI uSI oy1 r3 rfl (fun v hv => by simp at hv; subst hv; rfl) (by omega) (by omega) fun p4 c4 g4 o4 _ f4 k4 => ⟨_, _, _, rfl, ?_⟩
    have hp4 : ∀ y, inBlk p4 y → h.size ≤ y ∧ y ≠ it := by
      intro y hy
      rcases k4 y hy with h5 | h5
      · exact gy y h5
      · have := F1.1; exact ⟨by omega, by omega⟩
    refine ⟨⟨ds ++ [(a, v)], by simp, ?_, hp4, ?_, F3.fresh f4 (fun y hy => (gy y hy).1)⟩, ?_⟩
    · rw [List.map_append, List.map_append]; exact o4
    · have hmb : m < h.size := H.map.lt
      exact (I1.frame f3 id id).frame f4 (fun hy => (gy it hy).2 rfl) (fun hy => by have := (gy m hy).1; omega)
    · have := I1.le
      rw [List.length_append, List.length_map, List.length_singleton] at this
      show xs.length - (ds.length + 1) < xs.length - ds.length
      omega
theorem look (H : Cm h t X s m xs a1 S1 a2 S2 lab) {x : CV} (hx : x ∈ xs) : LookV Try.prog T.m_int_p_copies_Copy (.map (some m)) (.int .i64 (x.num : Int)) false h (.pointer (some ⟨x.b, 0, none⟩)) := by
  have := lookV_P mapTy H.map (x.num : Int)
  have e : gget (xs.map CV.pair) (x.num : Int) = some (.pointer (some ⟨x.b, 0, none⟩)) := (gget_some H.map.nodup).2 (List.mem_map.2 ⟨x, hx, rfl⟩)
  rw [e] at this
  exact this
theorem look_no (H : Cm h t X s m xs a1 S1 a2 S2 lab) {n : Int} (hn : ∀ x ∈ xs, (x.num : Int) ≠ n) : LookV Try.prog T.m_int_p_copies_Copy (.map (some m)) (.int .i64 n) false h (.pointer none) := by
  have := lookV_P mapTy H.map n
  have e : gget (xs.map CV.pair) n = none := gget_none.2 (fun e he => by obtain ⟨x, hx, rfl⟩ := List.mem_map.1 he; exact hn x hx)
  rw [e] at this
  exact this
/-! ### those of an endpoint -/
/-- what a test of 'of' needs of the heap -/
structure Env (h : Heap) (t : Nat) (m : Nat) (xs : List CV) (c0 c1 : Nat) (x : Ev) : Prop where
  b0 : h[c0]? = some (.cells #[.pointer (some ⟨t, 0, none⟩)] T.p_copies_Table (0, 0))
  b1 : Ev.at h c1 x
  cm : ∃ X s a1 S1 a2 S2 lab, Cm h t X s m xs a1 S1 a2 S2 lab
variable {c0 c1 : Nat} {x : Ev}
theorem of1_ok (V : Env h t m xs c0 c1 x) {y : CV} (hy : y ∈ xs) (hk : R (.bool (!decide (y.e = x))) h) : CallsH Try.prog F.copies_Table_of_1 #[.int .i64 (y.num : Int), .pointer (some ⟨c0, 0, none⟩), .pointer (some ⟨c1, 0, none⟩)] h R := by
  obtain ⟨X, s, a1, S1, a2, S2, lab, H⟩ := V.cm
  have ca := H.cps y hy
  refine copies_Table_of_1.walk ⟨_, cell_at V.b0 rfl, onSome_some.2 ⟨_, cell_at H.blk rfl, _, look H hy, onSome_some.2 ⟨_, cell_at ca rfl, _, cell_at ca rfl, _, cell_at ca rfl, _, cell_at ca rfl, _, cell_at ca rfl, ?_⟩⟩⟩
  exact eid_Eid.ld V.b1 ⟨_, eqv' (x := y.e) (y := x) rfl rfl, hk⟩
def keepN (xs : List CV) (x : Ev) (n : Int) : Bool := xs.any (fun y => decide ((y.num : Int) = n) && decide (y.e = x))
theorem keepN_mem (so : (nums xs).Pairwise (· < ·)) {y : CV} (hy : y ∈ xs) : keepN xs x (y.num : Int) = decide (y.e = x) := by
  unfold keepN
  by_cases e : y.e = x
  · rw [decide_eq_true e, List.any_eq_true]; exact ⟨y, hy, by simp [e]⟩
  · rw [decide_eq_false e, List.any_eq_false]
    intro z hz
    simp only [Bool.and_eq_true, decide_eq_true_eq, not_and]
    intro hn
    have : z = y := by
      obtain ⟨i, hi⟩ := List.getElem?_of_mem hz
      obtain ⟨j, hj⟩ := List.getElem?_of_mem hy
      have hnd : (nums xs).Nodup := so.imp (fun h => by omega)
      have hil := (List.getElem?_eq_some_iff.1 hi).1
      have := (List.getElem?_inj (l := nums xs) (i := i) (j := j) (by simpa [nums] using hil) hnd).1 (by unfold nums; rw [List.getElem?_map, List.getElem?_map, hi, hj]; simp [hn])
      subst this
      rw [hi] at hj; exact Option.some.inj hj
    rw [this]; exact e
theorem idx_ok {ns : List Int} (V : Env h t m xs c0 c1 x) (o : Own h p n c 1 (ns.map ienc)) (hn : n = ns.length) (hb : n ≤ 60000) (hs : ∀ k ∈ ns, ∃ y ∈ xs, k = (y.num : Int))
    (k1 : ∀ i, i < n → (∀ j, j < i → ∀ k, ns[j]? = some k → keepN xs x k = true) → (∀ k, ns[i]? = some k → keepN xs x k = false) → R (.int .i64 (i : Int)) h) (k2 : (∀ k ∈ ns, keepN xs x k = true) → R (.int .i64 (-1)) h) :
    CallsH Try.prog F.slices_IndexFunc_s_int_int #[.slice p n c, .func (.func F.copies_Table_of_1) #[] #[.pointer (some ⟨c0, 0, none⟩), .pointer (some ⟨c1, 0, none⟩)]] h R := by
  subst hn
  have so : (nums xs).Pairwise (· < ·) := by obtain ⟨X, s, a1, S1, a2, S2, lab, H⟩ := V.cm; exact nums_so H
  refine slices_IndexFunc_s_int_int.of.walk ?_
  refine ⟨fun u g => g = h ∧ ∃ i : Nat, u = (i : Int) ∧ i ≤ ns.length ∧ ∀ j, j < i → ∀ k, ns[j]? = some k → keepN xs x k = true, fun u _ => ns.length - u.toNat, ⟨rfl, 0, rfl, Nat.zero_le _, fun j hj => by omega⟩, ?_⟩
  rintro _ g ⟨rfl, i, rfl, hi, hall⟩
  by_cases hlt : i < ns.length
  · rw [if_pos (decide_eq_true (by omega))]
    have hk : ns[i]? = some ns[i] := List.getElem?_eq_getElem hlt
    generalize ns[i] = k at hk
    obtain ⟨y, hy, rfl⟩ := hs k (List.mem_of_getElem? hk)
    obtain ⟨ab, ao, rfl⟩ := o.addr (by omega)
    have cc := o.cell (j := i) (v := ienc (y.num : Int)) (by rw [List.getElem?_map, hk]; rfl)
    simp only [Int.toNat_natCast, Nat.mul_one]
    refine ⟨⟨by omega, by omega⟩, onSome_some.2 ⟨_, cc, of1_ok V hy ⟨_, rfl, ?_⟩⟩⟩
    have kn := keepN_mem (x := x) so hy
    by_cases e : y.e = x
    · rw [decide_eq_true e, if_neg (by decide), wrap_id (by omega) (by omega)]
      rw [decide_eq_true e] at kn
      refine ⟨⟨rfl, i + 1, by omega, by omega, fun j hj k hk2 => ?_⟩, by show ns.length - Int.toNat ((i : Int) + 1) < ns.length - i; omega⟩
      by_cases ej : j = i
      · subst ej; rw [hk] at hk2; cases hk2; exact kn
      · exact hall j (by omega) k hk2
    · rw [decide_eq_false e, if_pos (by decide)]
      rw [decide_eq_false e] at kn
      exact k1 i hlt hall (fun k hk2 => by rw [hk] at hk2; cases hk2; exact kn)
  · rw [if_neg (by simp; omega)]
    exact k2 (fun k hk => by
      obtain ⟨j, hj⟩ := List.getElem?_of_mem hk
      exact hall j (by have := (List.getElem?_eq_some_iff.1 hj).1; omega) k hj)
theorem Env.frame {Q : Nat → Prop} (V : Env h t m xs c0 c1 x) (f : Fr Q h h') (h0 : ¬ Q c0) (h1 : ¬ Q c1) (hq : ∀ X s a1 S1 a2 S2 lab, Cm h t X s m xs a1 S1 a2 S2 lab → Cm h' t X s m xs a1 S1 a2 S2 lab) : Env h' t m xs c0 c1 x := by
  obtain ⟨X, s, a1, S1, a2, S2, lab, H⟩ := V.cm
  exact ⟨f.get V.b0 h0, f.get V.b1 h1, X, s, a1, S1, a2, S2, lab, hq _ _ _ _ _ _ _ H⟩
theorem del_ok {ns : List Int} (V : Env h t m xs c0 c1 x) (o : Own h p n c 1 (ns.map ienc)) (hn : n = ns.length) (hb : n ≤ 60000) (hs : ∀ k ∈ ns, ∃ y ∈ xs, k = (y.num : Int))
    (hV : ∀ g, Fr (inBlk p) h g → Env g t m xs c0 c1 x)
    (hk : ∀ h' c', Own h' p (ns.filter (keepN xs x)).length c' 1 ((ns.filter (keepN xs x)).map ienc) → Fr (inBlk p) h h' → R (.slice p (ns.filter (keepN xs x)).length c') h') :
    CallsH Try.prog F.slices_DeleteFunc_s_int_int #[.slice p n c, .func (.func F.copies_Table_of_1) #[] #[.pointer (some ⟨c0, 0, none⟩), .pointer (some ⟨c1, 0, none⟩)]] h R := by
  subst hn
  have so : (nums xs).Pairwise (· < ·) := by obtain ⟨X, s, a1, S1, a2, S2, lab, H⟩ := V.cm; exact nums_so H
  have one : ∀ v ∈ ((.int .i64 0 : Value)).cells.toList, oneCell v = true := fun v hv => by
    have : v = .int .i64 0 := by simpa [Value.cells] using hv
    subst this; rfl
  refine slices_DeleteFunc_s_int_int.of.walk (idx_ok V o rfl hb hs (fun i hi hall hno => ⟨_, rfl, ?_⟩) (fun hall => ⟨_, rfl, ?_⟩))
  · rw [if_neg (by intro h; have h := eq_of_beq h; omega), wrap_id (by omega) (by omega)]
    have take_all : (ns.take i).filter (keepN xs x) = ns.take i := by
      rw [List.filter_eq_self]
      intro k hk2
      obtain ⟨j, hj⟩ := List.getElem?_of_mem hk2
      rw [List.getElem?_take] at hj
      split at hj
      · rename_i hji; exact hall j hji k hj
      · cases hj
    have step0 : (ns.take (i + 1)).filter (keepN xs x) = ns.take i := by
      have hk : ns[i]? = some ns[i] := List.getElem?_eq_getElem hi
      rw [List.take_add_one, hk, List.filter_append, take_all]
      simp [hno _ hk]
    refine ⟨fun u w g => ∃ (i j : Nat) (vs : List Int), u = (i : Int) ∧ w = (j : Int) ∧ i ≤ j ∧ j ≤ ns.length ∧ vs.length = ns.length ∧ Own g p ns.length c 1 (vs.map ienc) ∧ vs.take i = (ns.take j).filter (keepN xs x) ∧ (∀ q, j ≤ q → vs[q]? = ns[q]?) ∧ Fr (inBlk p) h g, fun _ w _ => ns.length - w.toNat,
      ⟨i, i + 1, ns, rfl, by omega, by omega, by omega, rfl, o, step0.symm, fun _ _ => rfl, Fr.refl _ _⟩, ?_⟩
    clear take_all step0 hall hno
    rintro _ _ g ⟨i, j, vs, rfl, rfl, hij, hj, hl, ov, hta, hdr, fg⟩
    have hil : ((ns.take j).filter (keepN xs x)).length = i := by rw [← hta, List.length_take]; omega
    by_cases hlt : j < ns.length
    · rw [if_pos (decide_eq_true (by omega))]
      refine JoinP.of fun J hJ => ?_
      have hnj : ns[j]? = some ns[j] := List.getElem?_eq_getElem hlt
      generalize ns[j] = k at hnj
      obtain ⟨y, hy, rfl⟩ := hs k (List.mem_of_getElem? hnj)
      obtain ⟨ab, ao, rfl⟩ := ov.addr (by omega)
      have hkv : vs[j]? = some (y.num : Int) := by rw [hdr j (Nat.le_refl _)]; exact hnj
      have cc := ov.cell (j := j) (v := ienc (y.num : Int)) (by rw [List.getElem?_map, hkv]; rfl)
      simp only [Int.toNat_natCast, Nat.mul_one]
      have kn := keepN_mem (x := x) so hy
      have tk : (ns.take (j + 1)).filter (keepN xs x) = (ns.take j).filter (keepN xs x) ++ (if y.e = x then [(y.num : Int)] else []) := by
        rw [List.take_add_one, hnj, List.filter_append]
        congr 1
        show [(y.num : Int)].filter (keepN xs x) = _
        rw [List.filter_cons, kn]
        by_cases e : y.e = x <;> simp [e]
      refine ⟨⟨by omega, by omega⟩, onSome_some.2 ⟨_, cc, of1_ok (hV g fg) hy ⟨_, rfl, JoinP.of fun J1 hJ1 => ?_⟩⟩⟩
      by_cases e : y.e = x
      · rw [decide_eq_true e, if_pos (by decide)]
        rw [if_pos e] at tk
        refine ⟨⟨by omega, by omega⟩, onSome_some.2 (ov.store (by rw [List.length_map]; omega) fun g2 o2 s2 q2 => ?_)⟩
        subst hJ1
        subst hJ
        have e2 : (vs.map ienc).set i (.int .i64 (y.num : Int)) = (vs.set i (y.num : Int)).map ienc := by rw [List.map_set]
        rw [e2] at o2
        dsimp only
        rw [wrap_id (n := (i : Int) + 1) (by omega) (by omega), wrap_id (n := (j : Int) + 1) (by omega) (by omega)]
        refine ⟨⟨i + 1, j + 1, _, by omega, by omega, by omega, by omega, by rw [List.length_set]; exact hl, o2, ?_, fun q hq => ?_, fg.tt ⟨by omega, fun z _ hn => q2 z hn⟩⟩, by show ns.length - Int.toNat ((j : Int) + 1) < ns.length - j; omega⟩
        · rw [tk, ← hta, List.take_add_one, List.getElem?_set_self (by omega)]
          congr 1
          apply List.ext_getElem?
          intro q
          rw [List.getElem?_take, List.getElem?_take]
          split
          · rw [List.getElem?_set_ne (by omega)]
          · rfl
        · rw [List.getElem?_set_ne (by omega)]; exact hdr q (by omega)
      · rw [decide_eq_false e, if_neg (by decide)]
        rw [if_neg e, List.append_nil] at tk
        subst hJ1
        subst hJ
        dsimp only
        rw [wrap_id (n := (j : Int) + 1) (by omega) (by omega)]
        exact ⟨⟨i, j + 1, vs, rfl, by omega, by omega, by omega, hl, ov, by rw [tk, hta], fun q hq => hdr q (by omega), fg⟩, by show ns.length - Int.toNat ((j : Int) + 1) < ns.length - j; omega⟩
    · rw [if_neg (by simp; omega)]
      obtain rfl : j = ns.length := by omega
      rw [List.take_length] at hta hil
      simp only [Int.toNat_natCast, Nat.sub_zero]
      refine ⟨⟨by omega, by omega⟩, den_clear tI one ov (by omega) fun g2 o2 f2 => ⟨rfl, ⟨by omega, by have := ov.le; omega⟩, ?_⟩⟩
      rw [slBase_zero]
      rw [Nat.mul_one, ← List.map_take, hta] at o2
      have := hk g2 c (by rw [hil]; exact o2) (fg.tt f2)
      rw [hil] at this
      exact this
  · rw [if_pos (by rfl)]
    have e : ns.filter (keepN xs x) = ns := by rw [List.filter_eq_self]; exact hall
    have := hk h c (by rw [e]; exact o) (Fr.refl _ _)
    rw [e] at this
    exact this
theorem keep_nums (so : (nums xs).Pairwise (· < ·)) : (nums xs).filter (keepN xs x) = nums (xs.filter (fun y => decide (y.e = x))) := by
  unfold nums
  rw [List.filter_map]
  congr 1
  exact List.filter_congr (fun y hy => keepN_mem so hy)
theorem of_ok (H : Cm h t X s m xs a1 S1 a2 S2 lab) (x : Ev) (hl : xs.length ≤ 60000) (hk : ∀ h' p' c', Own h' p' (xs.filter (fun y => decide (y.e = x))).length c' 1 ((nums (xs.filter (fun y => decide (y.e = x)))).map ienc) → (∀ y, inBlk p' y → h.size ≤ y) → Fr (fun _ => False) h h' → R (.slice p' (xs.filter (fun y => decide (y.e = x))).length c') h') :
    CallsH Try.prog F.copies_Table_of #[.pointer (some ⟨t, 0, none⟩), ev5 x] h R := by
  refine copies_Table_of.walk (newP_of ?_)
  have f1 : Fr (fun _ => False) h (h.push (.cells #[.pointer (some ⟨t, 0, none⟩)] T.p_copies_Table)) := Fr.push _ _
  have b1 : (h.push (.cells #[.pointer (some ⟨t, 0, none⟩)] T.p_copies_Table))[h.size]? = some (.cells #[.pointer (some ⟨t, 0, none⟩)] T.p_copies_Table (0, 0)) := push_new
  have z1 : (h.push (.cells #[.pointer (some ⟨t, 0, none⟩)] T.p_copies_Table)).size = h.size + 1 := Array.size_push _
  generalize h.push (.cells #[.pointer (some ⟨t, 0, none⟩)] T.p_copies_Table) = h1 at f1 b1 z1 ⊢
  refine eid_Eid.box fun c1 h2 e2 hb2 f2 => ⟨_, cell_at (f2.get b1 id) rfl, ?_⟩
  have z2 := lt_of_get hb2
  refine numbers_ok (H.on (f1.tt f2)) hl fun h3 p3 l3 o3 g3 f3 => ⟨_, _, _, rfl, ?_⟩
  have F3 := f1.tt (f2.tt f3)
  have H3 := H.on F3
  have zf := f2.1
  have V3 : Env h3 t m xs h.size c1 x := ⟨(f2.tt f3).get b1 id, f3.get hb2 id, X, s, a1, S1, a2, S2, lab, H3⟩
  have hV : ∀ g, Fr (inBlk p3) h3 g → Env g t m xs h.size c1 x := fun g fg =>
    ⟨fg.get V3.b0 (fun hy => by have := g3 _ hy; omega), fg.get V3.b1 (fun hy => by have := g3 _ hy; omega), X, s, a1, S1, a2, S2, lab, H3.frame fg (fun y hy hin => by
      have h1 := g3 y hin
      have h2 : y < h.size := (Ct.lt (s := s) ⟨m, xs, a1, S1, a2, S2, lab, H⟩ y hy)
      omega)⟩
  have nl : (nums xs).length = xs.length := by unfold nums; rw [List.length_map]
  refine del_ok V3 o3 nl.symm hl (fun k hk2 => by
    obtain ⟨y, hy, rfl⟩ := List.mem_map.1 hk2
    exact ⟨y, hy, rfl⟩) hV fun h4 c4 o4 f4 => ⟨_, _, _, rfl, ?_⟩
  have en := keep_nums (x := x) (nums_so H)
  have el : ((nums xs).filter (keepN xs x)).length = (xs.filter (fun y => decide (y.e = x))).length := by rw [en]; unfold nums; rw [List.length_map]
  rw [el] at o4 ⊢
  rw [en] at o4
  exact hk h4 p3 c4 o4 (fun y hy => by have := g3 y hy; omega) (F3.fresh f4 (fun y hy => by have := g3 y hy; omega))
end Cps
end Go.Proofs.Ytgccegnmggjkjaa
