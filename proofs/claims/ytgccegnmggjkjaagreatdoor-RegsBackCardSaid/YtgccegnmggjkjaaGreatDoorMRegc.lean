/-
  What is proved here: the parts named below, one behind the other (texts of this work, merged by a program). No condition.
-/
import Derived.Test.YtgccegnmggjkjaaGreatDoorProg
import Derived.Shelf.Strconv.Itoa4
import Derived.Ground.NamesProg
import Derived.Shelf.Strings.Cut
import Derived.Shelf.Small.Wraps
import Derived.Shelf.Pu.ParseUintPublic10
import Derived.Ground.MpProg
import Derived.Test.YtgccegnmggjkjaaGreatDoorMRegb

/-
  What is proved here: plain: insertion sort, step by step. No program in sight. No condition.
-/
namespace Go.Den
section
variable {α : Type} {lt : α → α → Prop} {xs ys : List α} {a b i j : Nat}
def SortedOn (lt : α → α → Prop) (xs : List α) (a b : Nat) : Prop := ∀ (p q : Nat) x y, a ≤ p → p < q → q < b → xs[p]? = some x → xs[q]? = some y → lt x y
theorem SortedOn.pair (h : SortedOn lt xs 0 xs.length) : xs.Pairwise lt := by
  rw [List.pairwise_iff_getElem]
  intro i j hi hj hij
  exact h i j _ _ (Nat.zero_le _) hij hj (List.getElem?_eq_getElem hi) (List.getElem?_eq_getElem hj)
theorem SortedOn.small (h : b ≤ a + 1) : SortedOn lt xs a b := fun p q _ _ h1 h2 h3 => by omega
structure InsI (lt : α → α → Prop) (xs ys : List α) (a i j : Nat) : Prop where
  perm : ys.Perm xs
  out : ∀ k, k < a ∨ i < k → ys[k]? = xs[k]?
  so : ∀ (p q : Nat) x y, a ≤ p → p < q → q ≤ i → p ≠ j → q ≠ j → ys[p]? = some x → ys[q]? = some y → lt x y
  up : ∀ (q : Nat) x y, j < q → q ≤ i → ys[j]? = some x → ys[q]? = some y → lt x y
theorem InsI.start (h : SortedOn lt xs a i) : InsI lt xs xs a i i :=
  ⟨.refl _, fun _ _ => rfl, fun p q x y h1 h2 h3 _ h5 => h p q x y h1 h2 (by omega), fun q x y h1 h2 => by omega⟩
theorem InsI.swap {x y : α} (H : InsI lt xs ys a i j) (hj : a < j) (hji : j ≤ i) (hi : i < ys.length) (hx : ys[j]? = some x) (hy : ys[j - 1]? = some y) (hl : lt x y) : InsI lt xs (swp ys j (j - 1)) a i (j - 1) := by
  have at_ : ∀ k : Nat, (swp ys j (j - 1))[k]? = if k = j - 1 then ys[j]? else if k = j then ys[j - 1]? else ys[k]? := swp_at (by omega) (by omega)
  refine ⟨(swp_perm (by omega) (by omega)).trans H.perm, fun k hk => ?_, fun p q u v h1 h2 h3 h4 h5 hu hv => ?_, fun q u v h1 h2 hu hv => ?_⟩
  · rw [at_, if_neg (by omega), if_neg (by omega)]; exact H.out k hk
  · rw [at_, if_neg h4] at hu
    rw [at_, if_neg h5] at hv
    by_cases p0 : p = j
    · rw [if_pos p0] at hu
      rw [if_neg (by omega)] at hv
      exact H.so (j - 1) q u v (by omega) (by omega) h3 (by omega) (by omega) hu hv
    · rw [if_neg p0] at hu
      by_cases q0 : q = j
      · rw [if_pos q0] at hv
        exact H.so p (j - 1) u v h1 (by omega) (by omega) p0 (by omega) hu hv
      · rw [if_neg q0] at hv
        exact H.so p q u v h1 h2 h3 p0 q0 hu hv
  · rw [at_, if_pos rfl] at hu
    rw [at_, if_neg (by omega)] at hv
    by_cases q0 : q = j
    · rw [if_pos q0] at hv
      rw [hx] at hu; rw [hy] at hv
      cases hu; cases hv; exact hl
    · rw [if_neg q0] at hv
      exact H.up q u v (by omega) h2 hu hv
theorem InsI.stop (htr : ∀ {x y z}, lt x y → lt y z → lt x z) (H : InsI lt xs ys a i j) (hj : a ≤ j) (hji : j ≤ i) (hi : i < ys.length) (he : j = a ∨ ∀ x y, ys[j]? = some x → ys[j - 1]? = some y → lt y x) : SortedOn lt ys a (i + 1) := by
  intro p q u v h1 h2 h3 hu hv
  by_cases p0 : p = j
  · subst p0; exact H.up q u v h2 (by omega) hu hv
  · by_cases q0 : q = j
    · subst q0
      rcases he with he | he
      · omega
      · have hw : ys[q - 1]? = some (ys[q - 1]'(by omega)) := List.getElem?_eq_getElem _
        have hl := he _ _ hv hw
        by_cases p1 : p = q - 1
        · subst p1; rw [hw] at hu; cases hu; exact hl
        · exact htr (H.so p (q - 1) _ _ h1 (by omega) (by omega) p0 (by omega) hu hw) hl
    · exact H.so p q u v h1 h2 (by omega) p0 q0 hu hv
end
end Go.Den

/-
  Printed by a program of this work (vc.py): the verification conditions of functions, and that each is enough for the call. No condition.
-/
set_option maxRecDepth 100000
set_option maxHeartbeats 4000000
namespace Go.Proofs.YtgccegnmggjkjaaGreatDoor
open Go.Den
def math_bits_Len.vc (x : Int) (h : Heap) (R : Value → Heap → Prop) : Prop :=
 CallsH Tryz.prog F.math_bits_Len64 #[.int .u64 x] h fun v h_1 =>
 ∃ (t7 : Int), v = .int .i64 t7 ∧
 R (.int .i64 t7) h_1
theorem math_bits_Len.walk {x : Int} {h : Heap} {R : Value → Heap → Prop} (hv : math_bits_Len.vc x h R) : CallsH Tryz.prog F.math_bits_Len #[.int .u64 x] h R :=
 callsH_of_body (.seq .leaf (.seq (.cond (.seq .leaf .leaf) .leaf) (.seq .leaf .leaf))) Tryz.func191 rfl rfl (Eq.mp (by kernel_rfl) hv)

def math_bits_Len64.vc (x : Int) (h : Heap) (R : Value → Heap → Prop) : Prop :=
 JoinP (fun (x_1 : Int) (n : Int) (h_1 : Heap) =>
 JoinP (fun (x_2 : Int) (n_1 : Int) (h_2 : Heap) =>
 JoinP (fun (x_3 : Int) (n_2 : Int) (h_3 : Heap) =>
 ((0 : Int) ≤ IntKind.wrap .u8 x_3 ∧ IntKind.wrap .u8 x_3 < (((⟨#[0, 1, 2, 2, 3, 3, 3, 3, 4, 4, 4, 4, 4, 4, 4, 4, 5, 5, 5, 5, 5, 5, 5, 5, 5, 5, 5, 5, 5, 5, 5, 5, 6, 6, 6, 6, 6, 6, 6, 6, 6, 6, 6, 6, 6, 6, 6, 6, 6, 6, 6, 6, 6, 6, 6, 6, 6, 6, 6, 6, 6, 6, 6, 6, 7, 7, 7, 7, 7, 7, 7, 7, 7, 7, 7, 7, 7, 7, 7, 7, 7, 7, 7, 7, 7, 7, 7, 7, 7, 7, 7, 7, 7, 7, 7, 7, 7, 7, 7, 7, 7, 7, 7, 7, 7, 7, 7, 7, 7, 7, 7, 7, 7, 7, 7, 7, 7, 7, 7, 7, 7, 7, 7, 7, 7, 7, 7, 7, 8, 8, 8, 8, 8, 8, 8, 8, 8, 8, 8, 8, 8, 8, 8, 8, 8, 8, 8, 8, 8, 8, 8, 8, 8, 8, 8, 8, 8, 8, 8, 8, 8, 8, 8, 8, 8, 8, 8, 8, 8, 8, 8, 8, 8, 8, 8, 8, 8, 8, 8, 8, 8, 8, 8, 8, 8, 8, 8, 8, 8, 8, 8, 8, 8, 8, 8, 8, 8, 8, 8, 8, 8, 8, 8, 8, 8, 8, 8, 8, 8, 8, 8, 8, 8, 8, 8, 8, 8, 8, 8, 8, 8, 8, 8, 8, 8, 8, 8, 8, 8, 8, 8, 8, 8, 8, 8, 8, 8, 8, 8, 8, 8, 8, 8, 8, 8, 8, 8, 8, 8, 8, 8, 8, 8, 8, 8, 8]⟩ : ByteArray).size : Nat) : Int)) ∧
 R (.int .i64 (IntKind.wrap .i64 (n_2 + (IntKind.wrap .i64 ((((⟨#[0, 1, 2, 2, 3, 3, 3, 3, 4, 4, 4, 4, 4, 4, 4, 4, 5, 5, 5, 5, 5, 5, 5, 5, 5, 5, 5, 5, 5, 5, 5, 5, 6, 6, 6, 6, 6, 6, 6, 6, 6, 6, 6, 6, 6, 6, 6, 6, 6, 6, 6, 6, 6, 6, 6, 6, 6, 6, 6, 6, 6, 6, 6, 6, 7, 7, 7, 7, 7, 7, 7, 7, 7, 7, 7, 7, 7, 7, 7, 7, 7, 7, 7, 7, 7, 7, 7, 7, 7, 7, 7, 7, 7, 7, 7, 7, 7, 7, 7, 7, 7, 7, 7, 7, 7, 7, 7, 7, 7, 7, 7, 7, 7, 7, 7, 7, 7, 7, 7, 7, 7, 7, 7, 7, 7, 7, 7, 7, 8, 8, 8, 8, 8, 8, 8, 8, 8, 8, 8, 8, 8, 8, 8, 8, 8, 8, 8, 8, 8, 8, 8, 8, 8, 8, 8, 8, 8, 8, 8, 8, 8, 8, 8, 8, 8, 8, 8, 8, 8, 8, 8, 8, 8, 8, 8, 8, 8, 8, 8, 8, 8, 8, 8, 8, 8, 8, 8, 8, 8, 8, 8, 8, 8, 8, 8, 8, 8, 8, 8, 8, 8, 8, 8, 8, 8, 8, 8, 8, 8, 8, 8, 8, 8, 8, 8, 8, 8, 8, 8, 8, 8, 8, 8, 8, 8, 8, 8, 8, 8, 8, 8, 8, 8, 8, 8, 8, 8, 8, 8, 8, 8, 8, 8, 8, 8, 8, 8, 8, 8, 8, 8, 8, 8, 8, 8, 8]⟩ : ByteArray).data.toList.getD (Int.toNat (IntKind.wrap .u8 x_3)) 0).toNat : Nat) : Int))))) h_3)
 (fun J_2 =>
 if (decide (x_2 ≥ 256)) = true then
 J_2 (Int.fdiv x_2 (2 ^ min (Int.toNat 8) (IntKind.bits .u64))) (IntKind.wrap .i64 (n_1 + 8)) h_2
 else
 J_2 x_2 n_1 h_2))
 (fun J_1 =>
 if (decide (x_1 ≥ 65536)) = true then
 J_1 (Int.fdiv x_1 (2 ^ min (Int.toNat 16) (IntKind.bits .u64))) (IntKind.wrap .i64 (n + 16)) h_1
 else
 J_1 x_1 n h_1))
 (fun J =>
 if (decide (x ≥ 4294967296)) = true then
 J (Int.fdiv x (2 ^ min (Int.toNat 32) (IntKind.bits .u64))) 32 h
 else
 J x 0 h)
theorem math_bits_Len64.walk {x : Int} {h : Heap} {R : Value → Heap → Prop} (hv : math_bits_Len64.vc x h R) : CallsH Tryz.prog F.math_bits_Len64 #[.int .u64 x] h R :=
 callsH_of_body (.seq .leaf (.seq (.seq .leaf (.join [(0, .one (.int .u64)), (2, .one (.int .i64))] (.cond (.seq .leaf .leaf) .leaf))) (.seq (.seq .leaf (.join [(0, .one (.int .u64)), (2, .one (.int .i64))] (.cond (.seq .leaf .leaf) .leaf))) (.seq (.seq .leaf (.join [(0, .one (.int .u64)), (2, .one (.int .i64))] (.cond (.seq .leaf .leaf) .leaf))) (.seq .leaf .leaf))))) Tryz.func214 rfl rfl (Eq.mp (by kernel_rfl) hv)

end Go.Proofs.YtgccegnmggjkjaaGreatDoor

/-
  What is proved here: what All of package regs does: all registrations, sorted. No condition.
-/
set_option maxRecDepth 100000
namespace Go.Proofs.YtgccegnmggjkjaaGreatDoor
open Go.Den
namespace Regs
open Eid
variable {h h' : Heap} {R : Value → Heap → Prop} {b : Nat} {X : Ft} {L xs : List Rg} {m n c : Nat} {p : Option Addr}

theorem genc_one (r : Rg) : ∀ v ∈ genc r, oneCell v = true := by
  intro v hv
  simp only [List.mem_cons, List.not_mem_nil, or_false] at hv
  rcases hv with rfl | rfl | rfl | rfl | rfl | rfl | rfl <;> rfl
theorem genc_ones (xs : List Rg) : ∀ v ∈ xs.flatMap genc, oneCell v = true := by
  intro v hv
  obtain ⟨r, _, hr⟩ := List.mem_flatMap.1 hv
  exact genc_one r v hr
theorem cmp_ok (x y : Rg) (hk : ∀ h', Fr (fun _ => False) h h' → R (.int .i64 (if lessE x.e y.e = true then -1 else 1)) h') : CallsH Tryz.prog F.regs_Table_All_1 #[x.val, y.val] h R := by
  refine regs_Table_All_1.walk (regs_Reg.box fun b1 h1 e1 hb1 f1 => regs_Reg.box fun b2 h2 e2 hb2 f2 => ld_e (r := x) (f2.get hb1 id) (ld_e (r := y) hb2 (less_ok x.e y.e fun h3 f3 => ⟨_, rfl, ?_⟩)))
  have K := hk h3 (f1.tt (f2.tt f3))
  by_cases q : lessE x.e y.e = true
  · rw [if_pos q]; rw [if_pos q] at K; exact K
  · rw [if_neg q]; rw [if_neg q] at K; exact K
theorem tG : SlTy Tryz.prog T.s_regs_Reg T.regs_Reg 7 72 (Rg.zero).val := ⟨by kernel_rfl, by kernel_rfl, rfl⟩
theorem uG : Tryz.prog.underlying T.s_regs_Reg = some (.slice T.regs_Reg) := by kernel_rfl
def unp (x : Ev × Value) : Rg :=
  match x.2 with
  | .agg ⟨[_, _, _, _, _, .int _ a, .int _ b]⟩ => ⟨x.1, a, b⟩
  | _ => .zero
/-- the keys are apart -/
abbrev KeysNd (xs : List Rg) : Prop := (xs.map Rg.e).Nodup
theorem KeysNd.ne {i j : Nat} {x y : Rg} (hn : KeysNd xs) (hx : xs[i]? = some x) (hy : xs[j]? = some y) (hij : i ≠ j) : x.e ≠ y.e := fun e => by
  apply hij
  have hi := (List.getElem?_eq_some_iff.1 hx).1
  exact (List.getElem?_inj (l := xs.map Rg.e) (by simpa using hi) hn).1 (by rw [List.getElem?_map, List.getElem?_map, hx, hy]; simp [e])
theorem insertion_ok (o : Own h p n c 7 (xs.flatMap genc)) (hn : n = xs.length) (hl : xs.length ≤ 1000) (nd : KeysNd xs)
    (hk : ∀ h' (ys : List Rg), Own h' p n c 7 (ys.flatMap genc) → ys.Perm xs → ys.Pairwise rless → Fr (inBlk p) h h' → R (.tuple #[]) h') :
    CallsH Tryz.prog F.slices_insertionSortCmpFunc_regs_Reg #[.slice p n c, .int .i64 0, .int .i64 (n : Int), .func (.func F.regs_Table_All_1) #[] #[]] h R := by
  subst hn
  refine slices_insertionSortCmpFunc_regs_Reg.reg.walk ?_
  have plen : ∀ {ys : List Rg}, ys.Perm xs → ys.length = xs.length := fun hp => hp.length_eq
  refine ⟨fun t g => ∃ (i : Nat) (ys : List Rg), t = (i : Int) ∧ 1 ≤ i ∧ (i ≤ xs.length ∨ i = 1) ∧ Own g p xs.length c 7 (ys.flatMap genc) ∧ ys.Perm xs ∧ SortedOn rless ys 0 i ∧ Fr (inBlk p) h g, fun t _ => xs.length - t.toNat, ⟨1, xs, by rw [wrap_id (by omega) (by omega)]; rfl, by omega, .inr rfl, o, .refl _, SortedOn.small (by omega), Fr.refl _ _⟩, ?_⟩
  rintro _ g ⟨i, ys, rfl, h1, h2, oy, py, sy, fy⟩
  have ly := plen py
  by_cases hi : i < xs.length
  · have q1 : (i : Int) < ((xs.length : Nat) : Int) := by omega
    simp only [q1, decide_true, if_true]
    refine ⟨fun t g' => ∃ (j : Nat) (zs : List Rg), t = (j : Int) ∧ j ≤ i ∧ Own g' p xs.length c 7 (zs.flatMap genc) ∧ InsI rless ys zs 0 i j ∧ Fr (inBlk p) h g', fun t _ => t.toNat, ⟨i, ys, rfl, Nat.le_refl _, oy, InsI.start sy, fy⟩, ?_⟩
    rintro _ g2 ⟨j, zs, rfl, hj, oz, Iz, fz⟩
    have pz := Iz.perm.trans py
    have lz := plen pz
    have ndz : KeysNd zs := (pz.map Rg.e).nodup_iff.2 nd
    obtain ⟨ab, ao, rfl⟩ := oz.addr (by omega)
    refine JoinP.of fun J hJ => ?_
    have stop : (j = 0 ∨ ∀ x y, zs[j]? = some x → zs[j - 1]? = some y → rless y x) → ∀ g3, Fr (fun _ => False) g2 g3 → J false g3 := by
      intro he g3 f3
      subst hJ
      simp only [Bool.false_eq_true, if_false]
      rw [wrap_id (by omega) (by omega)]
      refine ⟨⟨i + 1, zs, by omega, by omega, .inl (by omega), oz.frame f3 (fun _ _ => id), pz, Iz.stop less_trans (Nat.zero_le _) hj (by omega) he, fz.on f3⟩, by show xs.length - Int.toNat ((i : Int) + 1) < xs.length - i; omega⟩
    by_cases hj0 : 0 < j
    · have q2 : (j : Int) > 0 := by omega
      have e1 : IntKind.wrap .i64 ((j : Int) - 1) = ((j - 1 : Nat) : Int) := by rw [wrap_id (by omega) (by omega)]; omega
      have hx : zs[j]? = some (zs[j]'(by omega)) := List.getElem?_eq_getElem _
      have hy : zs[j - 1]? = some (zs[j - 1]'(by omega)) := List.getElem?_eq_getElem _
      generalize zs[j]'(by omega) = x at hx
      generalize zs[j - 1]'(by omega) = y at hy
      simp only [q2, decide_true, if_true, e1, Int.toNat_natCast] at hJ ⊢
      refine ⟨⟨by omega, by omega⟩, onSome_some.2 (regs_Reg.ldA (oz.heldAt genc_len hx) ⟨⟨by omega, by omega⟩, onSome_some.2 (regs_Reg.ldA (oz.heldAt genc_len hy) (cmp_ok x y fun g3 f3 => ⟨_, rfl, ?_⟩))⟩)⟩
      by_cases hl : lessE x.e y.e = true
      · rw [if_pos hl, decide_eq_true (by omega)]
        have oz3 := oz.frame f3 (fun _ _ => id)
        subst hJ
        simp only [if_true]
        refine ⟨⟨by omega, by omega⟩, onSome_some.2 (regs_Reg.ldA (oz3.heldAt genc_len hy) ⟨⟨by omega, by omega⟩, onSome_some.2 (regs_Reg.ldA (oz3.heldAt genc_len hx) ⟨⟨by omega, by omega⟩, onSome_some.2 (regs_Reg.stA (oz3.storeRow genc_len (genc_one y) (by omega) fun g4 o4 s4 q4 => ⟨⟨by omega, by omega⟩, onSome_some.2 (regs_Reg.stA (o4.storeRow genc_len (genc_one x) (by rw [List.length_set]; omega) fun g5 o5 s5 q5 => ?_))⟩))⟩)⟩)⟩
        have e5 : (zs.set j y).set (j - 1) x = swp zs j (j - 1) := swp_eq hx hy
        rw [e5] at o5
        have f5 : Fr (inBlk (some ⟨ab, ao, none⟩)) g3 g5 := ⟨by omega, fun z _ hn => by rw [q5 z hn, q4 z hn]⟩
        exact ⟨⟨j - 1, _, rfl, by omega, o5, Iz.swap hj0 hj (by omega) hx hy hl, (fz.on f3).tt f5⟩, by show Int.toNat ((j - 1 : Nat) : Int) < j; omega⟩
      · rw [if_neg hl, decide_eq_false (by omega)]
        refine stop (.inr fun x' y' hx' hy' => ?_) g3 f3
        rw [hx] at hx'; rw [hy] at hy'
        cases hx'; cases hy'
        exact (less_total (ndz.ne hx hy (by omega))).resolve_left hl
    · have q2 : ¬ (j : Int) > 0 := by omega
      simp only [q2, decide_false, Bool.false_eq_true, if_false]
      exact stop (.inl (by omega)) g2 (Fr.refl _ _)
  · have q1 : ¬ (i : Int) < ((xs.length : Nat) : Int) := by omega
    simp only [q1, decide_false, Bool.false_eq_true, if_false]
    have : SortedOn rless ys 0 ys.length := by
      rcases h2 with h2 | h2
      · have : i = ys.length := by omega
        rw [← this]; exact sy
      · exact SortedOn.small (by omega)
    exact hk g ys oy py this.pair fy
theorem len_ok {x : Int} (hk : ∀ n : Int, R (.int .i64 n) h) : CallsH Tryz.prog F.math_bits_Len #[.int .u64 x] h R := by
  refine math_bits_Len.walk (math_bits_Len64.walk (JoinP.of fun J hJ => ?_))
  have w8 : ∀ n : Int, 0 ≤ IntKind.wrap .u8 n ∧ IntKind.wrap .u8 n < 256 := fun n => by rw [IntKind.wrap_u8]; omega
  have k1 : ∀ y n, J y n h := by
    intro y n
    subst hJ
    refine JoinP.of fun J hJ => ?_
    have k2 : ∀ y n, J y n h := by
      intro y n
      subst hJ
      refine JoinP.of fun J hJ => ?_
      have k3 : ∀ y n, J y n h := by
        intro y n
        subst hJ
        exact ⟨w8 y, _, rfl, hk _⟩
      split
      · exact k3 _ _
      · exact k3 _ _
    split
    · exact k2 _ _
    · exact k2 _ _
  split
  · exact k1 _ _
  · exact k1 _ _
theorem sort_ok (o : Own h p n c 7 (xs.flatMap genc)) (hn : n = xs.length) (hl : xs.length ≤ 12) (nd : KeysNd xs)
    (hk : ∀ h' (ys : List Rg), Own h' p n c 7 (ys.flatMap genc) → ys.Perm xs → ys.Pairwise rless → Fr (inBlk p) h h' → R (.tuple #[]) h') :
    CallsH Tryz.prog F.slices_SortFunc_s_regs_Reg_regs_Reg #[.slice p n c, .func (.func F.regs_Table_All_1) #[] #[]] h R := by
  subst hn
  refine slices_SortFunc_s_regs_Reg_regs_Reg.reg.walk (len_ok fun lim => ⟨_, rfl, slices_pdqsortCmpFunc_regs_Reg.reg.walk ?_⟩)
  refine ⟨fun a b l _ _ g => a = 0 ∧ b = ((xs.length : Nat) : Int) ∧ l = lim ∧ g = h, fun _ _ _ _ _ _ => 0, ⟨rfl, rfl, rfl, rfl⟩, ?_⟩
  rintro _ _ _ wb wp _ ⟨rfl, rfl, rfl, rfl⟩
  refine JoinP.of fun J hJ => ?_
  rw [wrap_id (by omega) (by omega), if_pos (by simp; omega)]
  exact insertion_ok o rfl (by omega) nd fun h' ys o' p' s' f' => ⟨rfl, rfl, hk h' ys o' p' s' f'⟩
theorem all_ok (H : Tb h b X L) (hl : L.length ≤ 12) (hk : ∀ h' p' c', Own h' p' L.length c' 7 (L.flatMap genc) → (∀ y, inBlk p' y → h.size ≤ y) → Fr (fun _ => False) h h' → R (.slice p' L.length c') h') :
    CallsH Tryz.prog F.regs_Table_All #[.pointer (some ⟨b, 0, none⟩)] h R := by
  obtain ⟨m, H⟩ := H
  refine regs_Table_All.walk (made_ok H ⟨_, rfl, JoinP.of fun J hJ => ?_⟩)
  rw [if_pos rfl]
  refine ⟨_, cell_at H.blk rfl, den_rangeP mapTy H.map fun it h1 e1 I1 f1 => ⟨_, rfl, ?_⟩⟩
  refine ⟨fun op ol oc g => ∃ ys : List Rg, ol = ys.length ∧ Own g op ol oc 7 (ys.flatMap genc) ∧ (∀ y, inBlk op y → h.size ≤ y ∧ y ≠ it) ∧ Iter g it m ev5 (L.map Rg.pair) (ys.map Rg.pair) ∧ Fr (fun _ => False) h g, fun _ ol _ _ => L.length - ol,
    ⟨[], rfl, .nil rfl rfl rfl rfl, (fun y ⟨a, e, _⟩ => by cases e), I1, f1⟩, ?_⟩
  rintro op ol oc g ⟨ys, rfl, oy, gy, Iy, fy⟩
  have zy := fy.1
  have hle := Iy.le
  rw [List.length_map, List.length_map] at hle
  refine den_nextP Iy (fun hp => .inl ⟨rfl, ?_⟩) (fun a v g1 hm hnm I1 s1 o1 => .inr ⟨_, _, rfl, ?_⟩)
  · subst hJ
    dsimp only
    -- all have come
    have hperm : ys.Perm L := by
      have e : ∀ l : List Rg, (l.map Rg.pair).map unp = l := fun l => by
        rw [List.map_map]
        conv => rhs; rw [← List.map_id l]
        exact List.map_congr_left (fun r _ => rfl)
      have := hp.map unp
      rwa [e, e] at this
    have nd : KeysNd ys := (hperm.map Rg.e).nodup_iff.2 (keys_nodup H.so)
    have hlen := hperm.length_eq
    refine sort_ok oy rfl (by omega) nd fun h3 zs o3 p3 s3 f3 => ⟨rfl, ?_⟩
    have : zs = L := (List.Perm.eq_of_pairwise (le := rless) (fun a b _ _ h1 h2 => by have := less_trans h1 h2; rw [less_irrefl] at this; cases this) s3 H.so (p3.trans hperm))
    subst this
    rw [hlen] at o3 ⊢
    exact hk h3 op oc o3 (fun y hy => (gy y hy).1) (fy.fresh f3 (fun y hy => (gy y hy).1))
  · obtain ⟨r, hr, e⟩ := List.mem_map.1 hm
    have ea : a = r.e := (congrArg Prod.fst e).symm
    have ev : v = r.val := (congrArg Prod.snd e).symm
    subst ea ev
    refine den_entryP I1 ⟨_, _, rfl, _, _, _, _, _, _, _, rfl, regs_Reg.new fun b2 g2 e2 hb2 f2 => regs_Reg.ld hb2 (newP_of ?_)⟩
    have f3 : Fr (fun _ => False) g2 (g2.push (.cells #[.bool r.e.ipn, .int .u64 r.e.node, .int .u64 r.e.svc, .string r.e.host, .string r.e.dem, .int .i64 r.pol, .int .i64 r.own] T.regs_Reg)) := Fr.push _ _
    have r3 : Row (g2.push (.cells #[.bool r.e.ipn, .int .u64 r.e.node, .int .u64 r.e.svc, .string r.e.host, .string r.e.dem, .int .i64 r.pol, .int .i64 r.own] T.regs_Reg)) (some ⟨g2.size, 0, none⟩) (genc r) := row_new (cs := genc r)
    generalize g2.push (.cells #[.bool r.e.ipn, .int .u64 r.e.node, .int .u64 r.e.svc, .string r.e.host, .string r.e.dem, .int .i64 r.pol, .int .i64 r.own] T.regs_Reg) = g3 at f3 r3 ⊢
    have fit : Fr (fun y => y = it) g g1 := ⟨by omega, fun y _ hn => o1 y hn⟩
    have oy1 := (oy.frame fit (fun y hy e => (gy y hy).2 e)).frame (f2.tt f3) (fun _ _ => id)
    have F1 : Fr (fun _ => False) h g1 := fy.fresh fit (fun y e => by have := f1.1; omega)
    have F3 := F1.tt (f2.tt f3)
    have hsz : g1.size ≤ g3.size := (f2.tt f3).1
    have itlt : it < g1.size := by
      obtain ⟨_, _, _, _, _, _, hr, _⟩ := I1
      exact lt_of_get hr
    refine den_append (cs := ys.flatMap genc) (ds := genc r) tG uG oy1 r3 rfl (genc_one r) (by omega) (by omega) fun p4 c4 g4 o4 _ f4 k4 => ⟨_, _, _, rfl, ?_⟩
    have hp4 : ∀ y, inBlk p4 y → h.size ≤ y ∧ y ≠ it := by
      intro y hy
      rcases k4 y hy with h5 | h5
      · exact gy y h5
      · have := F1.1; exact ⟨by omega, by omega⟩
    refine ⟨⟨ys ++ [r], by simp, ?_, hp4, ?_, F3.fresh f4 (fun y hy => (gy y hy).1)⟩, ?_⟩
    · rw [List.flatMap_append, List.flatMap_singleton]; exact o4
    · rw [List.map_append]
      have hmb : m < h.size := H.map.lt
      exact (I1.frame (f2.tt f3) id id).frame f4 (fun hy => (gy it hy).2 rfl) (fun hy => by have := (gy m hy).1; omega)
    · have := I1.le
      rw [List.length_append, List.length_map, List.length_map, List.length_singleton] at this
      show L.length - (ys.length + 1) < L.length - ys.length
      omega
end Regs
end Go.Proofs.YtgccegnmggjkjaaGreatDoor

/-
  Printed by a program of this work (vc.py): the verification conditions of functions, and that each is enough for the call. No condition.
-/
set_option maxRecDepth 100000
set_option maxHeartbeats 4000000
namespace Go.Proofs.YtgccegnmggjkjaaGreatDoor
open Go.Den
def eid_Text.vc (x_0 : Bool) (x_1 : Int) (x_2 : Int) (x_3 : ByteArray) (x_4 : ByteArray) (h : Heap) (R : Value → Heap → Prop) : Prop :=
 NewP h (.cells #[.bool x_0, .int .u64 x_1, .int .u64 x_2, .string x_3, .string x_4] T.eid_Eid) fun b h_1 =>
 eid_Eid.LD h_1 ⟨b, 0, none⟩ fun t5_0 t5_1 t5_2 t5_3 t5_4 =>
 CallsH Tryz.prog F.eid_Right #[.agg #[.bool t5_0, .int .u64 t5_1, .int .u64 t5_2, .string t5_3, .string t5_4]] h_1 fun v h_2 =>
 ∃ (t6 : Bool), v = .bool t6 ∧
 if (!t6) = true then
 R (.tuple #[.string (⟨#[]⟩ : ByteArray), .int .i64 3]) h_2
 else
 eid_Eid.LD h_2 ⟨b, 0, none⟩ fun t9_0 t9_1 t9_2 t9_3 t9_4 =>
 ∃ (eq : Bool), EqV Tryz.prog T.eid_Eid (.agg #[.bool t9_0, .int .u64 t9_1, .int .u64 t9_2, .string t9_3, .string t9_4]) (.agg #[.bool false, .int .u64 0, .int .u64 0, .string (⟨#[]⟩ : ByteArray), .string (⟨#[]⟩ : ByteArray)]) eq ∧
 if eq = true then
 R (.tuple #[.string (⟨#[100, 116, 110, 58, 110, 111, 110, 101]⟩ : ByteArray), .int .i64 0]) h_2
 else
 ∃ (t14 : Bool), hcell h_2 ⟨b, 0, none⟩ = some (.bool t14) ∧
 if t14 = true then
 ∃ (t16 : Int), hcell h_2 ⟨b, 1, none⟩ = some (.int .u64 t16) ∧
 ∃ (t21 : Int), hcell h_2 ⟨b, 2, none⟩ = some (.int .u64 t21) ∧
 CallsH Tryz.prog F.strconv_FormatUint #[.int .u64 t16, .int .i64 10] h_2 fun v_1 h_3 =>
 ∃ (t17 : ByteArray), v_1 = .string t17 ∧
 hcell h_3 ⟨b, 2, none⟩ = some (.int .u64 t21) ∧
 (((⟨#[105, 112, 110, 58]⟩ : ByteArray).size + t17.size : Nat) : Int) ≤ IntKind.max .i64 ∧
 ((((⟨#[105, 112, 110, 58]⟩ : ByteArray) ++ t17).size + (⟨#[46]⟩ : ByteArray).size : Nat) : Int) ≤ IntKind.max .i64 ∧
 CallsH Tryz.prog F.strconv_FormatUint #[.int .u64 t21, .int .i64 10] h_3 fun v_2 h_4 =>
 ∃ (t22 : ByteArray), v_2 = .string t22 ∧
 (((((⟨#[105, 112, 110, 58]⟩ : ByteArray) ++ t17) ++ (⟨#[46]⟩ : ByteArray)).size + t22.size : Nat) : Int) ≤ IntKind.max .i64 ∧
 R (.tuple #[.string ((((⟨#[105, 112, 110, 58]⟩ : ByteArray) ++ t17) ++ (⟨#[46]⟩ : ByteArray)) ++ t22), .int .i64 0]) h_4
 else
 eid_Eid.LD h_2 ⟨b, 0, none⟩ fun t24_0 t24_1 t24_2 t24_3 t24_4 =>
 CallsH Tryz.prog F.eid_path #[.agg #[.bool t24_0, .int .u64 t24_1, .int .u64 t24_2, .string t24_3, .string t24_4]] h_2 fun v_3 h_5 =>
 ∃ (t25 : ByteArray), v_3 = .string t25 ∧
 (((⟨#[100, 116, 110, 58]⟩ : ByteArray).size + t25.size : Nat) : Int) ≤ IntKind.max .i64 ∧
 R (.tuple #[.string ((⟨#[100, 116, 110, 58]⟩ : ByteArray) ++ t25), .int .i64 0]) h_5
theorem eid_Text.walk {x_0 : Bool} {x_1 : Int} {x_2 : Int} {x_3 : ByteArray} {x_4 : ByteArray} {h : Heap} {R : Value → Heap → Prop} (hv : eid_Text.vc x_0 x_1 x_2 x_3 x_4 h R) : CallsH Tryz.prog F.eid_Text #[.agg #[.bool x_0, .int .u64 x_1, .int .u64 x_2, .string x_3, .string x_4]] h R :=
 callsH_of_body (.seq .leaf (.seq (.block (.seq .leaf (.cond (.seq .leaf .leaf) (.seq .leaf (.cond (.seq .leaf .leaf) (.seq .leaf (.cond (.seq (.plan (.op 0 (.op 1 (.op 5 (.op 6 (.op 2 (.op 3 (.op 4 (.op 7 (.op 8 (.op 9 (.op 10 .done)))))))))))) .leaf) .leaf))))))) (.seq .leaf .leaf))) Tryz.func130 rfl rfl (Eq.mp (by kernel_rfl) hv)

def eid_path.vc (x_0 : Bool) (x_1 : Int) (x_2 : Int) (x_3 : ByteArray) (x_4 : ByteArray) (h : Heap) (R : Value → Heap → Prop) : Prop :=
 NewP h (.cells #[.bool x_0, .int .u64 x_1, .int .u64 x_2, .string x_3, .string x_4] T.eid_Eid) fun b h_1 =>
 ∃ (t4 : ByteArray), hcell h_1 ⟨b, 3, none⟩ = some (.string t4) ∧
 (((⟨#[47, 47]⟩ : ByteArray).size + t4.size : Nat) : Int) ≤ IntKind.max .i64 ∧
 ((((⟨#[47, 47]⟩ : ByteArray) ++ t4).size + (⟨#[47]⟩ : ByteArray).size : Nat) : Int) ≤ IntKind.max .i64 ∧
 ∃ (t8 : ByteArray), hcell h_1 ⟨b, 4, none⟩ = some (.string t8) ∧
 (((((⟨#[47, 47]⟩ : ByteArray) ++ t4) ++ (⟨#[47]⟩ : ByteArray)).size + t8.size : Nat) : Int) ≤ IntKind.max .i64 ∧
 R (.string ((((⟨#[47, 47]⟩ : ByteArray) ++ t4) ++ (⟨#[47]⟩ : ByteArray)) ++ t8)) h_1
theorem eid_path.walk {x_0 : Bool} {x_1 : Int} {x_2 : Int} {x_3 : ByteArray} {x_4 : ByteArray} {h : Heap} {R : Value → Heap → Prop} (hv : eid_path.vc x_0 x_1 x_2 x_3 x_4 h R) : CallsH Tryz.prog F.eid_path #[.agg #[.bool x_0, .int .u64 x_1, .int .u64 x_2, .string x_3, .string x_4]] h R :=
 callsH_of_body (.seq .leaf (.seq .leaf .leaf)) Tryz.func177 rfl rfl (Eq.mp (by kernel_rfl) hv)

def ref04_Digits.vc (n : Int) (h : Heap) (R : Value → Heap → Prop) : Prop :=
 ∃ (I : Int → ByteArray → Heap → Prop) (mu : Int → ByteArray → Heap → Nat), I n (⟨#[]⟩ : ByteArray) h ∧ ∀ (n_1 : Int) (out : ByteArray) (h_1 : Heap), I n_1 out h_1 →
 JoinP (fun (t9 : Bool) (h_2 : Heap) =>
 if t9 = true then
 NewP h_2 (.cells #[.int .u8 (IntKind.wrap .u8 (IntKind.wrap .u64 (48 + (Int.tmod n_1 10))))] T.uint8) fun b h_3 =>
 ∃ (t15 : ByteArray), ConvV Tryz.prog T.s_uint8 T.string (.slice (some ⟨b, 0, none⟩) 1 1) h_3 t15 ∧
 ((t15.size + out.size : Nat) : Int) ≤ IntKind.max .i64 ∧
 (I (IntKind.wrap .u64 (Int.tdiv n_1 10)) (t15 ++ out) h_3 ∧ mu (IntKind.wrap .u64 (Int.tdiv n_1 10)) (t15 ++ out) h_3 < mu n_1 out h_1)
 else
 R (.string out) h_2)
 (fun J =>
 if (decide (n_1 > 0)) = true then
 J true h_1
 else
 J (out.toList == (⟨#[]⟩ : ByteArray).toList) h_1)
theorem ref04_Digits.walk {n : Int} {h : Heap} {R : Value → Heap → Prop} (hv : ref04_Digits.vc n h R) : CallsH Tryz.prog F.ref04_Digits #[.int .u64 n] h R :=
 callsH_of_body (.seq .leaf (.seq .leaf (.seq (.block (.loop [(0, .one (.int .u64)), (3, .one (.str))] (.seq (.seq (.join [(9, .one (.bool))] .leaf) (.cond .leaf .leaf)) (.block (.seq .leaf .leaf))))) (.seq .leaf .leaf)))) Tryz.func151 rfl rfl (Eq.mp (by kernel_rfl) hv)

def ref04_Text.vc (x_0 : Bool) (x_1 : Int) (x_2 : Int) (x_3 : ByteArray) (x_4 : ByteArray) (h : Heap) (R : Value → Heap → Prop) : Prop :=
 NewP h (.cells #[.bool x_0, .int .u64 x_1, .int .u64 x_2, .string x_3, .string x_4] T.ref04_Eid) fun b h_1 =>
 ref04_Eid.LD h_1 ⟨b, 0, none⟩ fun t3_0 t3_1 t3_2 t3_3 t3_4 =>
 CallsH Tryz.prog F.ref04_Kind #[.agg #[.bool t3_0, .int .u64 t3_1, .int .u64 t3_2, .string t3_3, .string t3_4]] h_1 fun v h_2 =>
 ∃ (t4 : Int), v = .int .i64 t4 ∧
 if (t4 == 0) = true then
 R (.string (⟨#[100, 116, 110, 58, 110, 111, 110, 101]⟩ : ByteArray)) h_2
 else
 if (t4 == 1) = true then
 ∃ (t10 : Int), hcell h_2 ⟨b, 1, none⟩ = some (.int .u64 t10) ∧
 ∃ (t15 : Int), hcell h_2 ⟨b, 2, none⟩ = some (.int .u64 t15) ∧
 CallsH Tryz.prog F.ref04_Digits #[.int .u64 t10] h_2 fun v_1 h_3 =>
 ∃ (t11 : ByteArray), v_1 = .string t11 ∧
 hcell h_3 ⟨b, 2, none⟩ = some (.int .u64 t15) ∧
 (((⟨#[105, 112, 110, 58]⟩ : ByteArray).size + t11.size : Nat) : Int) ≤ IntKind.max .i64 ∧
 ((((⟨#[105, 112, 110, 58]⟩ : ByteArray) ++ t11).size + (⟨#[46]⟩ : ByteArray).size : Nat) : Int) ≤ IntKind.max .i64 ∧
 CallsH Tryz.prog F.ref04_Digits #[.int .u64 t15] h_3 fun v_2 h_4 =>
 ∃ (t16 : ByteArray), v_2 = .string t16 ∧
 (((((⟨#[105, 112, 110, 58]⟩ : ByteArray) ++ t11) ++ (⟨#[46]⟩ : ByteArray)).size + t16.size : Nat) : Int) ≤ IntKind.max .i64 ∧
 R (.string ((((⟨#[105, 112, 110, 58]⟩ : ByteArray) ++ t11) ++ (⟨#[46]⟩ : ByteArray)) ++ t16)) h_4
 else
 ∃ (t19 : ByteArray), hcell h_2 ⟨b, 3, none⟩ = some (.string t19) ∧
 (((⟨#[100, 116, 110, 58, 47, 47]⟩ : ByteArray).size + t19.size : Nat) : Int) ≤ IntKind.max .i64 ∧
 ((((⟨#[100, 116, 110, 58, 47, 47]⟩ : ByteArray) ++ t19).size + (⟨#[47]⟩ : ByteArray).size : Nat) : Int) ≤ IntKind.max .i64 ∧
 ∃ (t23 : ByteArray), hcell h_2 ⟨b, 4, none⟩ = some (.string t23) ∧
 (((((⟨#[100, 116, 110, 58, 47, 47]⟩ : ByteArray) ++ t19) ++ (⟨#[47]⟩ : ByteArray)).size + t23.size : Nat) : Int) ≤ IntKind.max .i64 ∧
 R (.string ((((⟨#[100, 116, 110, 58, 47, 47]⟩ : ByteArray) ++ t19) ++ (⟨#[47]⟩ : ByteArray)) ++ t23)) h_2
theorem ref04_Text.walk {x_0 : Bool} {x_1 : Int} {x_2 : Int} {x_3 : ByteArray} {x_4 : ByteArray} {h : Heap} {R : Value → Heap → Prop} (hv : ref04_Text.vc x_0 x_1 x_2 x_3 x_4 h R) : CallsH Tryz.prog F.ref04_Text #[.agg #[.bool x_0, .int .u64 x_1, .int .u64 x_2, .string x_3, .string x_4]] h R :=
 callsH_of_body (.seq .leaf (.seq (.seq .leaf (.block (.seq .leaf (.cond (.seq .leaf .leaf) (.seq .leaf (.cond (.seq (.plan (.op 0 (.op 1 (.op 5 (.op 6 (.op 2 (.op 3 (.op 4 (.op 7 (.op 8 (.op 9 .done))))))))))) .leaf) .leaf)))))) (.seq .leaf .leaf))) Tryz.func81 rfl rfl (Eq.mp (by kernel_rfl) hv)

def ref04_Kind.vc (x_0 : Bool) (x_1 : Int) (x_2 : Int) (x_3 : ByteArray) (x_4 : ByteArray) (h : Heap) (R : Value → Heap → Prop) : Prop :=
 NewP h (.cells #[.bool x_0, .int .u64 x_1, .int .u64 x_2, .string x_3, .string x_4] T.ref04_Eid) fun b h_1 =>
 ∃ (t4 : Bool), hcell h_1 ⟨b, 0, none⟩ = some (.bool t4) ∧
 if t4 = true then
 JoinP (fun (t27 : Bool) (h_2 : Heap) =>
 if t27 = true then
 R (.int .i64 (-1)) h_2
 else
 R (.int .i64 1) h_2)
 (fun J =>
 ∃ (t6 : ByteArray), hcell h_1 ⟨b, 3, none⟩ = some (.string t6) ∧
 if (!(t6.toList == (⟨#[]⟩ : ByteArray).toList)) = true then
 J true h_1
 else
 ∃ (t10 : ByteArray), hcell h_1 ⟨b, 4, none⟩ = some (.string t10) ∧
 if (!(t10.toList == (⟨#[]⟩ : ByteArray).toList)) = true then
 J true h_1
 else
 ∃ (t15 : Int), hcell h_1 ⟨b, 1, none⟩ = some (.int .u64 t15) ∧
 if (decide (t15 < 1)) = true then
 J true h_1
 else
 ∃ (t20 : Int), hcell h_1 ⟨b, 1, none⟩ = some (.int .u64 t20) ∧
 if (decide (t20 > 4294967295)) = true then
 J true h_1
 else
 ∃ (t25 : Int), hcell h_1 ⟨b, 2, none⟩ = some (.int .u64 t25) ∧
 J (decide (t25 > 4294967295)) h_1)
 else
 JoinP (fun (t35 : Bool) (h_3 : Heap) =>
 if t35 = true then
 R (.int .i64 (-1)) h_3
 else
 JoinP (fun (t43 : Bool) (h_4 : Heap) =>
 if t43 = true then
 R (.int .i64 0) h_4
 else
 JoinP (fun (t71 : Bool) (h_5 : Heap) =>
 if t71 = true then
 R (.int .i64 (-1)) h_5
 else
 R (.int .i64 2) h_5)
 (fun J_3 =>
 ∃ (t45 : ByteArray), hcell h_4 ⟨b, 3, none⟩ = some (.string t45) ∧
 if (decide (((t45.size : Nat) : Int) < 1)) = true then
 J_3 true h_4
 else
 ∃ (t50 : ByteArray), hcell h_4 ⟨b, 3, none⟩ = some (.string t50) ∧
 if (decide (((t50.size : Nat) : Int) > 16)) = true then
 J_3 true h_4
 else
 ∃ (t56 : ByteArray), hcell h_4 ⟨b, 4, none⟩ = some (.string t56) ∧
 if (decide (((t56.size : Nat) : Int) > 24)) = true then
 J_3 true h_4
 else
 ∃ (t62 : ByteArray), hcell h_4 ⟨b, 3, none⟩ = some (.string t62) ∧
 CallsH Tryz.prog F.ref04_Plain #[.string t62, .bool false] h_4 fun v h_6 =>
 ∃ (t63 : Bool), v = .bool t63 ∧
 if (!t63) = true then
 J_3 true h_6
 else
 ∃ (t68 : ByteArray), hcell h_6 ⟨b, 4, none⟩ = some (.string t68) ∧
 CallsH Tryz.prog F.ref04_Plain #[.string t68, .bool true] h_6 fun v_1 h_7 =>
 ∃ (t69 : Bool), v_1 = .bool t69 ∧
 J_3 (!t69) h_7))
 (fun J_2 =>
 ∃ (t37 : ByteArray), hcell h_3 ⟨b, 3, none⟩ = some (.string t37) ∧
 if (t37.toList == (⟨#[]⟩ : ByteArray).toList) = true then
 ∃ (t41 : ByteArray), hcell h_3 ⟨b, 4, none⟩ = some (.string t41) ∧
 J_2 (t41.toList == (⟨#[]⟩ : ByteArray).toList) h_3
 else
 J_2 false h_3))
 (fun J_1 =>
 ∃ (t29 : Int), hcell h_1 ⟨b, 1, none⟩ = some (.int .u64 t29) ∧
 if (t29 != 0) = true then
 J_1 true h_1
 else
 ∃ (t33 : Int), hcell h_1 ⟨b, 2, none⟩ = some (.int .u64 t33) ∧
 J_1 (t33 != 0) h_1)
theorem ref04_Kind.walk {x_0 : Bool} {x_1 : Int} {x_2 : Int} {x_3 : ByteArray} {x_4 : ByteArray} {h : Heap} {R : Value → Heap → Prop} (hv : ref04_Kind.vc x_0 x_1 x_2 x_3 x_4 h R) : CallsH Tryz.prog F.ref04_Kind #[.agg #[.bool x_0, .int .u64 x_1, .int .u64 x_2, .string x_3, .string x_4]] h R :=
 callsH_of_body (.seq .leaf (.seq (.seq .leaf (.cond (.seq (.seq (.join [(27, .one (.bool))] .leaf) (.cond (.seq .leaf .leaf) .leaf)) (.seq .leaf .leaf)) .leaf)) (.seq (.seq (.join [(35, .one (.bool))] .leaf) (.cond (.seq .leaf .leaf) .leaf)) (.seq (.seq (.join [(43, .one (.bool))] .leaf) (.cond (.seq .leaf .leaf) .leaf)) (.seq (.seq (.join [(71, .one (.bool))] .leaf) (.cond (.seq .leaf .leaf) .leaf)) (.seq .leaf .leaf)))))) Tryz.func41 rfl rfl (Eq.mp (by kernel_rfl) hv)

def ref04_Plain.vc (s : ByteArray) (slash : Bool) (h : Heap) (R : Value → Heap → Prop) : Prop :=
 ∃ (I : Int → Heap → Prop) (mu : Int → Heap → Nat), I 0 h ∧ ∀ (i : Int) (h_1 : Heap), I i h_1 →
 if (decide (i < ((s.size : Nat) : Int))) = true then
 ((0 : Int) ≤ i ∧ i < ((s.size : Nat) : Int)) ∧
 JoinP (fun (t41 : Bool) (h_2 : Heap) =>
 if t41 = true then
 R (.bool false) h_2
 else
 (I (IntKind.wrap .i64 (i + 1)) h_2 ∧ mu (IntKind.wrap .i64 (i + 1)) h_2 < mu i h_1))
 (fun J =>
 if (decide ((((s.data.toList.getD (Int.toNat i) 0).toNat : Nat) : Int) ≥ 97)) = true then
 if (decide ((((s.data.toList.getD (Int.toNat i) 0).toNat : Nat) : Int) ≤ 122)) = true then
 J false h_1
 else
 if (decide ((((s.data.toList.getD (Int.toNat i) 0).toNat : Nat) : Int) ≥ 48)) = true then
 if (decide ((((s.data.toList.getD (Int.toNat i) 0).toNat : Nat) : Int) ≤ 57)) = true then
 J false h_1
 else
 if ((((s.data.toList.getD (Int.toNat i) 0).toNat : Nat) : Int) == 45) = true then
 J false h_1
 else
 if slash = true then
 J (!((((s.data.toList.getD (Int.toNat i) 0).toNat : Nat) : Int) == 47)) h_1
 else
 J true h_1
 else
 if ((((s.data.toList.getD (Int.toNat i) 0).toNat : Nat) : Int) == 45) = true then
 J false h_1
 else
 if slash = true then
 J (!((((s.data.toList.getD (Int.toNat i) 0).toNat : Nat) : Int) == 47)) h_1
 else
 J true h_1
 else
 if (decide ((((s.data.toList.getD (Int.toNat i) 0).toNat : Nat) : Int) ≥ 48)) = true then
 if (decide ((((s.data.toList.getD (Int.toNat i) 0).toNat : Nat) : Int) ≤ 57)) = true then
 J false h_1
 else
 if ((((s.data.toList.getD (Int.toNat i) 0).toNat : Nat) : Int) == 45) = true then
 J false h_1
 else
 if slash = true then
 J (!((((s.data.toList.getD (Int.toNat i) 0).toNat : Nat) : Int) == 47)) h_1
 else
 J true h_1
 else
 if ((((s.data.toList.getD (Int.toNat i) 0).toNat : Nat) : Int) == 45) = true then
 J false h_1
 else
 if slash = true then
 J (!((((s.data.toList.getD (Int.toNat i) 0).toNat : Nat) : Int) == 47)) h_1
 else
 J true h_1)
 else
 R (.bool true) h_1
theorem ref04_Plain.walk {s : ByteArray} {slash : Bool} {h : Heap} {R : Value → Heap → Prop} (hv : ref04_Plain.vc s slash h R) : CallsH Tryz.prog F.ref04_Plain #[.string s, .bool slash] h R :=
 callsH_of_body (.seq .leaf (.seq (.seq .leaf (.block (.loop [(5, .one (.int .i64))] (.seq (.seq .leaf (.cond .leaf .leaf)) (.seq (.block (.seq .leaf (.seq (.join [(41, .one (.bool))] .leaf) (.cond (.seq .leaf .leaf) .leaf)))) .leaf))))) (.seq .leaf .leaf))) Tryz.func108 rfl rfl (Eq.mp (by kernel_rfl) hv)

def law04_As.vc (x_0 : Bool) (x_1 : Int) (x_2 : Int) (x_3 : ByteArray) (x_4 : ByteArray) (h : Heap) (R : Value → Heap → Prop) : Prop :=
 NewP h (.cells #[.bool x_0, .int .u64 x_1, .int .u64 x_2, .string x_3, .string x_4] T.eid_Eid) fun b h_1 =>
 NewP h_1 (.cells #[.bool false, .int .u64 0, .int .u64 0, .string (⟨#[]⟩ : ByteArray), .string (⟨#[]⟩ : ByteArray)] T.ref04_Eid) fun b_1 h_2 =>
 ∃ (t4 : Bool), hcell h_2 ⟨b, 0, none⟩ = some (.bool t4) ∧
 ∃ (t6 : Int), hcell h_2 ⟨b, 1, none⟩ = some (.int .u64 t6) ∧
 ∃ (t8 : Int), hcell h_2 ⟨b, 2, none⟩ = some (.int .u64 t8) ∧
 ∃ (t10 : ByteArray), hcell h_2 ⟨b, 3, none⟩ = some (.string t10) ∧
 ∃ (t12 : ByteArray), hcell h_2 ⟨b, 4, none⟩ = some (.string t12) ∧
 ref04_Eid.ST h_2 ⟨b_1, 0, none⟩ t4 t6 t8 t10 t12 fun h_3 =>
 ref04_Eid.LD h_3 ⟨b_1, 0, none⟩ fun r_0 r_1 r_2 r_3 r_4 =>
 R (.agg #[.bool r_0, .int .u64 r_1, .int .u64 r_2, .string r_3, .string r_4]) h_3
theorem law04_As.walk {x_0 : Bool} {x_1 : Int} {x_2 : Int} {x_3 : ByteArray} {x_4 : ByteArray} {h : Heap} {R : Value → Heap → Prop} (hv : law04_As.vc x_0 x_1 x_2 x_3 x_4 h R) : CallsH Tryz.prog F.law04_As #[.agg #[.bool x_0, .int .u64 x_1, .int .u64 x_2, .string x_3, .string x_4]] h R :=
 callsH_of_body (.seq .leaf (.seq .leaf .leaf)) Tryz.func16 rfl rfl (Eq.mp (by kernel_rfl) hv)

end Go.Proofs.YtgccegnmggjkjaaGreatDoor

/-
  What is proved here: the document's endpoints (package ref04): Plain, Class, Kind, Less, Digits, Text. No condition.
-/
set_option maxRecDepth 100000
namespace Go.Proofs.YtgccegnmggjkjaaGreatDoor
open Go.Den
namespace Eid
variable {h h' : Heap} {R : Value → Heap → Prop}
theorem pl_nat (more c : UInt8) : pl more c = ((decide ((97 : Int) ≤ (c.toNat : Int)) && decide ((c.toNat : Int) ≤ 122)) || (decide ((48 : Int) ≤ (c.toNat : Int)) && decide ((c.toNat : Int) ≤ 57)) || decide ((c.toNat : Int) = 45) || decide ((c.toNat : Int) = (more.toNat : Int))) := by
  have e : ∀ a : UInt8, decide (a ≤ c) = decide ((a.toNat : Int) ≤ (c.toNat : Int)) := fun a => decide_eq_decide.2 ⟨fun h => by have := UInt8.le_iff_toNat_le.1 h; omega, fun h => UInt8.le_iff_toNat_le.2 (by omega)⟩
  have e' : ∀ a : UInt8, decide (c ≤ a) = decide ((c.toNat : Int) ≤ (a.toNat : Int)) := fun a => decide_eq_decide.2 ⟨fun h => by have := UInt8.le_iff_toNat_le.1 h; omega, fun h => UInt8.le_iff_toNat_le.2 (by omega)⟩
  have e2 : ∀ a : UInt8, (c == a) = decide ((c.toNat : Int) = (a.toNat : Int)) := fun a => by
    rw [Bool.eq_iff_iff]
    simp only [beq_iff_eq, decide_eq_true_eq]
    exact ⟨fun h => by rw [h], fun h => UInt8.toNat_inj.1 (by omega)⟩
  unfold pl
  rw [e, e, e', e', e2, e2]
  rfl
theorem rplain_ok {s : ByteArray} (slash : Bool) (hs : s.size ≤ 1000000) (hk : R (.bool (plainB (if slash then 47 else 45) s)) h) : CallsH Tryz.prog F.ref04_Plain #[.string s, .bool slash] h R := by
  refine ref04_Plain.walk ⟨fun i g => g = h ∧ ∃ j : Nat, i = (j : Int) ∧ j ≤ s.size ∧ (s.data.toList.take j).all (pl (if slash then 47 else 45)) = true, fun i _ => s.size - i.toNat, ⟨rfl, 0, rfl, Nat.zero_le _, by simp⟩, ?_⟩
  rintro _ g ⟨rfl, j, rfl, hj, hall⟩
  have hsz : s.data.toList.length = s.size := by rw [Array.length_toList]; rfl
  by_cases hlt : j < s.size
  · rw [if_pos (decide_eq_true (by omega))]
    refine ⟨⟨by omega, by omega⟩, JoinP.of fun J hJ => ?_⟩
    rw [Int.toNat_natCast]
    obtain ⟨c, hc⟩ : ∃ c, s.data.toList[j]? = some c := ⟨_, List.getElem?_eq_getElem (by omega)⟩
    have hd : s.data.toList.getD j 0 = c := by rw [List.getD_eq_getElem?_getD, hc]; rfl
    rw [hd]
    have good : pl (if slash then 47 else 45) c = true → J false g := fun hp => by
      subst hJ
      dsimp only
      rw [if_neg (by decide), wrap_id (by omega) (by omega)]
      refine ⟨⟨rfl, j + 1, by omega, by omega, ?_⟩, by show s.size - Int.toNat ((j : Int) + 1) < s.size - j; omega⟩
      rw [List.take_add_one, hc, List.all_append, hall]
      simp [hp]
    have bad : pl (if slash then 47 else 45) c = false → J true g := fun hp => by
      subst hJ
      dsimp only
      rw [if_pos rfl]
      have : plainB (if slash then 47 else 45) s = false := by
        unfold plainB
        rw [List.all_eq_false]
        exact ⟨c, List.mem_of_getElem? hc, by rw [hp]; decide⟩
      rw [this] at hk
      exact hk
    clear hJ
    rw [pl_nat] at good bad
    generalize (c.toNat : Int) = x at good bad
    have dec : ∀ b : Bool, (((decide ((97 : Int) ≤ x) && decide (x ≤ 122)) || (decide ((48 : Int) ≤ x) && decide (x ≤ 57)) || decide (x = 45) || decide (x = (((if slash then (47 : UInt8) else 45).toNat : Nat) : Int))) = !b) → J b g := fun b hb => by
      cases b with
      | false => exact good hb
      | true => exact bad hb
    clear good bad
    cases slash <;> (repeat' split) <;> refine dec _ ?_ <;> simp_all <;> first | omega | (rw [Bool.eq_iff_iff]; simp only [Bool.or_eq_true, Bool.and_eq_true, decide_eq_true_eq, beq_iff_eq]; omega)
  · rw [if_neg (by simp; omega)]
    obtain rfl : j = s.size := by omega
    rw [List.take_of_length_le (by omega)] at hall
    unfold plainB at hk
    rw [hall] at hk
    exact hk
theorem as_ok (x : Ev) (hk : ∀ h', Fr (fun _ => False) h h' → R (ev5 x) h') : CallsH Tryz.prog F.law04_As #[ev5 x] h R := by
  refine law04_As.walk (eid_Eid.box fun b h1 e1 hb1 f1 => ref04_Eid.box fun b2 h2 e2 hb2 f2 => ?_)
  have hb := f2.get hb1 id
  refine ⟨_, cell_at hb rfl, _, cell_at hb rfl, _, cell_at hb rfl, _, cell_at hb rfl, _, cell_at hb rfl, ref04_Eid.set hb2 fun h3 a3 s3 o3 => ref04_Eid.ld a3 ?_⟩
  have z := f1.1
  exact hk h3 ((f1.tt f2).fresh (S := fun y => y = b2) ⟨by omega, fun y _ hn => o3 y hn⟩ (fun y e => by omega))
theorem nil_eq (s : ByteArray) : (s.toList == (⟨#[]⟩ : ByteArray).toList) = decide (s = ⟨#[]⟩) := by
  by_cases e : s = ⟨#[]⟩
  · rw [decide_eq_true e]; exact bytes_eq.2 e
  · rw [decide_eq_false e]
    cases q : s.toList == (⟨#[]⟩ : ByteArray).toList
    · rfl
    · exact absurd (bytes_eq.1 q) e
theorem eqv04 (x y : Ev) : EqV Tryz.prog T.ref04_Eid (ev5 x) (ev5 y) (decide (x = y)) := by
  rw [← eqB_dec]
  exact EqV.of (by unfold eqB; kernel_rfl)
theorem eqv04' {x y : Ev} {a b : Value} (ha : a = ev5 x) (hb : b = ev5 y) : EqV Tryz.prog T.ref04_Eid a b (decide (x = y)) := by subst ha hb; exact eqv04 x y
theorem class_alt (x : Ev) : classE x = if x.ipn = true then 1 else if x.node = 0 ∧ x.svc = 0 ∧ x.host = ⟨#[]⟩ ∧ x.dem = ⟨#[]⟩ then 0 else 2 := by
  unfold classE
  by_cases hi : x.ipn = true
  · rw [if_neg (fun e => by rw [e] at hi; cases hi)]; simp [hi]
  · have hi' : x.ipn = false := by simpa using hi
    by_cases hz : x.node = 0 ∧ x.svc = 0 ∧ x.host = ⟨#[]⟩ ∧ x.dem = ⟨#[]⟩
    · have : x = .zero := Ev.ext' hi' hz.1 hz.2.1 hz.2.2.1 hz.2.2.2
      rw [if_pos this, if_neg hi, if_pos hz]
    · rw [if_neg (fun e => hz (by rw [e]; exact ⟨rfl, rfl, rfl, rfl⟩))]; simp only [hi, hz, Bool.false_eq_true, if_false]
/-- which kind a name is of; -1: it may not be -/
def kindE (x : Ev) : Int := if rightE x = true then classE x else -1
theorem kind_lt {x : Ev} : kindE x < 1 ↔ ¬ (rightE x = true ∧ x ≠ .zero) := by
  unfold kindE classE
  by_cases q : rightE x = true
  · rw [if_pos q]
    by_cases z : x = .zero
    · simp [z]
    · rw [if_neg z]; simp only [q, z]; split <;> simp [z]
  · rw [if_neg q]; simp [q]
theorem rkind_ok (x : Ev) (hk : ∀ h', Fr (fun _ => False) h h' → R (.int .i64 (kindE x)) h') : CallsH Tryz.prog F.ref04_Kind #[ev5 x] h R := by
  refine ref04_Kind.walk (ref04_Eid.box fun b h1 eb hb f1 => ⟨_, cell_at hb rfl, ?_⟩)
  have K := hk h1 f1
  clear hk
  simp only [nil_eq]
  by_cases hi : x.ipn = true
  · have hz : x ≠ .zero := fun e => by rw [e] at hi; cases hi
    have e : kindE x = if (x.host = ⟨#[]⟩ ∧ x.dem = ⟨#[]⟩ ∧ 1 ≤ x.node ∧ x.node ≤ 4294967295 ∧ x.svc ≤ 4294967295) then 1 else -1 := by
      unfold kindE rightE classE
      rw [if_neg hz, if_pos hi, if_neg hz, if_pos hi]; simp only [decide_eq_true_eq]
    rw [e] at K
    rw [if_pos hi]
    refine JoinP.of fun J hJ => ⟨_, cell_at hb rfl, ?_⟩
    have bad : ¬ (x.host = ⟨#[]⟩ ∧ x.dem = ⟨#[]⟩ ∧ 1 ≤ x.node ∧ x.node ≤ 4294967295 ∧ x.svc ≤ 4294967295) → J true h1 := fun hn => by
      subst hJ; rw [if_neg hn] at K; exact K
    by_cases q1 : x.host = ⟨#[]⟩
    · rw [if_neg (by simpa using q1)]
      refine ⟨_, cell_at hb rfl, ?_⟩
      by_cases q2 : x.dem = ⟨#[]⟩
      · rw [if_neg (by simpa using q2)]
        refine ⟨_, cell_at hb rfl, ?_⟩
        by_cases q3 : x.node < 1
        · rw [if_pos (decide_eq_true q3)]; exact bad (fun e => by have := e.2.2.1; omega)
        rw [if_neg (by simpa using q3)]
        refine ⟨_, cell_at hb rfl, ?_⟩
        by_cases q4 : x.node > 4294967295
        · rw [if_pos (decide_eq_true q4)]; exact bad (fun e => by have := e.2.2.2.1; omega)
        rw [if_neg (by simpa using q4)]
        refine ⟨_, cell_at hb rfl, ?_⟩
        by_cases q5 : x.svc > 4294967295
        · rw [decide_eq_true q5]; exact bad (fun e => by have := e.2.2.2.2; omega)
        rw [decide_eq_false q5]
        subst hJ
        rw [if_pos ⟨q1, q2, by omega, by omega, by omega⟩] at K
        exact K
      · rw [if_pos (by simpa using q2)]; exact bad (fun e => q2 e.2.1)
    · rw [if_pos (by simpa using q1)]; exact bad (fun e => q1 e.1)
  · have hi' : x.ipn = false := by simpa using hi
    rw [if_neg hi]
    refine JoinP.of fun J hJ => ⟨_, cell_at hb rfl, ?_⟩
    have bad : ¬ (x.node = 0 ∧ x.svc = 0) → J true h1 := fun hn => by
      have e : kindE x = -1 := by
        unfold kindE rightE
        have hz : x ≠ .zero := fun e => by subst e; exact hn ⟨rfl, rfl⟩
        rw [if_neg hz, if_neg hi, if_neg]
        simp only [Bool.and_eq_true, decide_eq_true_eq]
        exact fun e => hn ⟨e.1.1, e.1.2.1⟩
      rw [e] at K
      subst hJ; exact K
    by_cases q1 : x.node = 0
    · rw [if_neg (by simpa using q1)]
      refine ⟨_, cell_at hb rfl, ?_⟩
      by_cases q2 : x.svc = 0
      · have : (x.svc != 0) = false := by simpa using q2
        rw [this]
        clear bad
        subst hJ
        dsimp only
        rw [if_neg (by decide)]
        refine JoinP.of fun J hJ => ⟨_, cell_at hb rfl, ?_⟩
        have go : ¬ (x.host = ⟨#[]⟩ ∧ x.dem = ⟨#[]⟩) → J false h1 := fun hn => by
          have hz : x ≠ .zero := fun e => by subst e; exact hn ⟨rfl, rfl⟩
          have e : kindE x = if (1 ≤ x.host.size ∧ x.host.size ≤ 16 ∧ x.dem.size ≤ 24) ∧ plainB 45 x.host = true ∧ plainB 47 x.dem = true then 2 else -1 := by
            unfold kindE rightE classE
            rw [if_neg hz, if_neg hi, if_neg hz, if_neg hi]
            simp only [q1, q2, true_and, Bool.and_eq_true, decide_eq_true_eq]
          rw [e] at K
          subst hJ
          dsimp only
          rw [if_neg (by decide)]
          refine JoinP.of fun J hJ => ⟨_, cell_at hb rfl, ?_⟩
          have bad : ¬ ((1 ≤ x.host.size ∧ x.host.size ≤ 16 ∧ x.dem.size ≤ 24) ∧ plainB 45 x.host = true ∧ plainB 47 x.dem = true) → J true h1 := fun hn => by
            subst hJ; rw [if_neg hn] at K; exact K
          by_cases q3 : x.host.size < 1
          · rw [if_pos (decide_eq_true (by omega))]; exact bad (fun e => by have := e.1; omega)
          rw [if_neg (by simp; omega)]
          refine ⟨_, cell_at hb rfl, ?_⟩
          by_cases q4 : x.host.size > 16
          · rw [if_pos (decide_eq_true (by omega))]; exact bad (fun e => by have := e.1; omega)
          rw [if_neg (by simp; omega)]
          refine ⟨_, cell_at hb rfl, ?_⟩
          by_cases q5 : x.dem.size > 24
          · rw [if_pos (decide_eq_true (by omega))]; exact bad (fun e => by have := e.1; omega)
          rw [if_neg (by simp; omega)]
          refine ⟨_, cell_at hb rfl, rplain_ok false (by omega) ⟨_, rfl, ?_⟩⟩
          have e1 : plainB (if false = true then 47 else 45) x.host = plainB 45 x.host := rfl
          have e2 : plainB (if true = true then 47 else 45) x.dem = plainB 47 x.dem := rfl
          rw [e1]
          by_cases q6 : plainB 45 x.host = true
          · rw [if_neg (by simpa using q6)]
            refine ⟨_, cell_at hb rfl, rplain_ok true (by omega) ⟨_, rfl, ?_⟩⟩
            rw [e2]
            by_cases q7 : plainB 47 x.dem = true
            · rw [q7]
              subst hJ
              rw [if_pos ⟨⟨by omega, by omega, by omega⟩, q6, q7⟩] at K
              exact K
            · have : (!plainB 47 x.dem) = true := by simpa using q7
              rw [this]; exact bad (fun e => q7 e.2.2)
          · rw [if_pos (by simpa using q6)]; exact bad (fun e => q6 e.2.1)
        by_cases q3 : x.host = ⟨#[]⟩
        · rw [if_pos (decide_eq_true q3)]
          refine ⟨_, cell_at hb rfl, ?_⟩
          by_cases q4 : x.dem = ⟨#[]⟩
          · rw [decide_eq_true q4]
            clear go
            have hz : x = .zero := Ev.ext' hi' q1 q2 q3 q4
            have e : kindE x = 0 := by
              unfold kindE rightE classE
              rw [if_pos hz, if_pos hz]; rfl
            rw [e] at K
            subst hJ; exact K
          · rw [decide_eq_false q4]; exact go (fun e => q4 e.2)
        · rw [if_neg (by simpa using q3)]; exact go (fun e => q3 e.1)
      · have : (x.svc != 0) = true := by simpa using q2
        rw [this]; exact bad (fun e => q2 e.2)
    · rw [if_pos (by simpa using q1)]; exact bad (fun e => q1 e.1)
end Eid
end Go.Proofs.YtgccegnmggjkjaaGreatDoor

/-
  The shelf's contracts laid at this program (written by the kit's lay-plain.mjs): that its bodies are those that the contracts are proved of. No condition.
-/
set_option maxRecDepth 100000
namespace Go.Proofs
open Go.Shelf
def Tryz.lays284_ren : Go.Shelf.Ren := ⟨fun | 284 => 229 | 129 => 214 | 317 => 254 | 318 => 255 | n => n, fun | 53 => 23 | 3 => 3 | 212 => 350 | 0 => 0 | 4 => 4 | 46 => 271 | 5 => 5 | 9 => 9 | n => n, fun | 17 => 0 | n => n⟩
theorem Tryz.lays284 : Go.Proofs.LaysM.n284 Tryz.prog Tryz.lays284_ren := {
  mixed := by kernel_rfl
  f129 := Tryz.func214.trans (congrArg some (by kernel_rfl))
  f284 := Tryz.func229.trans (congrArg some (by kernel_rfl))
  f317 := Tryz.func254.trans (congrArg some (by kernel_rfl))
  f318 := Tryz.func255.trans (congrArg some (by kernel_rfl))
  t0 := Tryz.underlying0
  a0 := Tryz.isAgg0
  z0 := Tryz.sizeOf0
  v0 := Tryz.zeroValue0
  t3 := Tryz.underlying3
  a3 := Tryz.isAgg3
  z3 := Tryz.sizeOf3
  v3 := Tryz.zeroValue3
  t4 := Tryz.underlying4
  a4 := Tryz.isAgg4
  z4 := Tryz.sizeOf4
  v4 := Tryz.zeroValue4
  t5 := Tryz.underlying5
  a5 := Tryz.isAgg5
  z5 := Tryz.sizeOf5
  v5 := Tryz.zeroValue5
  t9 := Tryz.underlying9
  a9 := Tryz.isAgg9
  z9 := Tryz.sizeOf9
  v9 := Tryz.zeroValue9
  t46 := Tryz.underlying271
  a46 := Tryz.isAgg271
  z46 := Tryz.sizeOf271
  v46 := Tryz.zeroValue271
  t53 := Tryz.underlying23
  a53 := Tryz.isAgg23
  z53 := Tryz.sizeOf23
  v53 := Tryz.zeroValue23
  t212 := Tryz.underlying350
  a212 := Tryz.isAgg350
  z212 := Tryz.sizeOf350
  v212 := Tryz.zeroValue350
  g17 := by kernel_rfl
  i0 := by kernel_rfl
  i3 := by kernel_rfl
  i4 := by kernel_rfl
  i5 := by kernel_rfl
  i9 := by kernel_rfl
  i46 := by kernel_rfl
  i53 := by kernel_rfl
  i212 := by kernel_rfl
  m17 := by kernel_rfl }
def Tryz.lays285_ren : Go.Shelf.Ren := ⟨fun | 285 => 230 | n => n, fun | 37 => 34 | 53 => 23 | 3 => 3 | 4 => 4 | 51 => 314 | 9 => 9 | 5 => 5 | 0 => 0 | n => n, fun | n => n⟩
theorem Tryz.lays285 : Go.Proofs.Lays.n285 Tryz.prog Tryz.lays285_ren := {
  mixed := by kernel_rfl
  f285 := Tryz.func230.trans (congrArg some (by kernel_rfl))
  t0 := Tryz.underlying0
  a0 := Tryz.isAgg0
  z0 := Tryz.sizeOf0
  v0 := Tryz.zeroValue0
  t3 := Tryz.underlying3
  a3 := Tryz.isAgg3
  z3 := Tryz.sizeOf3
  v3 := Tryz.zeroValue3
  t4 := Tryz.underlying4
  a4 := Tryz.isAgg4
  z4 := Tryz.sizeOf4
  v4 := Tryz.zeroValue4
  t5 := Tryz.underlying5
  a5 := Tryz.isAgg5
  z5 := Tryz.sizeOf5
  v5 := Tryz.zeroValue5
  t9 := Tryz.underlying9
  a9 := Tryz.isAgg9
  z9 := Tryz.sizeOf9
  v9 := Tryz.zeroValue9
  t37 := Tryz.underlying34
  a37 := Tryz.isAgg34
  z37 := Tryz.sizeOf34
  v37 := Tryz.zeroValue34
  t51 := Tryz.underlying314
  a51 := Tryz.isAgg314
  z51 := Tryz.sizeOf314
  v51 := Tryz.zeroValue314
  t53 := Tryz.underlying23
  a53 := Tryz.isAgg23
  z53 := Tryz.sizeOf23
  v53 := Tryz.zeroValue23 }
def Tryz.lays283_ren : Go.Shelf.Ren := ⟨fun | 283 => 228 | n => n, fun | 3 => 3 | 9 => 9 | 4 => 4 | n => n, fun | n => n⟩
theorem Tryz.lays283 : Go.Proofs.Lays.n283 Tryz.prog Tryz.lays283_ren := {
  mixed := by kernel_rfl
  f283 := Tryz.func228.trans (congrArg some (by kernel_rfl))
  t3 := Tryz.underlying3
  a3 := Tryz.isAgg3
  z3 := Tryz.sizeOf3
  v3 := Tryz.zeroValue3
  t4 := Tryz.underlying4
  a4 := Tryz.isAgg4
  z4 := Tryz.sizeOf4
  v4 := Tryz.zeroValue4
  t9 := Tryz.underlying9
  a9 := Tryz.isAgg9
  z9 := Tryz.sizeOf9
  v9 := Tryz.zeroValue9 }
end Go.Proofs

/-
  What is proved here: the shelf's contracts of internal/strconv, on heaps. No condition.
-/
set_option maxRecDepth 100000
namespace Go.Proofs.YtgccegnmggjkjaaGreatDoor
open Go.Den
namespace Num
variable {h h' : Heap} {R : Value → Heap → Prop}
/-- the table of the powers of ten lies where the program has it -/
def Tab (h : Heap) : Prop := ∃ t f, h[(0 : Nat)]? = some (.cells (Lib.pow10Tab.map fun z => Value.int .u64 z).toArray t f)
theorem Tab.frame {S : Nat → Prop} (T : Tab h) (f : Fr S h h') (hn : ∀ c, c < h.size → ¬ S c) : Tab h' := by
  obtain ⟨t, fr, h2⟩ := T
  exact ⟨t, fr, f.get h2 (hn _ (lt_of_get h2))⟩
theorem Tab.on (T : Tab h) (f : Fr (fun _ => False) h h') : Tab h' := T.frame f (fun _ _ => id)
theorem Tab.is {w : World} {s : String} (hs : Tryz.prog.globalNamed s = some 0) (T : Tab w.heap) : Lib.TabIs Tryz.prog w s .u64 Lib.pow10Tab := by
  obtain ⟨t, fr, h2⟩ := T
  unfold Lib.TabIs World.var?
  rw [hs]
  show (match w.heap[(0 : Nat)]? with | some (.cells cs _ _) => some cs | _ => none) = _
  rw [h2]
theorem small_ok {i : Nat} (hi : i < 100) (hk : R (.string ⟨(Lib.decDigits i).toArray⟩) h) : CallsH Tryz.prog F.internal_strconv_small #[.int .i64 i] h R := fun w hw =>
  (Any.internal_strconv_small Tryz.lays283 i hi w).mono fun e w' ⟨he, hw'⟩ => ⟨_, he, by rw [hw', hw]; exact hk, by rw [hw']; exact Same.refl _⟩
theorem digits_ok {u : Nat} (T : Tab h) (h1 : 1 ≤ u) (h2 : u < 18446744073709551616) (hk : R (.int .i64 (Lib.nDigits u)) h) : CallsH Tryz.prog F.internal_strconv_numDigits #[.int .u64 u] h R := fun w hw =>
  (Any.internal_strconv_numDigits Tryz.lays284 u h1 h2 w (by rw [← hw] at T; exact T.is (by kernel_rfl))).mono fun e w' ⟨he, hw'⟩ => ⟨_, he, by rw [hw', hw]; exact hk, by rw [hw']; exact Same.refl _⟩
end Num
end Go.Proofs.YtgccegnmggjkjaaGreatDoor

/-
  Printed by a program of this work (vc.py): the verification conditions of functions, and that each is enough for the call. No condition.
-/
set_option maxRecDepth 100000
set_option maxHeartbeats 4000000
namespace Go.Proofs.YtgccegnmggjkjaaGreatDoor
open Go.Den
def internal_strconv_FormatUint.vc (i : Int) (base : Int) (h : Heap) (R : Value → Heap → Prop) : Prop :=
 if (base == 10) = true then
 if (decide (i < 100)) = true then
 CallsH Tryz.prog F.internal_strconv_small #[.int .i64 (IntKind.wrap .i64 i)] h fun v h_1 =>
 ∃ (t15 : ByteArray), v = .string t15 ∧
 R (.string t15) h_1
 else
 NewP h (.cells #[.int .u8 0, .int .u8 0, .int .u8 0, .int .u8 0, .int .u8 0, .int .u8 0, .int .u8 0, .int .u8 0, .int .u8 0, .int .u8 0, .int .u8 0, .int .u8 0, .int .u8 0, .int .u8 0, .int .u8 0, .int .u8 0, .int .u8 0, .int .u8 0, .int .u8 0, .int .u8 0, .int .u8 0, .int .u8 0, .int .u8 0, .int .u8 0] T.a24_uint8) fun b h_2 =>
 CallsH Tryz.prog F.internal_strconv_numDigits #[.int .u64 i] h_2 fun v_1 h_3 =>
 ∃ (t17 : Int), v_1 = .int .i64 t17 ∧
 ((0 : Int) ≤ t17 ∧ t17 ≤ ((24 : Nat) : Int)) ∧ 
 CallsH Tryz.prog F.internal_strconv_formatBase10 #[.slice (slBase (some ⟨b, 0, none⟩) 24 0 1) ((Int.toNat t17) - 0) (24 - 0), .int .u64 i] h_3 fun v_2 h_4 =>
 v_2 = .tuple #[] ∧
 ((0 : Int) ≤ t17 ∧ t17 ≤ ((24 : Nat) : Int)) ∧ 
 ∃ (t24 : ByteArray), ConvV Tryz.prog T.s_uint8 T.string (.slice (slBase (some ⟨b, 0, none⟩) 24 0 1) ((Int.toNat t17) - 0) (24 - 0)) h_4 t24 ∧
 R (.string t24) h_4
 else
 CallsH Tryz.prog F.internal_strconv_formatBits #[.slice none 0 0, .int .u64 i, .int .i64 base, .bool false, .bool false] h fun v_3 h_5 =>
 ∃ (t28_0_p : Option Addr) (t28_0_l t28_0_c : Nat), ∃ (t28_1 : ByteArray), v_3 = .tuple #[.slice t28_0_p t28_0_l t28_0_c, .string t28_1] ∧
 R (.string t28_1) h_5
theorem internal_strconv_FormatUint.walk {i : Int} {base : Int} {h : Heap} {R : Value → Heap → Prop} (hv : internal_strconv_FormatUint.vc i base h R) : CallsH Tryz.prog F.internal_strconv_FormatUint #[.int .u64 i, .int .i64 base] h R :=
 callsH_of_body (.seq .leaf (.seq (.seq .leaf (.cond (.seq (.seq .leaf (.cond (.seq .leaf .leaf) .leaf)) (.seq .leaf (.seq .leaf (.seq .leaf (.seq .leaf .leaf))))) .leaf)) (.seq .leaf (.seq .leaf .leaf)))) Tryz.func201 rfl rfl (Eq.mp (by kernel_rfl) hv)

def strconv_FormatUint.vc (i : Int) (base : Int) (h : Heap) (R : Value → Heap → Prop) : Prop :=
 CallsH Tryz.prog F.internal_strconv_FormatUint #[.int .u64 i, .int .i64 base] h fun v h_1 =>
 ∃ (t7 : ByteArray), v = .string t7 ∧
 R (.string t7) h_1
theorem strconv_FormatUint.walk {i : Int} {base : Int} {h : Heap} {R : Value → Heap → Prop} (hv : strconv_FormatUint.vc i base h R) : CallsH Tryz.prog F.strconv_FormatUint #[.int .u64 i, .int .i64 base] h R :=
 callsH_of_body (.seq .leaf (.seq .leaf .leaf)) Tryz.func176 rfl rfl (Eq.mp (by kernel_rfl) hv)

end Go.Proofs.YtgccegnmggjkjaaGreatDoor

/-
  What is proved here: strconv.FormatUint at base 10, on heaps. No condition.
-/
set_option maxRecDepth 100000
namespace Go.Proofs.YtgccegnmggjkjaaGreatDoor
open Go.Den
namespace Num
variable {h h' : Heap} {R : Value → Heap → Prop}
theorem base10_ok {blk n u cap : Nat} {c : Array Value} {t : TypeId} (hb : h[blk]? = some (.cells c t (0, 0))) (hz : ∀ j, j < n → c[j]? = some (.int .u8 0)) (hu : u < 10 ^ n) (hu64 : u < 18446744073709551616) (hn : n < 100)
    (hk : ∀ h' c' dk v', h'[blk]? = some (.cells c' t (0, 0)) → Lib.FmtInv n u 0 v' dk → (∀ j, j < n → c'[j]? = some (.int .u8 ((dk[j]!).toNat : Int))) → h'.size = h.size → (∀ x, x ≠ blk → h'[x]? = h[x]?) → R (.tuple #[]) h') :
    CallsH Tryz.prog F.internal_strconv_formatBase10 #[.slice (some ⟨blk, 0, none⟩) n cap, .int .u64 u] h R := fun w hw => by
  subst hw
  have hH : Sort.Holds (fun (b : UInt8) => Value.int .u8 (b.toNat : Int)) w blk 0 (Array.replicate n 0) := fun j hj => by
    rw [Array.size_replicate] at hj
    refine ⟨?_, ?_⟩
    · rw [cell_eq, hcell_blk hb, Nat.zero_add, hz j hj]
      have : (Array.replicate n (0 : UInt8))[j]! = 0 := by simp [hj]
      rw [this]; rfl
    · rw [frozen_eq]; exact hfrozen_blk hb
  have key := Any.internal_strconv_formatBase10 Tryz.lays285 blk 0 cap u (Array.replicate n 0) w hH (by rw [Array.size_replicate]; exact hu) hu64 (by rw [Array.size_replicate]; omega)
  rw [Array.size_replicate] at key
  refine Calls.mono key fun e w' ⟨he, k, v', dk, hw', hF⟩ => ⟨_, he, ?_, ?_⟩
  · subst hw'
    have hh : ((Sort.putRow (fun (b : UInt8) => Value.int .u8 (b.toNat : Int)) w blk 0 dk).drewN k).heap = w.heap.modify blk (Sort.onCells (Sort.putCells (fun (b : UInt8) => Value.int .u8 (b.toNat : Int)) 0 dk)) := rfl
    rw [hh]
    refine hk _ (Sort.putCells (fun (b : UInt8) => Value.int .u8 (b.toNat : Int)) 0 dk c) dk v' ?_ hF (fun j hj => ?_) (by simp) (fun x hx => by rw [Array.getElem?_modify, if_neg (fun e => hx e.symm)])
    · rw [Array.getElem?_modify, if_pos rfl, hb]; rfl
    · unfold Sort.putCells
      rw [Array.getElem?_mapIdx, hz j hj, Option.map_some, if_pos ⟨Nat.zero_le _, by rw [hF.size]; omega⟩, Nat.sub_zero]
  · subst hw'; exact ⟨rfl, rfl, rfl⟩
theorem tS : Tryz.prog.underlying T.s_uint8 = some (.slice T.uint8) := by kernel_rfl
theorem t8 : Tryz.prog.underlying T.uint8 = some (.int .u8) := by kernel_rfl
theorem tT : Tryz.prog.underlying T.string = some .string := by kernel_rfl
theorem format_ok {u : Nat} (tb : Tab h) (hu : u < 18446744073709551616) (hk : ∀ h', Fr (fun _ => False) h h' → R (.string ⟨(Lib.decDigits u).toArray⟩) h') : CallsH Tryz.prog F.internal_strconv_FormatUint #[.int .u64 u, .int .i64 10] h R := by
  refine internal_strconv_FormatUint.walk ?_
  unfold internal_strconv_FormatUint.vc
  rw [if_pos (by rfl)]
  by_cases h1 : u < 100
  · rw [if_pos (decide_eq_true (by omega)), wrap_id (by omega) (by omega)]
    exact small_ok h1 ⟨_, rfl, hk h (Fr.refl _ _)⟩
  · rw [if_neg (by simp; omega)]
    refine newP_of ?_
    generalize hcs : (#[.int .u8 0, .int .u8 0, .int .u8 0, .int .u8 0, .int .u8 0, .int .u8 0, .int .u8 0, .int .u8 0, .int .u8 0, .int .u8 0, .int .u8 0, .int .u8 0, .int .u8 0, .int .u8 0, .int .u8 0, .int .u8 0, .int .u8 0, .int .u8 0, .int .u8 0, .int .u8 0, .int .u8 0, .int .u8 0, .int .u8 0, .int .u8 0] : Array Value) = cs
    have hc0 : ∀ j, j < 24 → cs[j]? = some (.int .u8 0) := by
      have : cs = Array.replicate 24 (.int .u8 0) := by rw [← hcs]; rfl
      intro j hj
      rw [this]; simp [hj]
    have f1 : Fr (fun _ => False) h (h.push (.cells cs T.a24_uint8)) := Fr.push _ _
    have hb1 : (h.push (.cells cs T.a24_uint8))[h.size]? = some (.cells cs T.a24_uint8 (0, 0)) := push_new
    have hnd : Lib.nDigits u ≤ 20 := by have := Lib.numDigits_eq u (by omega) hu; split at this <;> omega
    refine digits_ok (tb.on f1) (by omega) hu ⟨_, rfl, ⟨by omega, by omega⟩, ?_⟩
    have es : slBase (some (⟨h.size, 0, none⟩ : Addr)) 24 0 1 = some ⟨h.size, 0, none⟩ := rfl
    rw [es, Int.toNat_natCast, Nat.sub_zero]
    refine base10_ok hb1 (fun j hj => hc0 j (by omega)) (Lib.lt_pow_nDigits u) hu (by omega) fun h2 c2 dk v2 hb2 hF hc2 s2 o2 => ⟨rfl, ⟨by omega, by omega⟩, str (Lib.decDigits u), ?_, ?_⟩
    · refine conv_str tS t8 tT (.inr ⟨_, rfl, heldL_blk hb2 (fun j v hj => ?_)⟩) (Lib.decDigits_length u).symm
      rw [Nat.zero_add]
      have hjl : j < (Lib.decDigits u).length := by have := (List.getElem?_eq_some_iff.1 hj).1; rwa [bc_len] at this
      have hjn : j < Lib.nDigits u := by rwa [Lib.decDigits_length] at hjl
      rw [hc2 j hjn, ← Lib.row_is_numeral hF j hjl, ← hj]
      unfold bc
      rw [List.getElem?_map, List.getElem?_eq_getElem hjl]; rfl
    · exact hk h2 (f1.fresh (S := fun y => y = h.size) ⟨by omega, fun y _ hn => o2 y hn⟩ (fun y e => Nat.le_of_eq e.symm))
theorem formatUint_ok {u : Nat} (tb : Tab h) (hu : u < 18446744073709551616) (hk : ∀ h', Fr (fun _ => False) h h' → R (.string ⟨(Lib.decDigits u).toArray⟩) h') : CallsH Tryz.prog F.strconv_FormatUint #[.int .u64 u, .int .i64 10] h R :=
  strconv_FormatUint.walk (format_ok tb hu fun h1 f1 => ⟨_, rfl, hk h1 f1⟩)
end Num
end Go.Proofs.YtgccegnmggjkjaaGreatDoor

/-
  What is proved here: the texts of endpoints: ref04.Digits, ref04.Text, eid.path, eid.Text. No condition.
-/
set_option maxRecDepth 100000
namespace Go.Proofs.YtgccegnmggjkjaaGreatDoor
open Go.Den
namespace Eid
variable {h h' : Heap} {R : Value → Heap → Prop}
theorem str_app (a b : List UInt8) : str a ++ str b = str (a ++ b) := by
  unfold str
  apply ByteArray.ext
  rw [ByteArray.data_append]
  simp
theorem str_size (a : List UInt8) : (str a).size = a.length := by unfold str; rfl
theorem str_self (s : ByteArray) : s = str s.data.toList := (str_data s).symm
theorem data_len (s : ByteArray) : s.data.toList.length = s.size := by rw [Array.length_toList]; rfl
def textE (x : Ev) : List UInt8 :=
  if x = .zero then [100, 116, 110, 58, 110, 111, 110, 101]
  else if x.ipn = true then [105, 112, 110, 58] ++ Lib.decDigits x.node.toNat ++ [46] ++ Lib.decDigits x.svc.toNat
  else [100, 116, 110, 58] ++ ([47, 47] ++ x.host.data.toList ++ [47] ++ x.dem.data.toList)
theorem maxi : IntKind.max .i64 = 9223372036854775807 := rfl
theorem dec_len {u : Nat} (hu : u < 18446744073709551616) : (Lib.decDigits u).length ≤ 20 := by
  rw [Lib.decDigits_length]
  by_cases h0 : u < 10
  · rw [Lib.nDigits_small h0]; omega
  · have := Lib.numDigits_eq u (by omega) hu
    split at this <;> omega
theorem text_len {x : Ev} (hr : rightE x = true) (h1 : 0 ≤ x.svc) : (textE x).length ≤ 100 := by
  unfold textE
  unfold rightE at hr
  by_cases z : x = .zero
  · rw [if_pos z]; simp
  rw [if_neg z] at hr ⊢
  by_cases hi : x.ipn = true
  · rw [if_pos hi] at hr ⊢
    have hr := of_decide_eq_true hr
    have l1 := dec_len (u := x.node.toNat) (by omega)
    have l2 := dec_len (u := x.svc.toNat) (by omega)
    simp only [List.length_append, List.length_cons, List.length_nil]; omega
  · rw [if_neg hi] at hr ⊢
    simp only [Bool.and_eq_true, decide_eq_true_eq] at hr
    simp only [List.length_append, List.length_cons, List.length_nil, data_len]; omega
theorem rdigits_ok {n : Int} (k : Nat) (e : n = (k : Int)) (hu : k < 18446744073709551616) (hk : ∀ h', Fr (fun _ => False) h h' → R (.string (str (Lib.decDigits k))) h') : CallsH Tryz.prog F.ref04_Digits #[.int .u64 n] h R := by
  have hl := dec_len hu
  refine ref04_Digits.walk ⟨fun n1 out g => ∃ (m : Nat) (d : List UInt8), n1 = (m : Int) ∧ out = str d ∧ Fr (fun _ => False) h g ∧ m < 18446744073709551616 ∧ d.length ≤ 20 ∧ ((m = 0 ∧ d ≠ [] ∧ d = Lib.decDigits k) ∨ (¬ (m = 0 ∧ d ≠ []) ∧ Lib.decDigits m ++ d = Lib.decDigits k)), fun n1 out _ => 2 * n1.toNat + (if out.size = 0 then 1 else 0), ⟨k, [], e, rfl, Fr.refl _ _, hu, by simp, .inr ⟨by simp, by simp⟩⟩, ?_⟩
  rintro _ _ g ⟨m, d, rfl, rfl, fg, hm, hd, hinv⟩
  refine JoinP.of fun J hJ => ?_
  have more : ¬ (m = 0 ∧ d ≠ []) → J true g := fun hgo => by
    subst hJ
    dsimp only
    rw [if_pos rfl]
    have hdec : Lib.decDigits m ++ d = Lib.decDigits k := by
      rcases hinv with ⟨h1, h2, _⟩ | ⟨_, h2⟩
      · exact absurd ⟨h1, h2⟩ hgo
      · exact h2
    have em : Int.tmod (m : Int) 10 = ((m % 10 : Nat) : Int) := by rw [Int.tmod_eq_emod_of_nonneg (by omega)]; omega
    have ed : Int.tdiv (m : Int) 10 = ((m / 10 : Nat) : Int) := by rw [Int.tdiv_eq_ediv_of_nonneg (by omega)]; omega
    rw [em, ed, wrap_u64_nat (by omega)]
    have eb : IntKind.wrap .u8 (IntKind.wrap .u64 (48 + ((m % 10 : Nat) : Int))) = ((UInt8.ofNat (48 + m % 10)).toNat : Int) := by
      rw [wrap_u64 (by omega) (by omega), wrap_u8 (by omega) (by omega)]
      have : (UInt8.ofNat (48 + m % 10)).toNat = 48 + m % 10 := by rw [UInt8.toNat_ofNat']; omega
      rw [this]; omega
    rw [eb]
    refine newP_of ⟨str [UInt8.ofNat (48 + m % 10)], conv_str Num.tS Num.t8 Num.tT (bs := [UInt8.ofNat (48 + m % 10)]) row_new rfl, ?_, ?_, ?_⟩
    · rw [str_size, str_size, maxi]; simp only [List.length_cons, List.length_nil]; omega
    · have hd' : ([UInt8.ofNat (48 + m % 10)] ++ d).length ≤ 20 := by
        have := congrArg List.length hdec
        rw [List.length_append] at this
        have h1 : 1 ≤ (Lib.decDigits m).length := by rw [Lib.decDigits_length]; exact Lib.nDigits_pos m
        rw [List.length_append, List.length_cons, List.length_nil]; omega
      refine ⟨m / 10, [UInt8.ofNat (48 + m % 10)] ++ d, rfl, str_app _ _, fg.tt (Fr.push _ _), by omega, hd', ?_⟩
      by_cases hs : m < 10
      · rw [Lib.decDigits_one hs] at hdec
        refine .inl ⟨by omega, by simp, ?_⟩
        rw [← hdec, Nat.mod_eq_of_lt hs]
      · rw [Lib.decDigits, dif_neg hs, List.append_assoc] at hdec
        exact .inr ⟨fun q => by omega, hdec⟩
    · rw [str_app, str_size, str_size, if_neg (by simp)]
      simp only [Int.toNat_natCast]
      by_cases hm0 : m = 0
      · have : d = [] := by
          cases d with
          | nil => rfl
          | cons a l => exact absurd ⟨hm0, by simp⟩ hgo
        subst this; subst hm0; simp
      · split <;> omega
  by_cases hm0 : m = 0
  · subst hm0
    rw [if_neg (by simp)]
    rw [nil_eq]
    by_cases hd0 : d = []
    · subst hd0; exact more (by simp)
    · have hne : ¬ str d = ⟨#[]⟩ := fun e => hd0 (by have := congrArg (fun s => s.data.toList) e; simpa [str] using this)
      rw [decide_eq_false hne]
      clear more
      subst hJ
      have : d = Lib.decDigits k := by
        rcases hinv with ⟨_, _, h3⟩ | ⟨h1, _⟩
        · exact h3
        · exact absurd ⟨rfl, hd0⟩ h1
      rw [this]
      exact hk g fg
  · rw [if_pos (decide_eq_true (by omega))]
    exact more (by omega)
theorem path_ok (x : Ev) (h1 : x.host.size ≤ 1000) (h2 : x.dem.size ≤ 1000) (hk : ∀ h', Fr (fun _ => False) h h' → R (.string (str ([47, 47] ++ x.host.data.toList ++ [47] ++ x.dem.data.toList))) h') : CallsH Tryz.prog F.eid_path #[ev5 x] h R := by
  refine eid_path.walk (eid_Eid.box fun b h3 eb hb f3 => ⟨_, cell_at hb rfl, ?_⟩)
  have e1 : (⟨#[47, 47]⟩ : ByteArray) = str [47, 47] := rfl
  have e2 : (⟨#[47]⟩ : ByteArray) = str [47] := rfl
  have l1 := data_len x.host
  have l2 := data_len x.dem
  have K := hk h3 f3
  rw [e1, e2, maxi]
  refine ⟨?_, ?_, _, cell_at hb rfl, ?_, ?_⟩
  · rw [str_size]; simp; omega
  · rw [str_self x.host, str_app, str_size, str_size]; simp; omega
  · rw [str_self x.host, str_app, str_app, str_size]; simp; omega
  · rw [str_self x.host, str_self x.dem, str_app, str_app, str_app]; exact K
theorem text_ok (x : Ev) (tb : Num.Tab h) (w1 : 0 ≤ x.svc) (hk : ∀ h', Fr (fun _ => False) h h' → R (.tuple #[.string (if rightE x = true then str (textE x) else ⟨#[]⟩), .int .i64 (if rightE x = true then 0 else 3)]) h') : CallsH Tryz.prog F.eid_Text #[ev5 x] h R := by
  refine eid_Text.walk (eid_Eid.box fun b h1 eb hb f1 => eid_Eid.ld hb (right_ok x fun h2 f2 => ⟨_, rfl, ?_⟩))
  by_cases hr : rightE x = true
  · simp only [hr, if_true] at hk
    rw [if_neg (by simpa using hr)]
    have hb2 := f2.get hb id
    have F2 := f1.tt f2
    have tb2 := tb.on F2
    refine eid_Eid.ld hb2 ⟨_, eqv' (y := .zero) (x := x) rfl rfl, ?_⟩
    unfold textE at hk
    unfold rightE at hr
    by_cases z : x = .zero
    · rw [if_pos (decide_eq_true z)]
      rw [if_pos z] at hk
      exact hk h2 F2
    rw [if_neg (by simpa using z)]
    rw [if_neg z] at hr
    simp only [if_neg z] at hk
    refine ⟨_, cell_at hb2 rfl, ?_⟩
    have e1 : (⟨#[105, 112, 110, 58]⟩ : ByteArray) = str [105, 112, 110, 58] := rfl
    have e2 : (⟨#[46]⟩ : ByteArray) = str [46] := rfl
    have e3 : (⟨#[100, 116, 110, 58]⟩ : ByteArray) = str [100, 116, 110, 58] := rfl
    by_cases hi : x.ipn = true
    · rw [if_pos hi] at hr ⊢
      simp only [if_pos hi] at hk
      have hr := of_decide_eq_true hr
      have l1 := dec_len (u := x.node.toNat) (by omega)
      have l2 := dec_len (u := x.svc.toNat) (by omega)
      have n1 : x.node = ((x.node.toNat : Nat) : Int) := by omega
      have n2 : x.svc = ((x.svc.toNat : Nat) : Int) := by omega
      rw [e1, e2, maxi]
      refine ⟨_, cell_at hb2 rfl, _, cell_at hb2 rfl, ?_⟩
      rw [n1]
      refine Num.formatUint_ok tb2 (by omega) fun h3 f3 => ⟨_, rfl, cell_at (f3.get hb2 id) rfl, ?_⟩
      have c1 : (⟨(Lib.decDigits x.node.toNat).toArray⟩ : ByteArray) = str (Lib.decDigits x.node.toNat) := rfl
      have c2 : (⟨(Lib.decDigits x.svc.toNat).toArray⟩ : ByteArray) = str (Lib.decDigits x.svc.toNat) := rfl
      rw [c1]
      refine ⟨?_, ?_, ?_⟩
      · rw [str_size, str_size]; simp; omega
      · rw [str_app, str_size, str_size]; simp; omega
      rw [n2]
      refine Num.formatUint_ok (tb2.on f3) (by omega) fun h4 f4 => ⟨_, rfl, ?_⟩
      rw [c2]
      refine ⟨?_, ?_⟩
      · rw [str_app, str_app, str_size, str_size]; simp; omega
      · rw [str_app, str_app, str_app]; exact hk h4 (F2.tt (f3.tt f4))
    · rw [if_neg hi] at hr ⊢
      simp only [if_neg hi] at hk
      simp only [Bool.and_eq_true, decide_eq_true_eq] at hr
      refine eid_Eid.ld hb2 (path_ok x (by omega) (by omega) fun h3 f3 => ⟨_, rfl, ?_⟩)
      have l1 := data_len x.host
      have l2 := data_len x.dem
      rw [e3, maxi]
      refine ⟨?_, ?_⟩
      · rw [str_size, str_size]; simp; omega
      · rw [str_app]; exact hk h3 (F2.tt f3)
  · simp only [hr, Bool.false_eq_true, if_false] at hk
    rw [if_pos (by simpa using hr)]
    exact hk h2 (f1.tt f2)
theorem rtext_ok (x : Ev) (hr : rightE x = true) (w1 : 0 ≤ x.svc) (hk : ∀ h', Fr (fun _ => False) h h' → R (.string (str (textE x))) h') : CallsH Tryz.prog F.ref04_Text #[ev5 x] h R := by
  refine ref04_Text.walk (ref04_Eid.box fun b h1 eb hb f1 => ref04_Eid.ld hb (rkind_ok x fun h2 f2 => ⟨_, rfl, ?_⟩))
  have hb2 := f2.get hb id
  have F2 := f1.tt f2
  have ek : kindE x = classE x := by unfold kindE; rw [if_pos hr]
  rw [ek]
  unfold classE
  unfold textE at hk
  unfold rightE at hr
  by_cases z : x = .zero
  · rw [if_pos z, if_pos (by decide)]
    rw [if_pos z] at hk
    exact hk h2 F2
  rw [if_neg z] at hr ⊢
  simp only [if_neg z] at hk
  have e1 : (⟨#[105, 112, 110, 58]⟩ : ByteArray) = str [105, 112, 110, 58] := rfl
  have e2 : (⟨#[46]⟩ : ByteArray) = str [46] := rfl
  have e3 : (⟨#[100, 116, 110, 58, 47, 47]⟩ : ByteArray) = str [100, 116, 110, 58, 47, 47] := rfl
  have e4 : (⟨#[47]⟩ : ByteArray) = str [47] := rfl
  by_cases hi : x.ipn = true
  · rw [if_pos hi] at hr ⊢
    simp only [if_pos hi] at hk
    have hr := of_decide_eq_true hr
    have l1 := dec_len (u := x.node.toNat) (by omega)
    have l2 := dec_len (u := x.svc.toNat) (by omega)
    rw [if_neg (by decide), if_pos (by decide), e1, e2, maxi]
    refine ⟨_, cell_at hb2 rfl, _, cell_at hb2 rfl, ?_⟩
    refine rdigits_ok x.node.toNat (by omega) (by omega) fun h3 f3 => ⟨_, rfl, cell_at (f3.get hb2 id) rfl, ?_, ?_, ?_⟩
    · rw [str_size, str_size]; simp; omega
    · rw [str_app, str_size, str_size]; simp; omega
    refine rdigits_ok x.svc.toNat (by omega) (by omega) fun h4 f4 => ⟨_, rfl, ?_, ?_⟩
    · rw [str_app, str_app, str_size, str_size]; simp; omega
    · rw [str_app, str_app, str_app]; exact hk h4 (F2.tt (f3.tt f4))
  · rw [if_neg hi] at hr ⊢
    simp only [if_neg hi] at hk
    simp only [Bool.and_eq_true, decide_eq_true_eq] at hr
    have l1 := data_len x.host
    have l2 := data_len x.dem
    rw [if_neg (by decide), if_neg (by decide), e3, e4, maxi]
    refine ⟨_, cell_at hb2 rfl, ?_, ?_, _, cell_at hb2 rfl, ?_, ?_⟩
    · rw [str_size]; simp; omega
    · rw [str_self x.host, str_app, str_size, str_size]; simp; omega
    · rw [str_self x.host, str_app, str_app, str_size]; simp; omega
    · rw [str_self x.host, str_self x.dem, str_app, str_app, str_app]
      have := hk h2 F2
      simpa using this
end Eid
end Go.Proofs.YtgccegnmggjkjaaGreatDoor

/-
  Printed by a program of this work (vc.py): the verification conditions of functions, and that each is enough for the call. No condition.
-/
set_option maxRecDepth 100000
set_option maxHeartbeats 4000000
namespace Go.Proofs.YtgccegnmggjkjaaGreatDoor
open Go.Den
def slices_Clone_s_byte_byte.vc (s_p : Option Addr) (s_l s_c : Nat) (h : Heap) (R : Value → Heap → Prop) : Prop :=
 if s_p.isNone = true then
 R (.slice none 0 0) h
 else
 NewP h (.cells #[] T.uint8) fun b h_1 =>
 denSem Tryz.prog (Builtin.append_ #[T.s_uint8, T.s_uint8] T.s_uint8 #[.slice (some ⟨b, 0, none⟩) 0 0, .slice s_p s_l s_c]) h_1 fun v h_2 =>
 ∃ (t7_p : Option Addr) (t7_l t7_c : Nat), v = .slice t7_p t7_l t7_c ∧
 R (.slice t7_p t7_l t7_c) h_2
theorem slices_Clone_s_byte_byte.walk {s_p : Option Addr} {s_l s_c : Nat} {h : Heap} {R : Value → Heap → Prop} (hv : slices_Clone_s_byte_byte.vc s_p s_l s_c h R) : CallsH Tryz.prog F.slices_Clone_s_byte_byte #[.slice s_p s_l s_c] h R :=
 callsH_of_body (.seq .leaf (.seq (.seq .leaf (.cond (.seq .leaf .leaf) .leaf)) (.seq .leaf .leaf))) Tryz.func71 rfl rfl (Eq.mp (by kernel_rfl) hv)

def fields_New.vc  (h : Heap) (R : Value → Heap → Prop) : Prop :=
 NewP h (.cells #[.bool true, .slice none 0 0] T.fields_Writer) fun b h_1 =>
 R (.pointer (some ⟨b, 0, none⟩)) h_1
theorem fields_New.walk  {h : Heap} {R : Value → Heap → Prop} (hv : fields_New.vc h R) : CallsH Tryz.prog F.fields_New #[] h R :=
 callsH_of_body (.seq .leaf (.seq .leaf .leaf)) Tryz.func74 rfl rfl (Eq.mp (by kernel_rfl) hv)

def fields_Writer_Num.vc (w : Nat) (n : Int) (h : Heap) (R : Value → Heap → Prop) : Prop :=
 JoinP (fun (t13 : Bool) (h_1 : Heap) =>
 if t13 = true then
 R (.pointer (some ⟨w, 0, none⟩)) h_1
 else
 ∃ (I : Int → Heap → Prop) (mu : Int → Heap → Nat), I n h_1 ∧ ∀ (n_1 : Int) (h_2 : Heap), I n_1 h_2 →
 if (decide (n_1 > 127)) = true then
 ∃ (t21_p : Option Addr) (t21_l t21_c : Nat), hcell h_2 ⟨w, 1, none⟩ = some (.slice t21_p t21_l t21_c) ∧
 NewP h_2 (.cells #[.int .u8 (IntKind.wrap .u8 ((BitVec.ofInt (IntKind.bits .u8) (IntKind.wrap .u8 n_1) ||| BitVec.ofInt (IntKind.bits .u8) 128).toNat : Int))] T.uint8) fun b h_3 =>
 denSem Tryz.prog (Builtin.append_ #[T.s_uint8, T.s_uint8] T.s_uint8 #[.slice t21_p t21_l t21_c, .slice (some ⟨b, 0, none⟩) 1 1]) h_3 fun v h_4 =>
 ∃ (t26_p : Option Addr) (t26_l t26_c : Nat), v = .slice t26_p t26_l t26_c ∧
 StoreP h_4 ⟨w, 1, none⟩ (.slice t26_p t26_l t26_c) fun h_5 =>
 (I (Int.fdiv n_1 (2 ^ min (Int.toNat 7) (IntKind.bits .u64))) h_5 ∧ mu (Int.fdiv n_1 (2 ^ min (Int.toNat 7) (IntKind.bits .u64))) h_5 < mu n_1 h_2)
 else
 ∃ (t35_p : Option Addr) (t35_l t35_c : Nat), hcell h_2 ⟨w, 1, none⟩ = some (.slice t35_p t35_l t35_c) ∧
 NewP h_2 (.cells #[.int .u8 (IntKind.wrap .u8 n_1)] T.uint8) fun b_1 h_6 =>
 denSem Tryz.prog (Builtin.append_ #[T.s_uint8, T.s_uint8] T.s_uint8 #[.slice t35_p t35_l t35_c, .slice (some ⟨b_1, 0, none⟩) 1 1]) h_6 fun v_1 h_7 =>
 ∃ (t39_p : Option Addr) (t39_l t39_c : Nat), v_1 = .slice t39_p t39_l t39_c ∧
 StoreP h_7 ⟨w, 1, none⟩ (.slice t39_p t39_l t39_c) fun h_8 =>
 R (.pointer (some ⟨w, 0, none⟩)) h_8)
 (fun J =>
 ∃ (t11 : Bool), hcell h ⟨w, 0, none⟩ = some (.bool t11) ∧
 J (!t11) h)
theorem fields_Writer_Num.walk {w : Nat} {n : Int} {h : Heap} {R : Value → Heap → Prop} (hv : fields_Writer_Num.vc w n h R) : CallsH Tryz.prog F.fields_Writer_Num #[.pointer (some ⟨w, 0, none⟩), .int .u64 n] h R :=
 callsH_of_body (.seq .leaf (.seq (.seq (.join [(13, .one (.bool))] .leaf) (.cond (.seq .leaf .leaf) .leaf)) (.seq (.block (.loop [(1, .one (.int .u64))] (.seq (.seq .leaf (.cond .leaf .leaf)) (.block (.seq .leaf .leaf))))) (.seq .leaf (.seq .leaf .leaf))))) Tryz.func134 rfl rfl (Eq.mp (by kernel_rfl) hv)

def fields_Writer_Num.nil.vc (n : Int) (h : Heap) (R : Value → Heap → Prop) : Prop :=
 JoinP (fun (t13 : Bool) (h_1 : Heap) =>
 if t13 = true then
 R (.pointer none) h_1
 else
 ∃ (I : Int → Heap → Prop) (mu : Int → Heap → Nat), I n h_1 ∧ ∀ (n_1 : Int) (h_2 : Heap), I n_1 h_2 →
 if (decide (n_1 > 127)) = true then
 False
 else
 False)
 (fun J =>
 J true h)
theorem fields_Writer_Num.nil.walk {n : Int} {h : Heap} {R : Value → Heap → Prop} (hv : fields_Writer_Num.nil.vc n h R) : CallsH Tryz.prog F.fields_Writer_Num #[.pointer none, .int .u64 n] h R :=
 callsH_of_body (.seq .leaf (.seq (.seq (.join [(13, .one (.bool))] .leaf) (.cond (.seq .leaf .leaf) .leaf)) (.seq (.block (.loop [(1, .one (.int .u64))] (.seq (.seq .leaf (.cond .leaf .leaf)) (.block (.seq .leaf .leaf))))) (.seq .leaf (.seq .leaf .leaf))))) Tryz.func134 rfl rfl (Eq.mp (by kernel_rfl) hv)

def fields_Writer_Int.vc (w : Nat) (n : Int) (h : Heap) (R : Value → Heap → Prop) : Prop :=
 CallsH Tryz.prog F.fields_Writer_Num #[.pointer (some ⟨w, 0, none⟩), .int .u64 (IntKind.wrap .u64 (if 0 > n then 0 else n))] h fun v h_1 =>
 ∃ (t9 : Option Addr), v = .pointer t9 ∧
 R (.pointer t9) h_1
theorem fields_Writer_Int.walk {w : Nat} {n : Int} {h : Heap} {R : Value → Heap → Prop} (hv : fields_Writer_Int.vc w n h R) : CallsH Tryz.prog F.fields_Writer_Int #[.pointer (some ⟨w, 0, none⟩), .int .i64 n] h R :=
 callsH_of_body (.seq .leaf (.seq .leaf .leaf)) Tryz.func75 rfl rfl (Eq.mp (by kernel_rfl) hv)

def fields_Writer_Int.nil.vc (n : Int) (h : Heap) (R : Value → Heap → Prop) : Prop :=
 CallsH Tryz.prog F.fields_Writer_Num #[.pointer none, .int .u64 (IntKind.wrap .u64 (if 0 > n then 0 else n))] h fun v h_1 =>
 ∃ (t9 : Option Addr), v = .pointer t9 ∧
 R (.pointer t9) h_1
theorem fields_Writer_Int.nil.walk {n : Int} {h : Heap} {R : Value → Heap → Prop} (hv : fields_Writer_Int.nil.vc n h R) : CallsH Tryz.prog F.fields_Writer_Int #[.pointer none, .int .i64 n] h R :=
 callsH_of_body (.seq .leaf (.seq .leaf .leaf)) Tryz.func75 rfl rfl (Eq.mp (by kernel_rfl) hv)

def fields_Writer_Bool.vc (w : Nat) (is : Bool) (h : Heap) (R : Value → Heap → Prop) : Prop :=
 if is = true then
 CallsH Tryz.prog F.fields_Writer_Num #[.pointer (some ⟨w, 0, none⟩), .int .u64 1] h fun v h_1 =>
 ∃ (t7 : Option Addr), v = .pointer t7 ∧
 R (.pointer t7) h_1
 else
 CallsH Tryz.prog F.fields_Writer_Num #[.pointer (some ⟨w, 0, none⟩), .int .u64 0] h fun v_1 h_2 =>
 ∃ (t9 : Option Addr), v_1 = .pointer t9 ∧
 R (.pointer t9) h_2
theorem fields_Writer_Bool.walk {w : Nat} {is : Bool} {h : Heap} {R : Value → Heap → Prop} (hv : fields_Writer_Bool.vc w is h R) : CallsH Tryz.prog F.fields_Writer_Bool #[.pointer (some ⟨w, 0, none⟩), .bool is] h R :=
 callsH_of_body (.seq .leaf (.seq (.seq .leaf (.cond (.seq .leaf .leaf) .leaf)) (.seq .leaf .leaf))) Tryz.func179 rfl rfl (Eq.mp (by kernel_rfl) hv)

def fields_Writer_Bool.nil.vc (is : Bool) (h : Heap) (R : Value → Heap → Prop) : Prop :=
 if is = true then
 CallsH Tryz.prog F.fields_Writer_Num #[.pointer none, .int .u64 1] h fun v h_1 =>
 ∃ (t7 : Option Addr), v = .pointer t7 ∧
 R (.pointer t7) h_1
 else
 CallsH Tryz.prog F.fields_Writer_Num #[.pointer none, .int .u64 0] h fun v_1 h_2 =>
 ∃ (t9 : Option Addr), v_1 = .pointer t9 ∧
 R (.pointer t9) h_2
theorem fields_Writer_Bool.nil.walk {is : Bool} {h : Heap} {R : Value → Heap → Prop} (hv : fields_Writer_Bool.nil.vc is h R) : CallsH Tryz.prog F.fields_Writer_Bool #[.pointer none, .bool is] h R :=
 callsH_of_body (.seq .leaf (.seq (.seq .leaf (.cond (.seq .leaf .leaf) .leaf)) (.seq .leaf .leaf))) Tryz.func179 rfl rfl (Eq.mp (by kernel_rfl) hv)

def fields_Writer_Text.vc (w : Nat) (b_p : Option Addr) (b_l b_c : Nat) (h : Heap) (R : Value → Heap → Prop) : Prop :=
 CallsH Tryz.prog F.fields_Writer_Num #[.pointer (some ⟨w, 0, none⟩), .int .u64 (IntKind.wrap .u64 ((b_l : Nat) : Int))] h fun v h_1 =>
 ∃ (t9 : Option Addr), v = .pointer t9 ∧
 JoinP (fun (t17 : Bool) (h_2 : Heap) =>
 JoinP (fun (h_3 : Heap) =>
 R (.pointer (some ⟨w, 0, none⟩)) h_3)
 (fun J_1 =>
 if t17 = true then
 ∃ (t22_p : Option Addr) (t22_l t22_c : Nat), hcell h_2 ⟨w, 1, none⟩ = some (.slice t22_p t22_l t22_c) ∧
 denSem Tryz.prog (Builtin.append_ #[T.s_uint8, T.s_uint8] T.s_uint8 #[.slice t22_p t22_l t22_c, .slice b_p b_l b_c]) h_2 fun v_1 h_4 =>
 ∃ (t24_p : Option Addr) (t24_l t24_c : Nat), v_1 = .slice t24_p t24_l t24_c ∧
 StoreP h_4 ⟨w, 1, none⟩ (.slice t24_p t24_l t24_c) fun h_5 =>
 J_1 h_5
 else
 J_1 h_2))
 (fun J =>
 ∃ (t16 : Bool), hcell h_1 ⟨w, 0, none⟩ = some (.bool t16) ∧
 J t16 h_1)
theorem fields_Writer_Text.walk {w : Nat} {b_p : Option Addr} {b_l b_c : Nat} {h : Heap} {R : Value → Heap → Prop} (hv : fields_Writer_Text.vc w b_p b_l b_c h R) : CallsH Tryz.prog F.fields_Writer_Text #[.pointer (some ⟨w, 0, none⟩), .slice b_p b_l b_c] h R :=
 callsH_of_body (.seq .leaf (.seq .leaf (.seq (.seq (.join [(17, .one (.bool))] .leaf) (.join [] (.cond .leaf .leaf))) (.seq .leaf .leaf)))) Tryz.func133 rfl rfl (Eq.mp (by kernel_rfl) hv)

def fields_Writer_Text.nil.vc (b_p : Option Addr) (b_l b_c : Nat) (h : Heap) (R : Value → Heap → Prop) : Prop :=
 CallsH Tryz.prog F.fields_Writer_Num #[.pointer none, .int .u64 (IntKind.wrap .u64 ((b_l : Nat) : Int))] h fun v h_1 =>
 ∃ (t9 : Option Addr), v = .pointer t9 ∧
 JoinP (fun (t17 : Bool) (h_2 : Heap) =>
 JoinP (fun (h_3 : Heap) =>
 R (.pointer none) h_3)
 (fun J_1 =>
 if t17 = true then
 False
 else
 J_1 h_2))
 (fun J =>
 J false h_1)
theorem fields_Writer_Text.nil.walk {b_p : Option Addr} {b_l b_c : Nat} {h : Heap} {R : Value → Heap → Prop} (hv : fields_Writer_Text.nil.vc b_p b_l b_c h R) : CallsH Tryz.prog F.fields_Writer_Text #[.pointer none, .slice b_p b_l b_c] h R :=
 callsH_of_body (.seq .leaf (.seq .leaf (.seq (.seq (.join [(17, .one (.bool))] .leaf) (.join [] (.cond .leaf .leaf))) (.seq .leaf .leaf)))) Tryz.func133 rfl rfl (Eq.mp (by kernel_rfl) hv)

def fields_Writer_Bytes.vc (w : Nat) (h : Heap) (R : Value → Heap → Prop) : Prop :=
 ∃ (t8_p : Option Addr) (t8_l t8_c : Nat), hcell h ⟨w, 1, none⟩ = some (.slice t8_p t8_l t8_c) ∧
 CallsH Tryz.prog F.slices_Clone_s_byte_byte #[.slice t8_p t8_l t8_c] h fun v h_1 =>
 ∃ (t9_p : Option Addr) (t9_l t9_c : Nat), v = .slice t9_p t9_l t9_c ∧
 R (.slice t9_p t9_l t9_c) h_1
theorem fields_Writer_Bytes.walk {w : Nat} {h : Heap} {R : Value → Heap → Prop} (hv : fields_Writer_Bytes.vc w h R) : CallsH Tryz.prog F.fields_Writer_Bytes #[.pointer (some ⟨w, 0, none⟩)] h R :=
 callsH_of_body (.seq .leaf (.seq (.seq .leaf (.cond (.seq .leaf .leaf) .leaf)) (.seq .leaf .leaf))) Tryz.func76 rfl rfl (Eq.mp (by kernel_rfl) hv)

def fields_Writer_Bytes.nil.vc  (h : Heap) (R : Value → Heap → Prop) : Prop :=
 R (.slice none 0 0) h
theorem fields_Writer_Bytes.nil.walk  {h : Heap} {R : Value → Heap → Prop} (hv : fields_Writer_Bytes.nil.vc h R) : CallsH Tryz.prog F.fields_Writer_Bytes #[.pointer none] h R :=
 callsH_of_body (.seq .leaf (.seq (.seq .leaf (.cond (.seq .leaf .leaf) .leaf)) (.seq .leaf .leaf))) Tryz.func76 rfl rfl (Eq.mp (by kernel_rfl) hv)

def fields_fault_fail.vc (f : Nat) (e : Int) (h : Heap) (R : Value → Heap → Prop) : Prop :=
 ∃ (t7 : Int), hcell h ⟨f, 0, none⟩ = some (.int .i64 t7) ∧
 if (t7 == 0) = true then
 StoreP h ⟨f, 0, none⟩ (.int .i64 e) fun h_1 =>
 R (.tuple #[]) h_1
 else
 R (.tuple #[]) h
theorem fields_fault_fail.walk {f : Nat} {e : Int} {h : Heap} {R : Value → Heap → Prop} (hv : fields_fault_fail.vc f e h R) : CallsH Tryz.prog F.fields_fault_fail #[.pointer (some ⟨f, 0, none⟩), .int .i64 e] h R :=
 callsH_of_body (.seq .leaf (.cond .leaf .leaf)) Tryz.func160 rfl rfl (Eq.mp (by kernel_rfl) hv)

def fields_Read.vc (b_p : Option Addr) (b_l b_c : Nat) (h : Heap) (R : Value → Heap → Prop) : Prop :=
 CallsH Tryz.prog F.slices_Clone_s_byte_byte #[.slice b_p b_l b_c] h fun v h_1 =>
 ∃ (t4_p : Option Addr) (t4_l t4_c : Nat), v = .slice t4_p t4_l t4_c ∧
 NewP h_1 (.cells #[.int .i64 0, .bool true, .slice t4_p t4_l t4_c] T.fields_Reader) fun b h_2 =>
 R (.pointer (some ⟨b, 0, none⟩)) h_2
theorem fields_Read.walk {b_p : Option Addr} {b_l b_c : Nat} {h : Heap} {R : Value → Heap → Prop} (hv : fields_Read.vc b_p b_l b_c h R) : CallsH Tryz.prog F.fields_Read #[.slice b_p b_l b_c] h R :=
 callsH_of_body (.seq .leaf (.seq .leaf .leaf)) Tryz.func95 rfl rfl (Eq.mp (by kernel_rfl) hv)

def fields_Reader_fine.vc (r : Nat) (h : Heap) (R : Value → Heap → Prop) : Prop :=
 ∃ (t9 : Bool), hcell h ⟨r, 1, none⟩ = some (.bool t9) ∧
 if t9 = true then
 ∃ (t16 : Int), hcell h ⟨r, 0, none⟩ = some (.int .i64 t16) ∧
 R (.bool (t16 == 0)) h
 else
 R (.bool false) h
theorem fields_Reader_fine.walk {r : Nat} {h : Heap} {R : Value → Heap → Prop} (hv : fields_Reader_fine.vc r h R) : CallsH Tryz.prog F.fields_Reader_fine #[.pointer (some ⟨r, 0, none⟩)] h R :=
 callsH_of_body (.seq .leaf (.seq .leaf .leaf)) Tryz.func159 rfl rfl (Eq.mp (by kernel_rfl) hv)

def fields_Reader_fine.nil.vc  (h : Heap) (R : Value → Heap → Prop) : Prop :=
 R (.bool false) h
theorem fields_Reader_fine.nil.walk  {h : Heap} {R : Value → Heap → Prop} (hv : fields_Reader_fine.nil.vc h R) : CallsH Tryz.prog F.fields_Reader_fine #[.pointer none] h R :=
 callsH_of_body (.seq .leaf (.seq .leaf .leaf)) Tryz.func159 rfl rfl (Eq.mp (by kernel_rfl) hv)

def fields_Reader_Num.vc (r : Nat) (h : Heap) (R : Value → Heap → Prop) : Prop :=
 JoinP (fun (h_1 : Heap) =>
 R (.int .u64 0) h_1)
 (fun J =>
 ∃ (I : Int → Int → Heap → Prop) (mu : Int → Int → Heap → Nat), I 0 0 h ∧ ∀ (n : Int) (i : Int) (h_2 : Heap), I n i h_2 →
 CallsH Tryz.prog F.fields_Reader_fine #[.pointer (some ⟨r, 0, none⟩)] h_2 fun v h_3 =>
 ∃ (t7 : Bool), v = .bool t7 ∧
 if t7 = true then
 ∃ (t13_p : Option Addr) (t13_l t13_c : Nat), hcell h_3 ⟨r, 2, none⟩ = some (.slice t13_p t13_l t13_c) ∧
 if (((t13_l : Nat) : Int) == 0) = true then
 CallsH Tryz.prog F.fields_fault_fail #[.pointer (some ⟨r, 0, none⟩), .int .i64 8] h_3 fun v_1 h_4 =>
 v_1 = .tuple #[] ∧
 J h_4
 else
 ∃ (t23_p : Option Addr) (t23_l t23_c : Nat), hcell h_3 ⟨r, 2, none⟩ = some (.slice t23_p t23_l t23_c) ∧
 ((0 : Int) ≤ 0 ∧ 0 < ((t23_l : Nat) : Int)) ∧
 onSome t23_p fun a =>
 ∃ (t25 : Int), hcell h_3 (a.add (Int.toNat 0 * 1)) = some (.int .u8 t25) ∧
 ∃ (t30_p : Option Addr) (t30_l t30_c : Nat), hcell h_3 ⟨r, 2, none⟩ = some (.slice t30_p t30_l t30_c) ∧
 ((0 : Int) ≤ 1 ∧ 1 ≤ ((t30_l : Nat) : Int)) ∧ 
 StoreP h_3 ⟨r, 2, none⟩ (.slice (slBase t30_p t30_c (Int.toNat 1) 1) (t30_l - (Int.toNat 1)) (t30_c - (Int.toNat 1))) fun h_5 =>
 JoinP (fun (t52 : Bool) (h_6 : Heap) =>
 if t52 = true then
 CallsH Tryz.prog F.fields_fault_fail #[.pointer (some ⟨r, 0, none⟩), .int .i64 3] h_6 fun v_2 h_7 =>
 v_2 = .tuple #[] ∧
 J h_7
 else
 if IntKind.wrap .i64 (7 * i) < 0 then False else
 if ((IntKind.wrap .u8 ((BitVec.ofInt (IntKind.bits .u8) t25 &&& BitVec.ofInt (IntKind.bits .u8) 128).toNat : Int)) == 0) = true then
 R (.int .u64 (IntKind.wrap .u64 ((BitVec.ofInt (IntKind.bits .u64) n ||| BitVec.ofInt (IntKind.bits .u64) (IntKind.wrap .u64 ((IntKind.wrap .u64 (IntKind.wrap .u8 ((BitVec.ofInt (IntKind.bits .u8) t25 &&& BitVec.ofInt (IntKind.bits .u8) 127).toNat : Int))) * 2 ^ min (Int.toNat (IntKind.wrap .i64 (7 * i))) (IntKind.bits .u64)))).toNat : Int))) h_6
 else
 (I (IntKind.wrap .u64 ((BitVec.ofInt (IntKind.bits .u64) n ||| BitVec.ofInt (IntKind.bits .u64) (IntKind.wrap .u64 ((IntKind.wrap .u64 (IntKind.wrap .u8 ((BitVec.ofInt (IntKind.bits .u8) t25 &&& BitVec.ofInt (IntKind.bits .u8) 127).toNat : Int))) * 2 ^ min (Int.toNat (IntKind.wrap .i64 (7 * i))) (IntKind.bits .u64)))).toNat : Int)) (IntKind.wrap .i64 (i + 1)) h_6 ∧ mu (IntKind.wrap .u64 ((BitVec.ofInt (IntKind.bits .u64) n ||| BitVec.ofInt (IntKind.bits .u64) (IntKind.wrap .u64 ((IntKind.wrap .u64 (IntKind.wrap .u8 ((BitVec.ofInt (IntKind.bits .u8) t25 &&& BitVec.ofInt (IntKind.bits .u8) 127).toNat : Int))) * 2 ^ min (Int.toNat (IntKind.wrap .i64 (7 * i))) (IntKind.bits .u64)))).toNat : Int)) (IntKind.wrap .i64 (i + 1)) h_6 < mu n i h_2))
 (fun J_1 =>
 if (i == 10) = true then
 J_1 true h_5
 else
 if ((IntKind.wrap .i64 (i * 7)) == 63) = true then
 if (decide (t25 > 1)) = true then
 J_1 true h_5
 else
 if (t25 == 0) = true then
 J_1 (decide (i > 0)) h_5
 else
 J_1 false h_5
 else
 if (t25 == 0) = true then
 J_1 (decide (i > 0)) h_5
 else
 J_1 false h_5)
 else
 J h_3)
theorem fields_Reader_Num.walk {r : Nat} {h : Heap} {R : Value → Heap → Prop} (hv : fields_Reader_Num.vc r h R) : CallsH Tryz.prog F.fields_Reader_Num #[.pointer (some ⟨r, 0, none⟩)] h R :=
 callsH_of_body (.seq .leaf (.seq .leaf (.seq (.seq .leaf (.join [] (.block (.loop [(3, .one (.int .u64)), (4, .one (.int .i64))] (.seq (.seq .leaf (.cond .leaf .leaf)) (.seq (.block (.seq (.seq .leaf (.cond (.seq .leaf .leaf) .leaf)) (.seq .leaf (.seq .leaf (.seq (.seq (.join [(52, .one (.bool))] .leaf) (.cond (.seq .leaf .leaf) .leaf)) (.seq .leaf (.seq .leaf (.cond (.seq .leaf .leaf) .leaf)))))))) .leaf)))))) (.seq .leaf .leaf)))) Tryz.func138 rfl rfl (Eq.mp (by kernel_rfl) hv)

def fields_Reader_Num.nil.vc  (h : Heap) (R : Value → Heap → Prop) : Prop :=
 JoinP (fun (h_1 : Heap) =>
 R (.int .u64 0) h_1)
 (fun J =>
 ∃ (I : Int → Int → Heap → Prop) (mu : Int → Int → Heap → Nat), I 0 0 h ∧ ∀ (n : Int) (i : Int) (h_2 : Heap), I n i h_2 →
 CallsH Tryz.prog F.fields_Reader_fine #[.pointer none] h_2 fun v h_3 =>
 ∃ (t7 : Bool), v = .bool t7 ∧
 if t7 = true then
 False
 else
 J h_3)
theorem fields_Reader_Num.nil.walk  {h : Heap} {R : Value → Heap → Prop} (hv : fields_Reader_Num.nil.vc h R) : CallsH Tryz.prog F.fields_Reader_Num #[.pointer none] h R :=
 callsH_of_body (.seq .leaf (.seq .leaf (.seq (.seq .leaf (.join [] (.block (.loop [(3, .one (.int .u64)), (4, .one (.int .i64))] (.seq (.seq .leaf (.cond .leaf .leaf)) (.seq (.block (.seq (.seq .leaf (.cond (.seq .leaf .leaf) .leaf)) (.seq .leaf (.seq .leaf (.seq (.seq (.join [(52, .one (.bool))] .leaf) (.cond (.seq .leaf .leaf) .leaf)) (.seq .leaf (.seq .leaf (.cond (.seq .leaf .leaf) .leaf)))))))) .leaf)))))) (.seq .leaf .leaf)))) Tryz.func138 rfl rfl (Eq.mp (by kernel_rfl) hv)

def fields_Reader_atMost.vc (r : Nat) (top : Int) (h : Heap) (R : Value → Heap → Prop) : Prop :=
 CallsH Tryz.prog F.fields_Reader_Num #[.pointer (some ⟨r, 0, none⟩)] h fun v h_1 =>
 ∃ (t7 : Int), v = .int .u64 t7 ∧
 if (decide (t7 > top)) = true then
 CallsH Tryz.prog F.fields_fault_fail #[.pointer (some ⟨r, 0, none⟩), .int .i64 3] h_1 fun v_1 h_2 =>
 v_1 = .tuple #[] ∧
 R (.int .u64 0) h_2
 else
 R (.int .u64 t7) h_1
theorem fields_Reader_atMost.walk {r : Nat} {top : Int} {h : Heap} {R : Value → Heap → Prop} (hv : fields_Reader_atMost.vc r top h R) : CallsH Tryz.prog F.fields_Reader_atMost #[.pointer (some ⟨r, 0, none⟩), .int .u64 top] h R :=
 callsH_of_body (.seq .leaf (.seq .leaf (.seq (.seq .leaf (.cond (.seq .leaf (.seq .leaf .leaf)) .leaf)) (.seq .leaf .leaf)))) Tryz.func161 rfl rfl (Eq.mp (by kernel_rfl) hv)

def fields_Reader_atMost.nil.vc (top : Int) (h : Heap) (R : Value → Heap → Prop) : Prop :=
 CallsH Tryz.prog F.fields_Reader_Num #[.pointer none] h fun v h_1 =>
 ∃ (t7 : Int), v = .int .u64 t7 ∧
 if (decide (t7 > top)) = true then
 False
 else
 R (.int .u64 t7) h_1
theorem fields_Reader_atMost.nil.walk {top : Int} {h : Heap} {R : Value → Heap → Prop} (hv : fields_Reader_atMost.nil.vc top h R) : CallsH Tryz.prog F.fields_Reader_atMost #[.pointer none, .int .u64 top] h R :=
 callsH_of_body (.seq .leaf (.seq .leaf (.seq (.seq .leaf (.cond (.seq .leaf (.seq .leaf .leaf)) .leaf)) (.seq .leaf .leaf)))) Tryz.func161 rfl rfl (Eq.mp (by kernel_rfl) hv)

def fields_Reader_Int.vc (r : Nat) (h : Heap) (R : Value → Heap → Prop) : Prop :=
 CallsH Tryz.prog F.fields_Reader_atMost #[.pointer (some ⟨r, 0, none⟩), .int .u64 1099511627776] h fun v h_1 =>
 ∃ (t4 : Int), v = .int .u64 t4 ∧
 R (.int .i64 (IntKind.wrap .i64 t4)) h_1
theorem fields_Reader_Int.walk {r : Nat} {h : Heap} {R : Value → Heap → Prop} (hv : fields_Reader_Int.vc r h R) : CallsH Tryz.prog F.fields_Reader_Int #[.pointer (some ⟨r, 0, none⟩)] h R :=
 callsH_of_body (.seq .leaf (.seq .leaf .leaf)) Tryz.func98 rfl rfl (Eq.mp (by kernel_rfl) hv)

def fields_Reader_Bool.vc (r : Nat) (h : Heap) (R : Value → Heap → Prop) : Prop :=
 CallsH Tryz.prog F.fields_Reader_atMost #[.pointer (some ⟨r, 0, none⟩), .int .u64 1] h fun v h_1 =>
 ∃ (t4 : Int), v = .int .u64 t4 ∧
 R (.bool (t4 == 1)) h_1
theorem fields_Reader_Bool.walk {r : Nat} {h : Heap} {R : Value → Heap → Prop} (hv : fields_Reader_Bool.vc r h R) : CallsH Tryz.prog F.fields_Reader_Bool #[.pointer (some ⟨r, 0, none⟩)] h R :=
 callsH_of_body (.seq .leaf (.seq .leaf .leaf)) Tryz.func233 rfl rfl (Eq.mp (by kernel_rfl) hv)

def fields_Reader_Text.vc (r : Nat) (h : Heap) (R : Value → Heap → Prop) : Prop :=
 CallsH Tryz.prog F.fields_Reader_Num #[.pointer (some ⟨r, 0, none⟩)] h fun v h_1 =>
 ∃ (t6 : Int), v = .int .u64 t6 ∧
 CallsH Tryz.prog F.fields_Reader_fine #[.pointer (some ⟨r, 0, none⟩)] h_1 fun v_1 h_2 =>
 ∃ (t8 : Bool), v_1 = .bool t8 ∧
 if (!t8) = true then
 R (.slice none 0 0) h_2
 else
 ∃ (t14_p : Option Addr) (t14_l t14_c : Nat), hcell h_2 ⟨r, 2, none⟩ = some (.slice t14_p t14_l t14_c) ∧
 if (decide (t6 > (IntKind.wrap .u64 ((t14_l : Nat) : Int)))) = true then
 CallsH Tryz.prog F.fields_fault_fail #[.pointer (some ⟨r, 0, none⟩), .int .i64 8] h_2 fun v_2 h_3 =>
 v_2 = .tuple #[] ∧
 R (.slice none 0 0) h_3
 else
 ∃ (t25_p : Option Addr) (t25_l t25_c : Nat), hcell h_2 ⟨r, 2, none⟩ = some (.slice t25_p t25_l t25_c) ∧
 ((0 : Int) ≤ t6 ∧ t6 ≤ ((t25_c : Nat) : Int)) ∧ 
 CallsH Tryz.prog F.slices_Clone_s_byte_byte #[.slice (slBase t25_p t25_c 0 1) ((Int.toNat t6) - 0) (t25_c - 0)] h_2 fun v_3 h_4 =>
 ∃ (t28_p : Option Addr) (t28_l t28_c : Nat), v_3 = .slice t28_p t28_l t28_c ∧
 ∃ (t33_p : Option Addr) (t33_l t33_c : Nat), hcell h_4 ⟨r, 2, none⟩ = some (.slice t33_p t33_l t33_c) ∧
 ((0 : Int) ≤ t6 ∧ t6 ≤ ((t33_l : Nat) : Int)) ∧ 
 StoreP h_4 ⟨r, 2, none⟩ (.slice (slBase t33_p t33_c (Int.toNat t6) 1) (t33_l - (Int.toNat t6)) (t33_c - (Int.toNat t6))) fun h_5 =>
 R (.slice t28_p t28_l t28_c) h_5
theorem fields_Reader_Text.walk {r : Nat} {h : Heap} {R : Value → Heap → Prop} (hv : fields_Reader_Text.vc r h R) : CallsH Tryz.prog F.fields_Reader_Text #[.pointer (some ⟨r, 0, none⟩)] h R :=
 callsH_of_body (.seq .leaf (.seq .leaf (.seq (.seq .leaf (.cond (.seq .leaf .leaf) .leaf)) (.seq (.seq .leaf (.cond (.seq .leaf (.seq .leaf .leaf)) .leaf)) (.seq .leaf (.seq .leaf (.seq .leaf .leaf))))))) Tryz.func97 rfl rfl (Eq.mp (by kernel_rfl) hv)

def fields_Reader_End.vc (r : Nat) (h : Heap) (R : Value → Heap → Prop) : Prop :=
 JoinP (fun (t3 : Bool) (h_1 : Heap) =>
 if t3 = true then
 R (.int .i64 6) h_1
 else
 ∃ (t18 : Int), hcell h_1 ⟨r, 0, none⟩ = some (.int .i64 t18) ∧
 if (t18 != 0) = true then
 ∃ (t24 : Int), hcell h_1 ⟨r, 0, none⟩ = some (.int .i64 t24) ∧
 R (.int .i64 t24) h_1
 else
 ∃ (t29_p : Option Addr) (t29_l t29_c : Nat), hcell h_1 ⟨r, 2, none⟩ = some (.slice t29_p t29_l t29_c) ∧
 if (decide (((t29_l : Nat) : Int) > 0)) = true then
 R (.int .i64 2) h_1
 else
 R (.int .i64 0) h_1)
 (fun J =>
 ∃ (t10 : Bool), hcell h ⟨r, 1, none⟩ = some (.bool t10) ∧
 J (!t10) h)
theorem fields_Reader_End.walk {r : Nat} {h : Heap} {R : Value → Heap → Prop} (hv : fields_Reader_End.vc r h R) : CallsH Tryz.prog F.fields_Reader_End #[.pointer (some ⟨r, 0, none⟩)] h R :=
 callsH_of_body (.seq .leaf (.seq (.block (.seq (.join [(3, .one (.bool))] .leaf) (.cond (.seq .leaf .leaf) (.seq .leaf (.cond (.seq .leaf .leaf) (.seq .leaf (.cond (.seq .leaf .leaf) .leaf))))))) (.seq .leaf .leaf))) Tryz.func99 rfl rfl (Eq.mp (by kernel_rfl) hv)

def fields_Reader_End.nil.vc  (h : Heap) (R : Value → Heap → Prop) : Prop :=
 JoinP (fun (t3 : Bool) (h_1 : Heap) =>
 if t3 = true then
 R (.int .i64 6) h_1
 else
 False)
 (fun J =>
 J true h)
theorem fields_Reader_End.nil.walk  {h : Heap} {R : Value → Heap → Prop} (hv : fields_Reader_End.nil.vc h R) : CallsH Tryz.prog F.fields_Reader_End #[.pointer none] h R :=
 callsH_of_body (.seq .leaf (.seq (.block (.seq (.join [(3, .one (.bool))] .leaf) (.cond (.seq .leaf .leaf) (.seq .leaf (.cond (.seq .leaf .leaf) (.seq .leaf (.cond (.seq .leaf .leaf) .leaf))))))) (.seq .leaf .leaf))) Tryz.func99 rfl rfl (Eq.mp (by kernel_rfl) hv)

end Go.Proofs.YtgccegnmggjkjaaGreatDoor

/-
  What is proved here: bytes in memory: a clone, a literal. No condition.
-/
set_option maxRecDepth 100000
namespace Go.Proofs.YtgccegnmggjkjaaGreatDoor
open Go.Den
namespace Fld
variable {h h0 : Heap} {bs : List UInt8} {R : Value → Heap → Prop}
theorem tU : SlTy Tryz.prog T.s_uint8 T.uint8 1 1 (.int .u8 0) := ⟨by kernel_rfl, by kernel_rfl, rfl⟩
theorem uU : Tryz.prog.underlying T.s_uint8 = some (.slice T.uint8) := by kernel_rfl
theorem u8 : Tryz.prog.underlying T.uint8 = some (.int .u8) := by kernel_rfl
theorem uS : Tryz.prog.underlying T.string = some .string := by kernel_rfl
theorem conv {p : Option Addr} {n c : Nat} (hr : Row h p (bc bs)) (hn : n = bs.length) : ConvV Tryz.prog T.s_uint8 T.string (.slice p n c) h (str bs) := conv_str uU u8 uS hr hn

theorem clone_ok {p : Option Addr} {c n : Nat} (hr : Row h p (bc bs)) (hn : n = bs.length) (hl : bs.length ≤ 70368744177664)
    (hk : ∀ p' c' h', Own h' p' bs.length c' 1 (bc bs) → Fr (fun _ => False) h h' → (∀ x, inBlk p' x → h.size ≤ x) → R (.slice p' bs.length c') h') :
    CallsH Tryz.prog F.slices_Clone_s_byte_byte #[.slice p n c] h R := by
  subst hn
  refine slices_Clone_s_byte_byte.walk ?_
  unfold slices_Clone_s_byte_byte.vc
  cases p with
  | none =>
    have : bs = [] := by
      rcases hr with hr | ⟨a, e, _⟩
      · cases bs with
        | nil => rfl
        | cons b bs => cases hr
      · cases e
    subst this
    exact hk none 0 h (.nil rfl rfl rfl rfl) (Fr.refl _ _) (fun x ⟨a, e, _⟩ => by cases e)
  | some a =>
    simp only [Option.isNone_some, Bool.false_eq_true, if_false]
    refine newP_of ?_
    have f1 : Fr (fun _ => False) h (h.push (.cells #[] T.uint8)) := Fr.push _ _
    refine den_append (cs := []) tU uU (.row h.size 0 #[] T.uint8 rfl push_new (Nat.le_refl _) (by simp) rfl (fun j v hj => by cases hj)) (hr.frame f1 (fun _ _ => id)) (by rw [bc_len, Nat.mul_one]) (bc_one bs) (by omega) (by omega) ?_
    intro p' c' h' o1 _ f2 g
    rw [Nat.zero_add, List.nil_append] at o1
    refine ⟨_, _, _, rfl, ?_⟩
    rw [Nat.zero_add]
    have g' : ∀ x, inBlk p' x → h.size ≤ x := fun x hx => by
      rcases g x hx with ⟨a, e, rfl⟩ | h2
      · cases e; exact Nat.le_refl _
      · simp at h2; omega
    exact hk p' c' h' o1 (f1.step f2 (fun c hc ⟨a, e, e2⟩ => by cases e; simp at e2; omega)) g'

/-- bytes of a literal -/
theorem lit_ok {bs : List UInt8} {n : Nat} {cs : Array Value} {K : Option Addr → Nat → Nat → Heap → Prop} (hc : cs = (bc bs).toArray) (hk : ∀ h', Row h' (some ⟨h.size, 0, none⟩) (bc bs) → Fr (fun _ => False) h h' → K (some ⟨h.size, 0, none⟩) n n h') :
    NewP h (.cells cs T.uint8) fun b h_4 => denSem Tryz.prog (convert T.s_uint8 T.s_uint8 (.slice (some ⟨b, 0, none⟩) n n)) h_4 fun v h_5 => ∃ (p : Option Addr) (l c : Nat), v = .slice p l c ∧ K p l c h_5 := by
  subst hc
  refine newP_of (den_lit uU u8 (a := ⟨h.size, 0, none⟩) push_new fun h4 fz4 hb4 sz4 ot4 => ⟨_, _, _, rfl, ?_⟩)
  refine hk h4 (.inr ⟨_, rfl, heldL_blk hb4 (fun j v hj => by rw [Nat.zero_add]; simpa using hj)⟩) ⟨by rw [sz4]; simp, fun c hc _ => by rw [ot4 c (by simp; omega), Array.getElem?_push, if_neg (by omega)]⟩

end Fld
end Go.Proofs.YtgccegnmggjkjaaGreatDoor

/-
  What is proved here: plain facts on numbers written with seven bits a byte, there and back. No program in sight. No condition.
-/
set_option maxRecDepth 100000
namespace Go.Fields

/-- a number's bytes; so many at most, and one -/
def encN : Nat → Nat → List UInt8
  | 0, n => [UInt8.ofNat n]
  | f + 1, n => if n > 127 then UInt8.ofNat (n % 128 + 128) :: encN f (n / 128) else [UInt8.ofNat n]
def encNum (n : Nat) : List UInt8 := encN 9 n
theorem encN_mono : ∀ (f n : Nat), n < 128 ^ (f + 1) → encN (f + 1) n = encN f n
  | 0, n, h => by
    unfold encN
    rw [if_neg (by omega)]
  | f + 1, n, h => by
    rw [show encN (f + 1 + 1) n = if n > 127 then UInt8.ofNat (n % 128 + 128) :: encN (f + 1) (n / 128) else [UInt8.ofNat n] from rfl,
      show encN (f + 1) n = if n > 127 then UInt8.ofNat (n % 128 + 128) :: encN f (n / 128) else [UInt8.ofNat n] from rfl]
    split
    · rw [encN_mono f (n / 128) (by rw [Nat.pow_succ] at h; omega)]
    · rfl
theorem encNum_step {n : Nat} (h : n < 18446744073709551616) : encNum n = if n > 127 then UInt8.ofNat (n % 128 + 128) :: encNum (n / 128) else [UInt8.ofNat n] := by
  unfold encNum
  rw [encN]
  split
  · rw [← encN_mono 8 (n / 128) (by omega)]
  · rfl
theorem encN_len : ∀ (f n : Nat), 1 ≤ (encN f n).length ∧ (encN f n).length ≤ f + 1
  | 0, n => by simp [encN]
  | f + 1, n => by
    have := encN_len f (n / 128)
    rw [encN]; split
    · simp only [List.length_cons]; omega
    · simp
theorem encNum_len (n : Nat) : 1 ≤ (encNum n).length ∧ (encNum n).length ≤ 10 := encN_len 9 n
/-- how many bytes -/
def sizeN : Nat → Nat → Nat
  | 0, _ => 1
  | f + 1, n => if n > 127 then sizeN f (n / 128) + 1 else 1
theorem encN_size : ∀ (f n : Nat), (encN f n).length = sizeN f n
  | 0, n => rfl
  | f + 1, n => by
    rw [encN, sizeN]; split
    · rw [List.length_cons, encN_size]
    · rfl
theorem sizeN_mono : ∀ (f n m : Nat), n ≤ m → sizeN f n ≤ sizeN f m
  | 0, _, _, _ => Nat.le_refl _
  | f + 1, n, m, h => by
    rw [sizeN, sizeN]
    have := sizeN_mono f (n / 128) (m / 128) (Nat.div_le_div_right h)
    split
    · rw [if_pos (by omega)]; omega
    · split <;> omega

/-- a number is read: what it is, the fault, what is left -/
def rdN : Nat → Nat → List UInt8 → Nat × Int × List UInt8
  | _, _, [] => (0, 8, [])
  | i, n, c :: bs =>
    if i = 10 ∨ (i = 9 ∧ c.toNat > 1) ∨ (c.toNat = 0 ∧ i > 0) then (0, 3, bs)
    else if c.toNat < 128 then (n + c.toNat % 128 * 2 ^ (7 * i), 0, bs)
    else rdN (i + 1) (n + c.toNat % 128 * 2 ^ (7 * i)) bs
def readNum (e : Int) (bs : List UInt8) : Nat × Int × List UInt8 := if e = 0 then rdN 0 0 bs else (0, e, bs)

theorem rdN_lt : ∀ (bs : List UInt8) (i n : Nat), i ≤ 10 → n < 2 ^ (7 * i) → n < 18446744073709551616 → (rdN i n bs).1 < 18446744073709551616
  | [], _, _, _, _, _ => by simp [rdN]
  | c :: bs, i, n, hi, hn, hn2 => by
    rw [rdN]
    split
    · simp
    · rename_i hno
      have hc : c.toNat % 128 < 128 := Nat.mod_lt _ (by omega)
      have hsum : n + c.toNat % 128 * 2 ^ (7 * i) < 18446744073709551616 ∧ n + c.toNat % 128 * 2 ^ (7 * i) < 2 ^ (7 * (i + 1)) := by
        have hp : (2 : Nat) ^ (7 * (i + 1)) = 128 * 2 ^ (7 * i) := by rw [Nat.mul_add, Nat.pow_add, Nat.mul_comm]
        have h1 : (c.toNat % 128 + 1) * 2 ^ (7 * i) ≤ 128 * 2 ^ (7 * i) := Nat.mul_le_mul_right _ (by omega)
        rw [Nat.add_mul] at h1
        refine ⟨?_, by omega⟩
        by_cases h9 : i = 9
        · subst h9
          have : c.toNat ≤ 1 := by omega
          have : c.toNat % 128 ≤ 1 := by omega
          omega
        · have : (2 : Nat) ^ (7 * (i + 1)) ≤ 2 ^ 63 := Nat.pow_le_pow_right (by omega) (by omega)
          omega
      split
      · exact hsum.1
      · exact rdN_lt bs (i + 1) _ (by omega) hsum.2 hsum.1
theorem readNum_lt (e : Int) (bs : List UInt8) : (readNum e bs).1 < 18446744073709551616 := by
  unfold readNum
  split
  · exact rdN_lt bs 0 0 (by omega) (by simp) (by omega)
  · simp
theorem rdN_len : ∀ (bs : List UInt8) (i n : Nat), (rdN i n bs).2.2.length ≤ bs.length
  | [], _, _ => by simp [rdN]
  | c :: bs, i, n => by
    rw [rdN]
    split
    · simp
    · split
      · simp
      · have := rdN_len bs (i + 1) (n + c.toNat % 128 * 2 ^ (7 * i)); simp only [List.length_cons]; omega

/-- there and back -/
theorem rdN_enc : ∀ (f n i acc : Nat) (rest : List UInt8), i + f = 9 → n * 2 ^ (7 * i) < 18446744073709551616 → (n = 0 → i = 0) → rdN i acc (encN f n ++ rest) = (acc + n * 2 ^ (7 * i), 0, rest)
  | 0, n, i, acc, rest, hf, hn, h0 => by
    have hi : i = 9 := by omega
    subst hi
    have hn2 : n < 2 := by
      have : n * 2 ^ 63 < 2 * 2 ^ 63 := hn
      exact Nat.lt_of_mul_lt_mul_right this
    have hne : n ≠ 0 := fun e => by have := h0 e; omega
    obtain rfl : n = 1 := by omega
    simp [encN, rdN]
  | f + 1, n, i, acc, rest, hf, hn, h0 => by
    have hp : (2 : Nat) ^ (7 * (i + 1)) = 128 * 2 ^ (7 * i) := by rw [Nat.mul_add, Nat.pow_add, Nat.mul_comm]
    have hn' : n < 18446744073709551616 := by
      have : n * 1 ≤ n * 2 ^ (7 * i) := Nat.mul_le_mul_left _ (Nat.two_pow_pos _)
      omega
    rw [encN]
    split
    · rename_i hgt
      rw [List.cons_append, rdN]
      have hc : (UInt8.ofNat (n % 128 + 128)).toNat = n % 128 + 128 := by rw [UInt8.toNat_ofNat']; omega
      rw [hc, if_neg (by omega), if_neg (by omega)]
      have e1 : (n % 128 + 128) % 128 = n % 128 := by omega
      have hdm : n = 128 * (n / 128) + n % 128 := (Nat.div_add_mod n 128).symm
      rw [rdN_enc f (n / 128) (i + 1) _ rest (by omega) ?_ (fun e => by omega), e1]
      · refine Prod.ext ?_ rfl
        simp only
        rw [hp]
        have : n / 128 * (128 * 2 ^ (7 * i)) = (128 * (n / 128)) * 2 ^ (7 * i) := by rw [Nat.mul_comm 128 (n / 128), Nat.mul_assoc]
        rw [this, Nat.add_assoc, ← Nat.add_mul, Nat.add_comm (n % 128), ← hdm]
      · rw [hp]
        have : n / 128 * (128 * 2 ^ (7 * i)) = (128 * (n / 128)) * 2 ^ (7 * i) := by rw [Nat.mul_comm 128 (n / 128), Nat.mul_assoc]
        rw [this]
        refine Nat.lt_of_le_of_lt (Nat.mul_le_mul_right _ ?_) hn
        omega
    · rename_i hle
      rw [List.cons_append, List.nil_append, rdN]
      have hc : (UInt8.ofNat n).toNat = n := by rw [UInt8.toNat_ofNat']; omega
      rw [hc, if_neg (by omega), if_pos (by omega), Nat.mod_eq_of_lt (by omega)]
theorem readNum_enc {n : Nat} (hn : n < 18446744073709551616) (rest : List UInt8) : readNum 0 (encNum n ++ rest) = (n, 0, rest) := by
  unfold readNum encNum
  rw [if_pos rfl, rdN_enc 9 n 0 0 rest (by omega) (by simpa using hn) (fun _ => rfl)]
  simp
theorem encNum_inj {n m : Nat} (hn : n < 18446744073709551616) (hm : m < 18446744073709551616) (h : encNum n = encNum m) : n = m := by
  have h1 := readNum_enc hn []
  have h2 := readNum_enc hm []
  rw [h, h2] at h1
  exact (congrArg Prod.fst h1).symm
/-- cut, it is too short -/
theorem rdN_cut : ∀ (f n i acc k : Nat), i + f = 9 → n < 18446744073709551616 → (n * 2 ^ (7 * i) < 18446744073709551616) → k < (encN f n).length → rdN i acc ((encN f n).take k) = (0, 8, [])
  | f, n, i, acc, 0, _, _, _, _ => by simp [rdN]
  | 0, n, i, acc, k + 1, _, _, _, hk => by simp [encN] at hk
  | f + 1, n, i, acc, k + 1, hf, hn, hn2, hk => by
    rw [encN] at hk ⊢
    split at hk
    · rename_i hgt
      rw [if_pos hgt, List.take_succ_cons, rdN]
      have hc : (UInt8.ofNat (n % 128 + 128)).toNat = n % 128 + 128 := by rw [UInt8.toNat_ofNat']; omega
      have hp : (2 : Nat) ^ (7 * (i + 1)) = 128 * 2 ^ (7 * i) := by rw [Nat.mul_add, Nat.pow_add, Nat.mul_comm]
      rw [hc, if_neg (by omega), if_neg (by omega)]
      refine rdN_cut f (n / 128) (i + 1) _ k (by omega) (by omega) ?_ (by simpa using hk)
      rw [hp]
      have : n / 128 * (128 * 2 ^ (7 * i)) = (128 * (n / 128)) * 2 ^ (7 * i) := by rw [Nat.mul_comm 128 (n / 128), Nat.mul_assoc]
      rw [this]
      refine Nat.lt_of_le_of_lt (Nat.mul_le_mul_right _ ?_) hn2
      omega
    · simp at hk
theorem readNum_cut {n k : Nat} (hn : n < 18446744073709551616) (hk : k < (encNum n).length) : readNum 0 ((encNum n).take k) = (0, 8, []) := by
  unfold readNum encNum at *
  rw [if_pos rfl]
  exact rdN_cut 9 n 0 0 k (by omega) hn (by simpa using hn) hk
end Go.Fields

/-
  What is proved here: plain facts on numbers, truths and texts that are written and read. No program in sight. No condition.
-/
set_option maxRecDepth 100000
namespace Go.Fields

/-- a whole number as it is written -/
def natOf (n : Int) : Nat := n.toNat
def bit (b : Bool) : Nat := if b = true then 1 else 0
def encText (t : List UInt8) : List UInt8 := encNum t.length ++ t
/-- what a fault becomes -/
def failE (e e' : Int) : Int := if e = 0 then e' else e
/-- a number that is at most another one -/
def readMost (top : Nat) (e : Int) (bs : List UInt8) : Nat × Int × List UInt8 :=
  if (readNum e bs).1 > top then (0, failE (readNum e bs).2.1 3, (readNum e bs).2.2) else readNum e bs
theorem readMost_le (top : Nat) (e : Int) (bs : List UInt8) : (readMost top e bs).1 ≤ top := by
  unfold readMost
  split
  · exact Nat.zero_le _
  · rename_i h; exact Nat.le_of_not_lt h
def readInt (e : Int) (bs : List UInt8) : Nat × Int × List UInt8 := readMost 1099511627776 e bs
/-- a text is read -/
def readText (e : Int) (bs : List UInt8) : List UInt8 × Int × List UInt8 :=
  if (readNum e bs).2.1 = 0 then
    (if (readNum e bs).1 > (readNum e bs).2.2.length then ([], 8, (readNum e bs).2.2)
    else ((readNum e bs).2.2.take (readNum e bs).1, 0, (readNum e bs).2.2.drop (readNum e bs).1))
  else ([], (readNum e bs).2.1, (readNum e bs).2.2)
/-- the end -/
def readEnd (e : Int) (bs : List UInt8) : Int := if e = 0 then (if bs = [] then 0 else 2) else e
/-- a number that is at most another one, as the document reads it -/
def readMost' (top : Nat) (e : Int) (bs : List UInt8) : Nat × Int × List UInt8 :=
  if (readNum e bs).1 > top then (0, 3, (readNum e bs).2.2) else readNum e bs
theorem readNum_err {e : Int} (he : e ≠ 0) (bs : List UInt8) : readNum e bs = (0, e, bs) := by unfold readNum; rw [if_neg he]
theorem readMost_enc {top n : Nat} (hn : n ≤ top) (ht : top < 18446744073709551616) (y : List UInt8) : readMost top 0 (encNum n ++ y) = (n, 0, y) := by
  unfold readMost
  rw [readNum_enc (by omega)]
  rw [if_neg (by show ¬ n > top; omega)]
theorem readMost_cut {top n k : Nat} (hn : n ≤ top) (ht : top < 18446744073709551616) (hk : k < (encNum n).length) : (readMost top 0 ((encNum n).take k)).2.1 = 8 := by
  unfold readMost
  rw [readNum_cut (by omega) hk]
  rw [if_neg (by show ¬ 0 > top; omega)]
theorem readMost_err {top : Nat} {e : Int} (he : e ≠ 0) (bs : List UInt8) : readMost top e bs = (0, e, bs) := by
  unfold readMost
  rw [readNum_err he, if_neg (by show ¬ 0 > top; omega)]
theorem readText_enc {t : List UInt8} (ht : t.length < 18446744073709551616) (y : List UInt8) : readText 0 (encText t ++ y) = (t, 0, y) := by
  unfold readText encText
  rw [List.append_assoc, readNum_enc ht]
  dsimp only
  rw [if_pos rfl, if_neg (by rw [List.length_append]; omega)]
  simp
theorem readText_err {e : Int} (he : e ≠ 0) (bs : List UInt8) : readText e bs = ([], e, bs) := by
  unfold readText
  rw [readNum_err he]
  dsimp only
  rw [if_neg he]
theorem readText_cut {t : List UInt8} {k : Nat} (ht : t.length < 18446744073709551616) (hk : k < (encText t).length) : (readText 0 ((encText t).take k)).2.1 = 8 := by
  unfold readText encText
  by_cases h1 : k < (encNum t.length).length
  · rw [List.take_append_of_le_length (by omega), readNum_cut ht h1]
    rfl
  · unfold encText at hk
    rw [List.length_append] at hk
    rw [List.take_append, List.take_of_length_le (by omega), readNum_enc ht]
    dsimp only
    rw [if_pos rfl, if_pos (by rw [List.length_take]; omega)]
theorem bit_le (b : Bool) : bit b ≤ 1 := by unfold bit; split <;> omega
theorem readNum_len (e : Int) (bs : List UInt8) : (readNum e bs).2.2.length ≤ bs.length := by
  unfold readNum; split
  · exact rdN_len bs 0 0
  · exact Nat.le_refl _
theorem readMost_len (top : Nat) (e : Int) (bs : List UInt8) : (readMost top e bs).2.2.length ≤ bs.length := by
  unfold readMost; split <;> exact readNum_len e bs
theorem readText_len (e : Int) (bs : List UInt8) : (readText e bs).2.2.length ≤ bs.length ∧ (readText e bs).1.length ≤ bs.length := by
  have := readNum_len e bs
  unfold readText
  split
  · split
    · exact ⟨this, by simp⟩
    · refine ⟨by rw [List.length_drop]; omega, by rw [List.length_take]; omega⟩
  · exact ⟨this, by simp⟩
end Go.Fields

/-
  What is proved here: what the functions of package fields do to bytes, writers and readers in memory. No condition.
-/
set_option maxRecDepth 100000
namespace Go.Proofs.YtgccegnmggjkjaaGreatDoor
open Go.Den Go.Fields
namespace Fld

variable {h h0 : Heap} {w r : Nat} {S : Nat → Prop} {bs : List UInt8} {e : Int} {R : Value → Heap → Prop}

/-! ### the writer -/
/-- w is a writer of bs; S: its blocks -/
def Wr (h : Heap) (w : Nat) (S : Nat → Prop) (bs : List UInt8) : Prop :=
  ∃ p c, h[w]? = some (.cells #[.bool true, .slice p bs.length c] T.fields_Writer (0, 0)) ∧ Own h p bs.length c 1 (bc bs) ∧ ¬ inBlk p w ∧ ∀ x, S x ↔ x = w ∨ inBlk p x
/-- w is a writer that no call made -/
def WrZ (h : Heap) (w : Nat) : Prop := h[w]? = some (.cells #[.bool false, .slice none 0 0] T.fields_Writer (0, 0))

theorem Wr.lt (H : Wr h w S bs) : ∀ x, S x → x < h.size := by
  obtain ⟨p, c, hb, o, _, hs⟩ := H
  intro x hx
  rcases (hs x).1 hx with rfl | hx
  · exact lt_of_get hb
  · exact o.blk_lt hx
theorem Wr.frame {Q : Nat → Prop} {h' : Heap} (H : Wr h w S bs) (hf : Fr Q h h') (hn : ∀ x, S x → ¬ Q x) : Wr h' w S bs := by
  obtain ⟨p, c, hb, o, hw, hs⟩ := H
  exact ⟨p, c, hf.get hb (hn w ((hs w).2 (.inl rfl))), o.frame hf (fun x hx => hn x ((hs x).2 (.inr hx))), hw, hs⟩
theorem Wr.self (H : Wr h w S bs) : S w := by
  obtain ⟨p, c, _, _, _, hs⟩ := H; exact (hs w).2 (.inl rfl)

theorem new_ok (hk : ∀ h' w S, Wr h' w S [] → Fr (fun _ => False) h h' → (∀ x, S x → h.size ≤ x) → R (.pointer (some ⟨w, 0, none⟩)) h') : CallsH Tryz.prog F.fields_New #[] h R := by
  refine fields_New.walk (newP_of ?_)
  refine hk _ _ (fun x => x = h.size) ⟨none, 0, push_new, .nil rfl rfl rfl rfl, (fun ⟨a, e, _⟩ => by cases e), fun x => ?_⟩ (Fr.push _ _) (fun x hx => by omega)
  constructor
  · exact .inl
  · rintro (hx | ⟨a, e, _⟩)
    · exact hx
    · cases e

theorem Wr.store {p p' : Option Addr} {c c' n : Nat} {h1 : Heap} {cs : List UInt8} {K : Heap → Prop} (hb : h[w]? = some (.cells #[.bool true, .slice p bs.length c] T.fields_Writer (0, 0))) (hw : ¬ inBlk p w) (hs : ∀ x, S x ↔ x = w ∨ inBlk p x)
    (o : Own h1 p' (bs.length + n) c' 1 (bc bs ++ bc cs)) (f : Fr (inBlk p) h h1) (g : ∀ x, inBlk p' x → inBlk p x ∨ h.size ≤ x) (hn : n = cs.length)
    (hk : ∀ h' S', Wr h' w S' (bs ++ cs) → Step S h S' h' → K h') : StoreP h1 ⟨w, 1, none⟩ (.slice p' (bs.length + n) c') K := by
  subst hn
  have hb1 := f.get hb hw
  have hlt := lt_of_get hb
  have hw' : ¬ inBlk p' w := fun hx => (g w hx).elim hw (fun h2 => by omega)
  refine storeP_blk hb1 (by simp) fun h' k1 k2 k3 => ?_
  have f2 : Fr (fun x => x = w) h1 h' := Fr.of_eq k2 k3
  refine hk h' (fun x => x = w ∨ inBlk p' x) ⟨p', c', ?_, ?_, hw', fun x => Iff.rfl⟩ ⟨?_, ?_⟩
  · rw [k1, List.length_append]; rfl
  · rw [List.length_append, bc_append]
    exact o.frame f2 (fun x hx e => hw' (e ▸ hx))
  · exact f.trans f2 (fun x _ hx => (hs x).2 (.inr hx)) (fun x _ hx => (hs x).2 (.inl hx))
  · rintro x (hx | hx)
    · exact .inl ((hs x).2 (.inl hx))
    · exact (g x hx).imp (fun h2 => (hs x).2 (.inr h2)) id

theorem Wr.push {x : Int} {b : UInt8} {K : Heap → Prop} (H : Wr h w S bs) (hl : bs.length ≤ 1099511627786) (hx : x = (b.toNat : Int)) (hk : ∀ h' S', Wr h' w S' (bs ++ [b]) → Step S h S' h' → K h') :
    ∃ (p : Option Addr) (l c : Nat), hcell h ⟨w, 1, none⟩ = some (.slice p l c) ∧
    NewP h (.cells #[.int .u8 x] T.uint8) fun b h_1 =>
    denSem Tryz.prog (Builtin.append_ #[T.s_uint8, T.s_uint8] T.s_uint8 #[.slice p l c, .slice (some ⟨b, 0, none⟩) 1 1]) h_1 fun v h_2 =>
    ∃ (q : Option Addr) (m d : Nat), v = .slice q m d ∧ StoreP h_2 ⟨w, 1, none⟩ (.slice q m d) K := by
  obtain ⟨p, c, hb, o, hw, hs⟩ := H
  refine ⟨p, bs.length, c, cell_at hb rfl, ?_⟩
  refine den_append1 tU uU o rfl (fun v hv => by simp at hv; subst hv; rfl) (by omega) (by omega) ?_
  intro p' c' h1 o1 f1 g1
  subst hx
  exact ⟨_, _, _, rfl, Wr.store (cs := [b]) hb hw hs o1 f1 g1 rfl hk⟩

def numI (h0 : Heap) (w : Nat) (S0 : Nat → Prop) (bs : List UInt8) (n0 : Nat) (n : Int) (h : Heap) : Prop :=
  ∃ (m : Nat) (S : Nat → Prop) (d : List UInt8), n = (m : Int) ∧ m < 18446744073709551616 ∧ Wr h w S (bs ++ d) ∧ d ++ encNum m = encNum n0 ∧ Step S0 h0 S h

theorem num_ok {n : Int} (k : Nat) (H : Wr h w S bs) (hl : bs.length ≤ 1099511627776) (e : n = (k : Int)) (hn : k < 18446744073709551616)
    (hk : ∀ h' S', Wr h' w S' (bs ++ encNum k) → Step S h S' h' → R (.pointer (some ⟨w, 0, none⟩)) h') : CallsH Tryz.prog F.fields_Writer_Num #[.pointer (some ⟨w, 0, none⟩), .int .u64 n] h R := by
  subst e
  refine fields_Writer_Num.walk ?_
  obtain ⟨p, c, hb, _⟩ := id H
  refine JoinP.of fun J hJ => ⟨true, cell_at hb rfl, ?_⟩
  subst hJ
  simp only [Bool.not_true, Bool.false_eq_true, if_false]
  clear hb
  refine ⟨numI h w S bs k, fun n _ => n.toNat, ⟨k, S, [], rfl, hn, by simpa using H, rfl, Step.refl _ _⟩, ?_⟩
  rintro _ h2 ⟨m, S2, d, rfl, hm, H2, hd, st⟩
  have hdl : d.length ≤ 10 := by
    have := congrArg List.length hd
    rw [List.length_append] at this
    have := (encNum_len k).2
    omega
  by_cases hgt : (m : Int) > 127
  · simp only [hgt, decide_true, if_true]
    refine H2.push (by rw [List.length_append]; omega) (or128 m) fun h5 S5 H5 st5 => ?_
    rw [shr7]
    refine ⟨⟨m / 128, S5, d ++ [UInt8.ofNat (m % 128 + 128)], rfl, by omega, by rwa [List.append_assoc] at H5, ?_, st.trans st5⟩, ?_⟩
    · rw [← hd, encNum_step hm, if_pos (by omega)]; simp
    · show Int.toNat ((m / 128 : Nat) : Int) < Int.toNat (m : Int)
      omega
  · simp only [hgt, decide_false, Bool.false_eq_true, if_false]
    refine H2.push (by rw [List.length_append]; omega) (b := UInt8.ofNat m) (by rw [wrap_u8_nat, UInt8.toNat_ofNat']) fun h5 S5 H5 st5 => ?_
    refine hk h5 S5 ?_ (st.trans st5)
    rwa [← hd, encNum_step hm, if_neg (by omega), ← List.append_assoc]
theorem num_zero {n : Int} (H : WrZ h w) (hk : R (.pointer (some ⟨w, 0, none⟩)) h) : CallsH Tryz.prog F.fields_Writer_Num #[.pointer (some ⟨w, 0, none⟩), .int .u64 n] h R := by
  refine fields_Writer_Num.walk (JoinP.of fun J hJ => ⟨false, cell_at H rfl, ?_⟩)
  subst hJ
  exact hk
theorem num_nil {n : Int} (hk : R (.pointer none) h) : CallsH Tryz.prog F.fields_Writer_Num #[.pointer none, .int .u64 n] h R :=
  fields_Writer_Num.nil.walk hk
theorem max0 (n : Int) (h2 : n ≤ 9223372036854775807) : IntKind.wrap .u64 (if 0 > n then 0 else n) = ((natOf n : Nat) : Int) := by
  unfold natOf
  split
  · rw [wrap_u64 (by omega) (by omega)]; omega
  · rw [wrap_u64 (by omega) (by omega)]; omega
theorem int_ok {n : Int} (H : Wr h w S bs) (hl : bs.length ≤ 1099511627776) (hn : n ≤ 9223372036854775807)
    (hk : ∀ h' S', Wr h' w S' (bs ++ encNum (natOf n)) → Step S h S' h' → R (.pointer (some ⟨w, 0, none⟩)) h') : CallsH Tryz.prog F.fields_Writer_Int #[.pointer (some ⟨w, 0, none⟩), .int .i64 n] h R :=
  fields_Writer_Int.walk (num_ok (natOf n) H hl (max0 n hn) (by unfold natOf; omega) fun h' S' H' st => ⟨_, rfl, hk h' S' H' st⟩)
theorem int_nil {n : Int} (hk : R (.pointer none) h) : CallsH Tryz.prog F.fields_Writer_Int #[.pointer none, .int .i64 n] h R :=
  fields_Writer_Int.nil.walk (num_nil ⟨_, rfl, hk⟩)
theorem bool_ok {b : Bool} (H : Wr h w S bs) (hl : bs.length ≤ 1099511627776)
    (hk : ∀ h' S', Wr h' w S' (bs ++ encNum (bit b)) → Step S h S' h' → R (.pointer (some ⟨w, 0, none⟩)) h') : CallsH Tryz.prog F.fields_Writer_Bool #[.pointer (some ⟨w, 0, none⟩), .bool b] h R := by
  refine fields_Writer_Bool.walk ?_
  unfold fields_Writer_Bool.vc
  cases b
  all_goals simp only [if_true, Bool.false_eq_true, if_false]
  · exact num_ok 0 H hl rfl (by omega) fun h' S' H' st => ⟨_, rfl, hk h' S' H' st⟩
  · exact num_ok 1 H hl rfl (by omega) fun h' S' H' st => ⟨_, rfl, hk h' S' H' st⟩
theorem bool_nil {b : Bool} (hk : R (.pointer none) h) : CallsH Tryz.prog F.fields_Writer_Bool #[.pointer none, .bool b] h R := by
  refine fields_Writer_Bool.nil.walk ?_
  unfold fields_Writer_Bool.nil.vc
  cases b
  all_goals simp only [if_true, Bool.false_eq_true, if_false]
  all_goals exact num_nil ⟨_, rfl, hk⟩
theorem text_ok' {p : Option Addr} {n c : Nat} {t : List UInt8} (H : Wr h w S bs) (hl : bs.length ≤ 1099511627776) (hr : Row h p (bc t)) (hn : n = t.length) (ht : t.length ≤ 1099511627776) (hp : ∀ x, inBlk p x → t ≠ [] → ¬ S x)
    (hk : ∀ h' S', Wr h' w S' (bs ++ encText t) → Step S h S' h' → R (.pointer (some ⟨w, 0, none⟩)) h') : CallsH Tryz.prog F.fields_Writer_Text #[.pointer (some ⟨w, 0, none⟩), .slice p n c] h R := by
  subst hn
  refine fields_Writer_Text.walk (num_ok t.length H hl (wrap_u64 (by omega) (by omega)) (by omega) fun h1 S1 H1 st1 => ⟨_, rfl, ?_⟩)
  obtain ⟨q, d, hb, o, hw, hs⟩ := H1
  refine JoinP.of fun J hJ => ⟨true, cell_at hb rfl, ?_⟩
  subst hJ
  refine JoinP.of fun J hJ => ?_
  simp only [if_true]
  subst hJ
  refine ⟨q, _, d, cell_at hb rfl, ?_⟩
  have hlen := (encNum_len t.length).2
  rw [List.length_append]
  rw [List.length_append] at o
  refine den_append tU uU o (by
    by_cases hne : t = []
    · rw [hne]; exact .inl rfl
    · exact hr.frame st1.fr (fun a e hx => hp _ ⟨a, e, rfl⟩ hne hx)) (by rw [bc_len, Nat.mul_one]) (bc_one t) (by omega) (by omega) ?_
  intro p' c' h' o1 _ f2 g
  refine ⟨_, _, _, rfl, ?_⟩
  rw [List.length_append] at hb
  have := Wr.store (n := t.length) (cs := t) (K := fun h_5 => R (Value.pointer (some { block := w, off := 0 })) h_5) (bs := bs ++ encNum t.length) (by rw [List.length_append]; exact hb) hw hs (by rw [List.length_append]; exact o1) f2 g rfl fun h2 S2 H2 st2 => ?_
  · rw [List.length_append] at this
    exact this
  · exact hk h2 S2 (by unfold encText; rwa [List.append_assoc] at H2) (st1.trans st2)
theorem text_ok {p : Option Addr} {n c : Nat} {t : List UInt8} (H : Wr h w S bs) (hl : bs.length ≤ 1099511627776) (hr : Row h p (bc t)) (hn : n = t.length) (ht : t.length ≤ 1099511627776) (hp : ∀ x, inBlk p x → ¬ S x)
    (hk : ∀ h' S', Wr h' w S' (bs ++ encText t) → Step S h S' h' → R (.pointer (some ⟨w, 0, none⟩)) h') : CallsH Tryz.prog F.fields_Writer_Text #[.pointer (some ⟨w, 0, none⟩), .slice p n c] h R :=
  text_ok' H hl hr hn ht (fun x hx _ => hp x hx) hk
theorem text_zero {p : Option Addr} {n c : Nat} (H : WrZ h w) (hk : R (.pointer (some ⟨w, 0, none⟩)) h) : CallsH Tryz.prog F.fields_Writer_Text #[.pointer (some ⟨w, 0, none⟩), .slice p n c] h R := by
  refine fields_Writer_Text.walk (num_zero H ⟨_, rfl, JoinP.of fun J hJ => ⟨false, cell_at H rfl, ?_⟩⟩)
  subst hJ
  exact hk
theorem text_nil {p : Option Addr} {n c : Nat} (hk : R (.pointer none) h) : CallsH Tryz.prog F.fields_Writer_Text #[.pointer none, .slice p n c] h R :=
  fields_Writer_Text.nil.walk (num_nil ⟨_, rfl, hk⟩)
theorem bytes_ok (H : Wr h w S bs) (hl : bs.length ≤ 70368744177664)
    (hk : ∀ p' c' h', Own h' p' bs.length c' 1 (bc bs) → Fr (fun _ => False) h h' → (∀ x, inBlk p' x → h.size ≤ x) → R (.slice p' bs.length c') h') : CallsH Tryz.prog F.fields_Writer_Bytes #[.pointer (some ⟨w, 0, none⟩)] h R := by
  obtain ⟨p, c, hb, o, hw, hs⟩ := H
  exact fields_Writer_Bytes.walk ⟨p, _, c, cell_at hb rfl, clone_ok o.row' rfl hl fun p' c' h' o1 f1 g1 => ⟨_, _, _, rfl, hk p' c' h' o1 f1 g1⟩⟩
theorem bytes_zero (H : WrZ h w) (hk : ∀ h', Fr (fun _ => False) h h' → R (.slice none 0 0) h') : CallsH Tryz.prog F.fields_Writer_Bytes #[.pointer (some ⟨w, 0, none⟩)] h R := by
  refine fields_Writer_Bytes.walk ⟨none, 0, 0, cell_at H rfl, ?_⟩
  refine slices_Clone_s_byte_byte.walk ?_
  exact ⟨_, _, _, rfl, hk h (Fr.refl _ _)⟩
theorem bytes_nil (hk : R (.slice none 0 0) h) : CallsH Tryz.prog F.fields_Writer_Bytes #[.pointer none] h R := fields_Writer_Bytes.nil.walk hk

/-! ### the reader -/
/-- r is a reader of bs, its fault is e; S: its blocks -/
def Rd (h : Heap) (r : Nat) (S : Nat → Prop) (e : Int) (bs : List UInt8) : Prop :=
  ∃ p c, h[r]? = some (.cells #[.int .i64 e, .bool true, .slice p bs.length c] T.fields_Reader (0, 0)) ∧ Own h p bs.length c 1 (bc bs) ∧ ¬ inBlk p r ∧ S r ∧ (∀ x, inBlk p x → S x) ∧ ∀ x, S x → x < h.size
theorem Rd.lt (H : Rd h r S e bs) : ∀ x, S x → x < h.size := by
  obtain ⟨p, c, _, _, _, _, _, hs⟩ := H; exact hs
theorem Rd.self (H : Rd h r S e bs) : S r := by
  obtain ⟨p, c, _, _, _, hs, _, _⟩ := H; exact hs
theorem Rd.frame {Q : Nat → Prop} {h' : Heap} (H : Rd h r S e bs) (hf : Fr Q h h') (hn : ∀ x, S x → ¬ Q x) : Rd h' r S e bs := by
  obtain ⟨p, c, hb, o, hr, h1, h2, h3⟩ := H
  exact ⟨p, c, hf.get hb (hn r h1), o.frame hf (fun x hx => hn x (h2 x hx)), hr, h1, h2, fun x hx => Nat.lt_of_lt_of_le (h3 x hx) hf.1⟩

theorem read_ok {p : Option Addr} {n c : Nat} (hr : Row h p (bc bs)) (hn : n = bs.length) (hl : bs.length ≤ 70368744177664)
    (hk : ∀ h' r S, Rd h' r S 0 bs → Fr (fun _ => False) h h' → (∀ x, S x → h.size ≤ x) → R (.pointer (some ⟨r, 0, none⟩)) h') : CallsH Tryz.prog F.fields_Read #[.slice p n c] h R := by
  refine fields_Read.walk (clone_ok hr hn hl fun p' c' h1 o1 f1 g1 => ⟨_, _, _, rfl, newP_of ?_⟩)
  refine hk _ _ (fun x => h.size ≤ x ∧ x ≤ h1.size) ⟨p', c', push_new, o1.frame (Fr.push (S := fun _ => False) _ _) (fun _ _ => id), ?_, ⟨f1.1, Nat.le_refl _⟩, ?_, ?_⟩ (Fr.on f1 (Fr.push _ _)) (fun x hx => hx.1)
  · intro hx; have := o1.blk_lt hx; omega
  · intro x hx; have := o1.blk_lt hx; exact ⟨g1 x hx, by omega⟩
  · intro x hx; rw [Array.size_push]; omega

theorem fail_ok {e' : Int} (H : Rd h r S e bs) (hk : ∀ h', Rd h' r S (failE e e') bs → Fr (fun x => x = r) h h' → R (.tuple #[]) h') : CallsH Tryz.prog F.fields_fault_fail #[.pointer (some ⟨r, 0, none⟩), .int .i64 e'] h R := by
  obtain ⟨p, c, hb, o, hr, h1, h2, h3⟩ := id H
  refine fields_fault_fail.walk ⟨e, cell_at hb rfl, ?_⟩
  unfold failE at hk
  by_cases h0 : e = 0
  · subst h0
    simp only [beq_self_eq_true, if_true]
    refine storeP_blk hb (by simp) fun h' k1 k2 k3 => ?_
    have f : Fr (fun x => x = r) h h' := Fr.of_eq k2 k3
    exact hk h' ⟨p, c, k1, o.frame f (fun x hx e => hr (e ▸ hx)), hr, h1, h2, fun x hx => by rw [k2]; exact h3 x hx⟩ f
  · simp only [beq_iff_eq, h0, if_false]
    simp only [h0, if_false] at hk
    exact hk h H (Fr.refl _ _)
theorem fine_ok (H : Rd h r S e bs) (hk : R (.bool (e == 0)) h) : CallsH Tryz.prog F.fields_Reader_fine #[.pointer (some ⟨r, 0, none⟩)] h R := by
  obtain ⟨p, c, hb, o, hr, h1, h2, h3⟩ := H
  exact fields_Reader_fine.walk ⟨true, cell_at hb rfl, e, cell_at hb rfl, hk⟩

def rnumI (h0 : Heap) (r : Nat) (S : Nat → Prop) (bs : List UInt8) (n i : Int) (h : Heap) : Prop :=
  ∃ (k a : Nat) (rest : List UInt8), i = (k : Int) ∧ n = (a : Int) ∧ k ≤ 10 ∧ a < 2 ^ (7 * k) ∧ a < 18446744073709551616 ∧ Rd h r S 0 rest ∧ Fr (fun x => x = r) h0 h ∧ rdN k a rest = rdN 0 0 bs

theorem rnum_ok (H : Rd h r S e bs) (hk : ∀ h', Rd h' r S (readNum e bs).2.1 (readNum e bs).2.2 → Fr (fun x => x = r) h h' → R (.int .u64 ((readNum e bs).1 : Int)) h') :
    CallsH Tryz.prog F.fields_Reader_Num #[.pointer (some ⟨r, 0, none⟩)] h R := by
  refine fields_Reader_Num.walk (JoinP.of fun J hJ => ?_)
  by_cases he : e = 0
  · subst he
    unfold readNum at hk
    rw [if_pos rfl] at hk
    refine ⟨rnumI h r S bs, fun _ i _ => 11 - i.toNat, ⟨0, 0, bs, rfl, rfl, by omega, by simp, by omega, H, Fr.refl _ _, rfl⟩, ?_⟩
    rintro _ _ h2 ⟨k, a, rest, rfl, rfl, hk10, ha, ha2, H2, f2, hrd⟩
    refine fine_ok H2 ⟨_, rfl, ?_⟩
    simp only [beq_self_eq_true, if_true]
    obtain ⟨p, c, hb, o, hr, h1, hsub, h3⟩ := id H2
    refine ⟨p, _, c, cell_at hb rfl, ?_⟩
    cases rest with
    | nil =>
      simp only [List.length_nil, Int.natCast_zero, beq_self_eq_true, if_true]
      refine fail_ok H2 fun h4 H4 f4 => ⟨rfl, ?_⟩
      subst hJ
      rw [rdN] at hrd
      rw [← hrd] at hk
      exact hk h4 H4 (f2.tt f4)
    | cons b rest =>
      have hne : ((((b :: rest).length : Nat) : Int) == 0) = false := by simp only [List.length_cons, beq_eq_false_iff_ne, ne_eq]; omega
      simp only [hne, Bool.false_eq_true, if_false]
      refine ⟨p, _, c, cell_at hb rfl, ⟨by omega, by simp only [List.length_cons]; omega⟩, ?_⟩
      obtain ⟨ab, aoff, rfl⟩ := o.some (by rw [bc_len]; simp)
      refine onSome_some.2 ⟨(b.toNat : Int), o.cell rfl, some ⟨ab, aoff, none⟩, _, c, cell_at hb rfl, ⟨by omega, by simp only [List.length_cons]; omega⟩, ?_⟩
      have o2 := o.sub (l := 1) (u := (b :: rest).length) (by simp) (Nat.le_refl _)
      have er : ((bc (b :: rest)).take ((b :: rest).length * 1)).drop (1 * 1) = bc rest := by
        simp only [Nat.mul_one]
        rw [List.take_of_length_le (by rw [bc_len]; exact Nat.le_refl _)]; rfl
      rw [er] at o2
      have el : (b :: rest).length - Int.toNat 1 = rest.length := by simp
      rw [el]
      have el2 : (b :: rest).length - 1 = rest.length := by simp
      rw [el2] at o2
      refine storeP_blk hb (by simp) fun h5 k1 k2 k3 => ?_
      have f5 : Fr (fun x => x = r) h2 h5 := Fr.of_eq k2 k3
      have H5 : Rd h5 r S 0 rest := ⟨_, _, k1, o2.frame f5 (fun x hx e => hr (e ▸ inBlk_sub hx)), fun hx => hr (inBlk_sub hx), h1, fun x hx => hsub x (inBlk_sub hx), fun x hx => by rw [k2]; exact h3 x hx⟩
      have f25 := f2.tt f5
      clear o2 k1 k2 k3 f5 er el el2 hne o hb hsub h3 hr
      have w1 : IntKind.wrap .i64 ((k : Int) * 7) = ((7 * k : Nat) : Int) := by rw [wrap_id (by omega) (by omega)]; omega
      have w2 : IntKind.wrap .i64 (7 * (k : Int)) = ((7 * k : Nat) : Int) := by rw [wrap_id (by omega) (by omega)]; omega
      have w3 : IntKind.wrap .i64 ((k : Int) + 1) = ((k + 1 : Nat) : Int) := by rw [wrap_id (by omega) (by omega)]; omega
      have hb := b.toNat_lt
      rw [rdN] at hrd
      refine JoinP.of fun J1 hJ1 => ?_
      have fin : J1 (decide (k = 10 ∨ (k = 9 ∧ b.toNat > 1) ∨ (b.toNat = 0 ∧ k > 0))) h5 := by
        subst hJ1
        by_cases hbad : k = 10 ∨ (k = 9 ∧ b.toNat > 1) ∨ (b.toNat = 0 ∧ k > 0)
        · simp only [hbad, decide_true, if_true]
          rw [if_pos hbad] at hrd
          refine fail_ok H5 fun h7 H7 f7 => ⟨rfl, ?_⟩
          subst hJ
          rw [← hrd] at hk
          exact hk h7 H7 (f25.tt f7)
        · simp only [hbad, decide_false, Bool.false_eq_true, if_false]
          rw [if_neg hbad] at hrd
          rw [w2, w3, if_neg (by omega), and128, and127]
          have hd : b.toNat % 128 * 2 ^ (7 * k) < 18446744073709551616 := by
            by_cases h9 : k = 9
            · subst h9
              have : b.toNat % 128 ≤ 1 := by omega
              have := Nat.mul_le_mul_right (2 ^ (7 * 9)) this
              omega
            · have h8 : k ≤ 8 := by omega
              have p1 : (2 : Nat) ^ (7 * k) ≤ 2 ^ 56 := Nat.pow_le_pow_right (by omega) (by omega)
              have p2 : b.toNat % 128 ≤ 127 := by omega
              have := Nat.mul_le_mul p2 p1
              omega
          have key : IntKind.wrap .u64 ((b.toNat % 128 : Nat) : Int) = ((b.toNat % 128 : Nat) : Int) := wrap_u64_nat (by omega)
          have k64 : 7 * k ≤ 64 := by omega
          rw [key, or_shl ha hd k64]
          by_cases hlt : b.toNat < 128
          · simp only [hlt, decide_true, if_true]
            rw [if_pos hlt] at hrd
            rw [← hrd] at hk
            exact hk h5 H5 f25
          · simp only [hlt, decide_false, Bool.false_eq_true, if_false]
            rw [if_neg hlt] at hrd
            have h9 : k ≤ 8 := by omega
            have p3 : (2 : Nat) ^ (7 * (k + 1)) = 128 * 2 ^ (7 * k) := by rw [Nat.mul_add, Nat.pow_add, Nat.mul_comm]
            have p4 : b.toNat % 128 + 1 ≤ 128 := by omega
            have p5 := Nat.mul_le_mul_right (2 ^ (7 * k)) p4
            rw [Nat.add_mul] at p5
            have p6 : (2 : Nat) ^ (7 * (k + 1)) ≤ 2 ^ 63 := Nat.pow_le_pow_right (by omega) (by omega)
            refine ⟨⟨k + 1, _, rest, rfl, rfl, by omega, by omega, by omega, H5, f25, hrd⟩, ?_⟩
            show 11 - Int.toNat ((k + 1 : Nat) : Int) < 11 - Int.toNat (k : Int)
            omega
      rw [w1]
      by_cases c1 : k = 10
      · subst c1; simpa using fin
      · have c1' : ((k : Int) == 10) = false := by simp only [beq_eq_false_iff_ne, ne_eq]; omega
        simp only [c1', Bool.false_eq_true, if_false]
        by_cases c2 : k = 9
        · subst c2
          by_cases c3 : b.toNat > 1
          · have c3' : (b.toNat : Int) > 1 := by omega
            have c4 : ¬ b.toNat = 0 := by omega
            simpa [c3, c3', c4] using fin
          · have c3' : ¬ (b.toNat : Int) > 1 := by omega
            by_cases c4 : b.toNat = 0
            · simpa [c3, c3', c4] using fin
            · simpa [c3, c3', c4] using fin
        · have c2' : (((7 * k : Nat) : Int) == 63) = false := by simp only [beq_eq_false_iff_ne, ne_eq]; omega
          simp only [c2', Bool.false_eq_true, if_false]
          by_cases c4 : b.toNat = 0
          · have c5 : decide ((k : Int) > 0) = decide (k > 0) := by simp
            simp only [c4, Int.natCast_zero, beq_self_eq_true, if_true, c5]
            simpa [c1, c2, c4] using fin
          · have c4' : ((b.toNat : Int) == 0) = false := by simp only [beq_eq_false_iff_ne, ne_eq]; omega
            simp only [c4', Bool.false_eq_true, if_false]
            simpa [c1, c2, c4] using fin
  · refine ⟨fun _ _ h2 => h2 = h, fun _ _ _ => 0, rfl, ?_⟩
    rintro _ _ h2 rfl
    refine fine_ok H ⟨_, rfl, ?_⟩
    have : (e == 0) = false := by simpa using he
    simp only [this, Bool.false_eq_true, if_false]
    subst hJ
    unfold readNum at hk
    rw [if_neg he] at hk
    exact hk _ H (Fr.refl _ _)

theorem most_ok (top : Nat) {t : Int} (ht : t = (top : Int)) (H : Rd h r S e bs) (hk : ∀ h', Rd h' r S (readMost top e bs).2.1 (readMost top e bs).2.2 → Fr (fun x => x = r) h h' → R (.int .u64 ((readMost top e bs).1 : Int)) h') :
    CallsH Tryz.prog F.fields_Reader_atMost #[.pointer (some ⟨r, 0, none⟩), .int .u64 t] h R := by
  subst ht
  refine fields_Reader_atMost.walk (rnum_ok H fun h1 H1 f1 => ⟨_, rfl, ?_⟩)
  unfold readMost at hk
  by_cases hgt : (readNum e bs).1 > top
  · have : ((readNum e bs).1 : Int) > (top : Int) := by omega
    simp only [this, decide_true, if_true]
    rw [if_pos hgt] at hk
    exact fail_ok H1 fun h2 H2 f2 => ⟨rfl, hk h2 H2 (f1.tt f2)⟩
  · have : ¬ ((readNum e bs).1 : Int) > (top : Int) := by omega
    simp only [this, decide_false, Bool.false_eq_true, if_false]
    rw [if_neg hgt] at hk
    exact hk h1 H1 f1
theorem rint_ok (H : Rd h r S e bs) (hk : ∀ h', Rd h' r S (readInt e bs).2.1 (readInt e bs).2.2 → Fr (fun x => x = r) h h' → R (.int .i64 ((readInt e bs).1 : Int)) h') :
    CallsH Tryz.prog F.fields_Reader_Int #[.pointer (some ⟨r, 0, none⟩)] h R :=
  fields_Reader_Int.walk (most_ok 1099511627776 rfl H fun h1 H1 f1 => ⟨_, rfl, by
    have := readMost_le 1099511627776 e bs
    rw [wrap_id (by omega) (by omega)]
    exact hk h1 H1 f1⟩)
theorem rbool_ok (H : Rd h r S e bs) (hk : ∀ h', Rd h' r S (readMost 1 e bs).2.1 (readMost 1 e bs).2.2 → Fr (fun x => x = r) h h' → R (.bool (decide ((readMost 1 e bs).1 = 1))) h') :
    CallsH Tryz.prog F.fields_Reader_Bool #[.pointer (some ⟨r, 0, none⟩)] h R :=
  fields_Reader_Bool.walk (most_ok 1 rfl H fun h1 H1 f1 => ⟨_, rfl, by
    have := hk h1 H1 f1
    have e : (((readMost 1 e bs).1 : Int) == 1) = decide ((readMost 1 e bs).1 = 1) := by
      by_cases q : (readMost 1 e bs).1 = 1
      · simp [q]
      · have : ¬ ((readMost 1 e bs).1 : Int) = 1 := by omega
        simp [q, this]
    rw [e]; exact this⟩)
theorem rtext_ok (H : Rd h r S e bs) (hl : bs.length ≤ 70368744177664)
    (hk : ∀ h' p c, Rd h' r S (readText e bs).2.1 (readText e bs).2.2 → Own h' p (readText e bs).1.length c 1 (bc (readText e bs).1) → (∀ x, inBlk p x → h.size ≤ x) → Fr (fun x => x = r) h h' → R (.slice p (readText e bs).1.length c) h') :
    CallsH Tryz.prog F.fields_Reader_Text #[.pointer (some ⟨r, 0, none⟩)] h R := by
  refine fields_Reader_Text.walk (rnum_ok H fun h1 H1 f1 => ⟨_, rfl, fine_ok H1 ⟨_, rfl, ?_⟩⟩)
  unfold readText at hk
  have hlt := readNum_lt e bs
  have hlen : (readNum e bs).2.2.length ≤ bs.length := by
    unfold readNum; split
    · exact rdN_len bs 0 0
    · exact Nat.le_refl _
  generalize readNum e bs = N at *
  obtain ⟨n, e', rest⟩ := N
  dsimp only at *
  by_cases h0 : e' = 0
  · subst h0
    simp only [beq_self_eq_true, Bool.not_true, Bool.false_eq_true, if_false]
    obtain ⟨p, c, hb, o, hr, k1, k2, k3⟩ := id H1
    refine ⟨p, _, c, cell_at hb rfl, ?_⟩
    rw [if_pos rfl] at hk
    rw [wrap_u64 (n := ((rest.length : Nat) : Int)) (by omega) (by omega)]
    by_cases hgt : n > rest.length
    · have : (n : Int) > (rest.length : Int) := by omega
      simp only [this, decide_true, if_true]
      rw [if_pos hgt] at hk
      exact fail_ok H1 fun h2 H2 f2 => ⟨rfl, hk h2 none 0 H2 (.nil rfl rfl rfl rfl) (fun x ⟨a, e, _⟩ => by cases e) (f1.tt f2)⟩
    · have : ¬ (n : Int) > (rest.length : Int) := by omega
      simp only [this, decide_false, Bool.false_eq_true, if_false]
      rw [if_neg hgt] at hk
      have hc := o.le
      refine ⟨p, _, c, cell_at hb rfl, ⟨by omega, by omega⟩, ?_⟩
      have oc := o.sub (l := 0) (u := n) (by omega) (by omega)
      simp only [Nat.mul_one, List.drop_zero, bc_take] at oc
      have etl : (rest.take n).length = n := by rw [List.length_take]; omega
      refine clone_ok oc.row' (by rw [etl]; omega) (by omega) fun p' c' h4 o4 f4 g4 => ⟨_, _, _, rfl, ?_⟩
      have H4 := H1.frame f4 (fun _ _ => id)
      obtain ⟨p2, c2, hb2, o2, hr2, k1', k2', k3'⟩ := H4
      refine ⟨p2, _, c2, cell_at hb2 rfl, ⟨by omega, by omega⟩, ?_⟩
      refine storeP_blk hb2 (by simp) fun h5 q1 q2 q3 => ?_
      have f5 : Fr (fun x => x = r) h4 h5 := Fr.of_eq q2 q3
      have os := o2.sub (l := n) (u := rest.length) (by omega) (Nat.le_refl _)
      rw [Nat.mul_one, Nat.mul_one, ← bc_len rest, List.take_length, bc_len, bc_drop] at os
      have edl : (rest.drop n).length = rest.length - n := by simp
      refine hk h5 p' c' ⟨slBase p2 c2 n 1, c2 - n, ?_, ?_, fun hx => hr2 (inBlk_sub hx), k1', fun x hx => k2' x (inBlk_sub hx), fun x hx => by rw [q2]; exact k3' x hx⟩ (o4.frame f5 (fun x hx e => ?_)) (fun x hx => ?_) (f1.tt ((f4.mono fun _ _ => False.elim).tt f5))
      · rw [edl]
        simpa using q1
      · rw [edl]
        exact os.frame f5 (fun x hx e => hr2 (e ▸ inBlk_sub hx))
      · have := g4 x hx; have := lt_of_get hb; omega
      · have := g4 x hx; have := f1.1; omega
  · have : (e' == 0) = false := by simpa using h0
    simp only [this, Bool.not_false, if_true]
    rw [if_neg h0] at hk
    exact hk h1 none 0 H1 (.nil rfl rfl rfl rfl) (fun x ⟨a, e, _⟩ => by cases e) f1
theorem rend_ok (H : Rd h r S e bs) (hk : R (.int .i64 (readEnd e bs)) h) : CallsH Tryz.prog F.fields_Reader_End #[.pointer (some ⟨r, 0, none⟩)] h R := by
  obtain ⟨p, c, hb, o, hr, k1, k2, k3⟩ := H
  refine fields_Reader_End.walk (JoinP.of fun J hJ => ⟨true, cell_at hb rfl, ?_⟩)
  subst hJ
  simp only [Bool.not_true, Bool.false_eq_true, if_false]
  refine ⟨e, cell_at hb rfl, ?_⟩
  unfold readEnd at hk
  by_cases h0 : e = 0
  · subst h0
    simp only [bne_self_eq_false, Bool.false_eq_true, if_false]
    refine ⟨p, _, c, cell_at hb rfl, ?_⟩
    rw [if_pos rfl] at hk
    cases bs with
    | nil => exact hk
    | cons b bs =>
      have : (((b :: bs).length : Nat) : Int) > 0 := by simp only [List.length_cons]; omega
      simp only [this, decide_true, if_true]
      rwa [if_neg (by simp)] at hk
  · have : (e != 0) = true := by simpa using h0
    simp only [this, if_true]
    rw [if_neg h0] at hk
    exact ⟨e, cell_at hb rfl, hk⟩
end Fld
end Go.Proofs.YtgccegnmggjkjaaGreatDoor

/-
  What is proved here: rows of records (slices of slices of bytes) in memory. No condition.
-/
set_option maxRecDepth 100000
namespace Go.Den
/-- '[]byte(s)' -/
theorem den_s2b {P : Program} {sT dT e : TypeId} {h : Heap} {s : ByteArray} {K : Value → Heap → Prop} (hs : P.underlying sT = some .string) (hd : P.underlying dT = some (.slice e)) (he : P.underlying e = some (.int .u8))
    (hk : ∀ p c h', Row h' p (bc s.data.toList) → s.size ≤ c → Fr (fun _ => False) h h' → (∀ y, inBlk p y → h.size ≤ y) → K (.slice p s.size c) h') : denSem P (convert sT dT (.string s)) h K := by
  unfold convert
  refine den_of_rd (s := underlying sT) (rd_underlying hs) ?_
  refine den_of_rd (s := underlying dT) (rd_underlying hd) ?_
  show denSem P (underlying e >>= _) h K
  refine den_of_rd (s := underlying e) (rd_underlying he) ?_
  show denSem P (Conv.stringToBytes e s) h K
  unfold Conv.stringToBytes
  rw [den_bind]
  unfold choose
  simp only [denSem, Question.forced, Bool.false_eq_true, if_false, Question.cut]
  intro tq
  generalize hcap : s.size + tq % (2 ^ 63 - s.size) = cap
  have hle : s.size ≤ cap := by omega
  generalize hcs : (s.data.map fun b => Value.int .u8 (b.toNat : Int)) ++ Array.replicate (cap - s.size) (Value.int .u8 0) = cs
  have hrow : ∀ j v, (bc s.data.toList)[j]? = some v → cs[0 + j]? = some v := fun j v hj => by
    have hjl := (List.getElem?_eq_some_iff.1 hj).1
    rw [bc_len, Array.length_toList] at hjl
    rw [← hcs, Nat.zero_add, Array.getElem?_append_left (by simpa using hjl), Array.getElem?_map, ← hj]
    unfold bc
    rw [List.getElem?_map, Array.getElem?_toList]
  show denSem P (newRow e cs >>= _) h K
  rw [den_bind]
  show denSem P (markStringish ⟨h.size, 0, none⟩ >>= fun _ => pure (.slice (some ⟨h.size, 0, none⟩) s.size cap)) (h.push (.cells cs e)) K
  rw [den_bind]
  unfold markStringish shape
  have hsh : hshape (h.push (.cells cs e)) h.size = some (e, cs.size) := by simp [hshape]
  show denSem P (match hshape (h.push (.cells cs e)) h.size with | some (_, n) => freeze { block := h.size, off := n } 1 | _ => pure ()) (h.push (.cells cs e)) _
  rw [hsh]
  show K (.slice (some ⟨h.size, 0, none⟩) s.size cap) (hfreeze (h.push (.cells cs e)) { block := h.size, off := cs.size } 1)
  unfold hfreeze
  rw [if_neg (by omega)]
  refine hk _ _ _ (.inr ⟨_, rfl, heldL_blk (c := cs) (t := e) (f := if (0 : Nat) == 0 then (cs.size, cs.size + 1) else (min 0 cs.size, max 0 (cs.size + 1))) ?_ hrow⟩) hle ⟨by simp, fun c hc _ => ?_⟩ (fun y ⟨a, ea, ey⟩ => by cases ea; exact Nat.le_of_eq ey)
  · rw [Array.getElem?_modify, if_pos rfl, push_new]; rfl
  · rw [Array.getElem?_modify, if_neg (by simp; omega), Array.getElem?_push, if_neg (by omega)]
end Go.Den
namespace Go.Proofs.YtgccegnmggjkjaaGreatDoor
open Go.Den Go.Fields
namespace Fld
variable {h h' h0 : Heap} {R : Value → Heap → Prop} {p q : Option Addr} {l c : Nat} {bs : List (List UInt8)}

theorem s2b {s : ByteArray} {K : Value → Heap → Prop} (hk : ∀ p c h', Row h' p (bc s.data.toList) → s.size ≤ c → Fr (fun _ => False) h h' → (∀ y, inBlk p y → h.size ≤ y) → K (.slice p s.size c) h') : denSem Tryz.prog (convert T.string T.s_uint8 (.string s)) h K := den_s2b uS uU u8 hk
abbrev nenc (n : BV) : List Value := [n.val]
theorem tN : SlTy Tryz.prog T.s_s_uint8 T.s_uint8 1 24 (.slice none 0 0) := ⟨by kernel_rfl, by kernel_rfl, rfl⟩
theorem uN : Tryz.prog.underlying T.s_s_uint8 = some (.slice T.s_uint8) := by kernel_rfl
theorem nenc_len (n : BV) : (nenc n).length = 1 := rfl
theorem nenc_one (xs : List BV) : ∀ v ∈ xs.flatMap nenc, oneCell v = true := by
  intro v hv
  obtain ⟨a, _, ha⟩ := List.mem_flatMap.1 hv
  simp at ha
  subst ha; rfl

/-- records that were written behind h0 -/
def BL (h0 h : Heap) (p : Option Addr) (l c : Nat) (bs : List (List UInt8)) : Prop :=
  ∃ (xs : List BV) (D : Nat → Prop), l = xs.length ∧ Own h p l c 1 (xs.flatMap nenc) ∧ xs.map BV.b = bs ∧ (∀ x ∈ xs, x.ok h D) ∧ (∀ y, D y → h0.size ≤ y ∧ y < h.size ∧ ¬ inBlk p y) ∧ ∀ y, inBlk p y → h0.size ≤ y
theorem BL.nil : BL h0 h none 0 0 [] := ⟨[], fun _ => False, rfl, .nil rfl rfl rfl rfl, rfl, (fun x hx => by cases hx), (fun y hy => hy.elim), fun y ⟨a, e, _⟩ => by cases e⟩
theorem BL.on (H : BL h0 h p l c bs) (f : Fr (fun _ => False) h h') : BL h0 h' p l c bs := by
  obtain ⟨xs, D, h1, h2, h3, h4, h5, h6⟩ := H
  exact ⟨xs, D, h1, h2.frame f (fun _ _ => id), h3, fun x hx => (h4 x hx).frame f (fun _ _ => id), fun y hy => ⟨(h5 y hy).1, Nat.lt_of_lt_of_le (h5 y hy).2.1 f.1, (h5 y hy).2.2⟩, h6⟩
theorem BL.len (H : BL h0 h p l c bs) : l = bs.length := by
  obtain ⟨xs, D, h1, _, h3, _⟩ := H
  rw [h1, ← h3, List.length_map]
theorem BL.lt (H : BL h0 h p l c bs) {y : Nat} (hy : inBlk p y) : y < h.size := by
  obtain ⟨xs, D, _, h2, _⟩ := H
  exact h2.blk_lt hy
theorem BL.mono {h1 : Heap} (H : BL h1 h p l c bs) (hz : h0.size ≤ h1.size) : BL h0 h p l c bs := by
  obtain ⟨xs, D, h1, h2, h3, h4, h5, h6⟩ := H
  exact ⟨xs, D, h1, h2, h3, h4, fun y hy => ⟨Nat.le_trans hz (h5 y hy).1, (h5 y hy).2⟩, fun y hy => Nat.le_trans hz (h6 y hy)⟩
/-- one record more -/
theorem BL.push {b : List UInt8} {q' : Option Addr} {d : Nat} {K : Value → Heap → Prop} (H : BL h0 h p l c bs) (up : h0.size ≤ h.size) (o : Own h q' b.length d 1 (bc b)) (hq : ∀ y, inBlk q' y → h0.size ≤ y ∧ ¬ inBlk p y) (hl : l ≤ 1000000)
    (hk : ∀ p' c' h', BL h0 h' p' (l + 1) c' (bs ++ [b]) → Fr (inBlk p) h h' → (∀ y, inBlk p' y → inBlk p y ∨ h.size ≤ y) → K (.slice p' (l + 1) c') h') :
    NewP h (.cells #[.slice q' b.length d] T.s_uint8) fun b' h1 => denSem Tryz.prog (Builtin.append_ #[T.s_s_uint8, T.s_s_uint8] T.s_s_uint8 #[.slice p l c, .slice (some ⟨b', 0, none⟩) 1 1]) h1 K := by
  obtain ⟨xs, D, h1, h2, h3, h4, h5, h6⟩ := H
  refine den_append1 tN uN h2 rfl (fun v hv => by simp at hv; subst hv; rfl) (by omega) (by omega) ?_
  intro p' c' h' o' f' g'
  have lt : ∀ y, inBlk q' y → y < h.size := fun y hy => o.blk_lt hy
  refine hk p' c' h' ⟨xs ++ [⟨q', d, b⟩], fun y => D y ∨ inBlk q' y, by rw [List.length_append, h1]; rfl, ?_, ?_, ?_, ?_, ?_⟩ f' g'
  · rw [List.flatMap_append]; simpa using o'
  · rw [List.map_append, h3]; rfl
  · intro x hx
    rcases List.mem_append.1 hx with hx | hx
    · exact ((h4 x hx).frame f' (fun y hy => (h5 y hy).2.2)).mono (fun y => .inl)
    · simp at hx; subst hx
      exact BV.of_own (o.frame f' (fun y hy => (hq y hy).2)) (fun y => .inr)
  · have z := f'.1
    rintro y (hy | hy)
    · exact ⟨(h5 y hy).1, by have := (h5 y hy).2.1; omega, fun hx => (g' y hx).elim (h5 y hy).2.2 (fun h2 => by have := (h5 y hy).2.1; omega)⟩
    · exact ⟨(hq y hy).1, by have := lt y hy; omega, fun hx => (g' y hx).elim (hq y hy).2 (fun h2 => by have := lt y hy; omega)⟩
  · intro y hy
    rcases g' y hy with h2 | h2
    · exact h6 y h2
    · omega
/-- what records say, row by row -/
theorem BL.rows (H : BL h0 h p l c bs) : ∃ xs : List BV, l = xs.length ∧ Row h p (xs.flatMap nenc) ∧ xs.map BV.b = bs ∧ l ≤ c ∧ ∀ x ∈ xs, Row h x.p (bc x.b) := by
  obtain ⟨xs, D, h1, h2, h3, h4, h5, h6⟩ := H
  exact ⟨xs, h1, h2.row', h3, h2.le, fun x hx => (h4 x hx).row⟩
end Fld
end Go.Proofs.YtgccegnmggjkjaaGreatDoor

/-
  Printed by a program of this work (vc.py): the verification conditions of functions, and that each is enough for the call. No condition.
-/
set_option maxRecDepth 100000
set_option maxHeartbeats 4000000
namespace Go.Proofs.YtgccegnmggjkjaaGreatDoor
open Go.Den
def law19_Same.vc (a_p : Option Addr) (a_l a_c : Nat) (b_p : Option Addr) (b_l b_c : Nat) (h : Heap) (R : Value → Heap → Prop) : Prop :=
 if (((a_l : Nat) : Int) != ((b_l : Nat) : Int)) = true then
 R (.bool false) h
 else
 ∃ (I : Int → Heap → Prop) (mu : Int → Heap → Nat), I 0 h ∧ ∀ (i : Int) (h_1 : Heap), I i h_1 →
 if (decide (i < ((a_l : Nat) : Int))) = true then
 ((0 : Int) ≤ i ∧ i < ((a_l : Nat) : Int)) ∧
 onSome a_p fun a =>
 ∃ (t20_p : Option Addr) (t20_l t20_c : Nat), hcell h_1 (a.add (Int.toNat i * 1)) = some (.slice t20_p t20_l t20_c) ∧
 ∃ (t21 : ByteArray), ConvV Tryz.prog T.s_uint8 T.string (.slice t20_p t20_l t20_c) h_1 t21 ∧
 ((0 : Int) ≤ i ∧ i < ((b_l : Nat) : Int)) ∧
 onSome b_p fun a_1 =>
 ∃ (t25_p : Option Addr) (t25_l t25_c : Nat), hcell h_1 (a_1.add (Int.toNat i * 1)) = some (.slice t25_p t25_l t25_c) ∧
 ∃ (t26 : ByteArray), ConvV Tryz.prog T.s_uint8 T.string (.slice t25_p t25_l t25_c) h_1 t26 ∧
 if (!(t21.toList == t26.toList)) = true then
 R (.bool false) h_1
 else
 (I (IntKind.wrap .i64 (i + 1)) h_1 ∧ mu (IntKind.wrap .i64 (i + 1)) h_1 < mu i h_1)
 else
 R (.bool true) h_1
theorem law19_Same.walk {a_p : Option Addr} {a_l a_c : Nat} {b_p : Option Addr} {b_l b_c : Nat} {h : Heap} {R : Value → Heap → Prop} (hv : law19_Same.vc a_p a_l a_c b_p b_l b_c h R) : CallsH Tryz.prog F.law19_Same #[.slice a_p a_l a_c, .slice b_p b_l b_c] h R :=
 callsH_of_body (.seq .leaf (.seq (.seq .leaf (.cond (.seq .leaf .leaf) .leaf)) (.seq (.seq .leaf (.block (.loop [(5, .one (.int .i64))] (.seq (.seq .leaf (.cond .leaf .leaf)) (.seq (.block (.seq (.plan (.op 0 (.op 1 (.op 2 (.op 3 (.op 4 (.op 5 (.op 6 (.op 7 (.op 8 (.op 9 (.op 10 .done)))))))))))) (.cond (.seq .leaf .leaf) .leaf))) .leaf))))) (.seq .leaf .leaf)))) Tryz.func20 rfl rfl (Eq.mp (by kernel_rfl) hv)

end Go.Proofs.YtgccegnmggjkjaaGreatDoor

/-
  What is proved here: rows of records that are only read; law19.Same. No condition.
-/
set_option maxRecDepth 100000
namespace Go.Proofs.YtgccegnmggjkjaaGreatDoor
open Go.Den Go.Fields
namespace Fld
variable {h h' h0 : Heap} {R : Value → Heap → Prop} {p q : Option Addr} {c d i : Nat}

/-- a row of records that is only read -/
structure Rows (h : Heap) (p : Option Addr) (l c : Nat) (xs : List BV) : Prop where
  len : l = xs.length
  row : Row h p (xs.flatMap nenc)
  cap : l ≤ c
  each : ∀ x ∈ xs, Row h x.p (bc x.b)
theorem Rows.on {l c : Nat} {xs : List BV} (H : Rows h p l c xs) (f : Fr (fun _ => False) h h') : Rows h' p l c xs :=
  ⟨H.len, H.row.frame f (fun _ _ => id), H.cap, fun x hx => (H.each x hx).frame f (fun _ _ => id)⟩
theorem BL.to_rows {h0 : Heap} {l c : Nat} {bs : List (List UInt8)} (H : BL h0 h p l c bs) : ∃ xs, Rows h p l c xs ∧ xs.map BV.b = bs := by
  obtain ⟨xs, e1, e2, e3, e4, e5⟩ := H.rows
  exact ⟨xs, ⟨e1, e2, e4, e5⟩, e3⟩
theorem same_ok {l c m d : Nat} {xs ys : List BV} (H1 : Rows h p l c xs) (H2 : Rows h q m d ys) (hm : l ≤ 1000000000) (hk : R (.bool (decide (xs.map BV.b = ys.map BV.b))) h) : CallsH Tryz.prog F.law19_Same #[.slice p l c, .slice q m d] h R := by
  obtain ⟨rfl, r1, _, e1⟩ := H1
  obtain ⟨rfl, r2, _, e2⟩ := H2
  refine law19_Same.walk ?_
  unfold law19_Same.vc
  by_cases hl : xs.length = ys.length
  · have : (((xs.length : Nat) : Int) != ((ys.length : Nat) : Int)) = false := by rw [hl]; simp
    rw [this]
    simp only [Bool.false_eq_true, if_false]
    refine ⟨fun i g => g = h ∧ ∃ k : Nat, i = (k : Int) ∧ k ≤ xs.length ∧ (xs.take k).map BV.b = (ys.take k).map BV.b, fun i _ => xs.length - i.toNat, ⟨rfl, 0, rfl, by omega, by simp⟩, ?_⟩
    rintro _ _ ⟨rfl, k, rfl, hk1, hk2⟩
    by_cases hlt : k < xs.length
    · have q1 : (k : Int) < ((xs.length : Nat) : Int) := by omega
      simp only [q1, decide_true, if_true, Int.toNat_natCast]
      have gx : xs[k]? = some xs[k] := List.getElem?_eq_getElem hlt
      have gy : ys[k]? = some (ys[k]'(by omega)) := List.getElem?_eq_getElem _
      generalize xs[k] = x at gx
      generalize ys[k]'(by omega) = y at gy
      obtain ⟨a, rfl⟩ := r1.some (by intro e; cases xs with | nil => simp at hlt | cons => simp at e)
      obtain ⟨b, rfl⟩ := r2.some (by intro e; cases ys with | nil => simp at gy | cons => simp at e)
      have cx := (r1.heldAt nenc_len gx).1
      have cy := (r2.heldAt nenc_len gy).1
      rw [add_zero_addr] at cx cy
      refine ⟨⟨by first | trivial | omega, by first | trivial | omega⟩, onSome_some.2 ⟨_, _, _, cx, _, conv (e1 x (List.mem_of_getElem? gx)) rfl, ⟨by first | trivial | omega, by first | trivial | omega⟩, onSome_some.2 ⟨_, _, _, cy, _, conv (e2 y (List.mem_of_getElem? gy)) rfl, ?_⟩⟩⟩
      rw [str_list, str_list]
      by_cases hxy : x.b = y.b
      · rw [hxy]
        simp only [beq_self_eq_true, Bool.not_true, Bool.false_eq_true, if_false]
        rw [wrap_id (by omega) (by omega)]
        refine ⟨⟨by first | trivial | rfl, k + 1, by omega, by omega, ?_⟩, by show _ - Int.toNat ((k : Int) + 1) < _; omega⟩
        rw [List.take_add_one, List.take_add_one, gx, gy, List.map_append, List.map_append, hk2]
        simp [hxy]
      · have : (x.b == y.b) = false := by simpa using hxy
        simp only [this, Bool.not_false, if_true]
        have hne : xs.map BV.b ≠ ys.map BV.b := fun e => by
          have h1 : (xs.map BV.b)[k]? = (ys.map BV.b)[k]? := by rw [e]
          rw [List.getElem?_map, List.getElem?_map, gx, gy] at h1
          exact hxy (Option.some.inj h1)
        rw [decide_eq_false hne] at hk
        exact hk
    · have q1 : ¬ (k : Int) < ((xs.length : Nat) : Int) := by omega
      simp only [q1, decide_false, Bool.false_eq_true, if_false]
      obtain rfl : k = xs.length := by omega
      rw [List.take_length, hl, List.take_length] at hk2
      rw [decide_eq_true hk2] at hk
      exact hk
  · have : (((xs.length : Nat) : Int) != ((ys.length : Nat) : Int)) = true := by simp; omega
    rw [if_pos this]
    have hne : xs.map BV.b ≠ ys.map BV.b := fun e => hl (by have := congrArg List.length e; simpa using this)
    rw [decide_eq_false hne] at hk
    exact hk
end Fld
end Go.Proofs.YtgccegnmggjkjaaGreatDoor

/-
  Printed by a program of this work (vc.py): the verification conditions of functions, and that each is enough for the call. No condition.
-/
set_option maxRecDepth 100000
set_option maxHeartbeats 4000000
namespace Go.Proofs.YtgccegnmggjkjaaGreatDoor
open Go.Den
def ref15_Num.vc (n : Int) (h : Heap) (R : Value → Heap → Prop) : Prop :=
 ∃ (I : Int → Option Addr → Nat → Nat → Heap → Prop) (mu : Int → Option Addr → Nat → Nat → Heap → Nat), I n none 0 0 h ∧ ∀ (n_1 : Int) (out_p : Option Addr) (out_l out_c : Nat) (h_1 : Heap), I n_1 out_p out_l out_c h_1 →
 if (decide (n_1 > 127)) = true then
 NewP h_1 (.cells #[.int .u8 (IntKind.wrap .u8 (IntKind.wrap .u64 (128 + (Int.tmod n_1 128))))] T.uint8) fun b h_2 =>
 denSem Tryz.prog (Builtin.append_ #[T.s_uint8, T.s_uint8] T.s_uint8 #[.slice out_p out_l out_c, .slice (some ⟨b, 0, none⟩) 1 1]) h_2 fun v h_3 =>
 ∃ (t12_p : Option Addr) (t12_l t12_c : Nat), v = .slice t12_p t12_l t12_c ∧
 (I (IntKind.wrap .u64 (Int.tdiv n_1 128)) t12_p t12_l t12_c h_3 ∧ mu (IntKind.wrap .u64 (Int.tdiv n_1 128)) t12_p t12_l t12_c h_3 < mu n_1 out_p out_l out_c h_1)
 else
 NewP h_1 (.cells #[.int .u8 (IntKind.wrap .u8 n_1)] T.uint8) fun b_1 h_4 =>
 denSem Tryz.prog (Builtin.append_ #[T.s_uint8, T.s_uint8] T.s_uint8 #[.slice out_p out_l out_c, .slice (some ⟨b_1, 0, none⟩) 1 1]) h_4 fun v_1 h_5 =>
 ∃ (t19_p : Option Addr) (t19_l t19_c : Nat), v_1 = .slice t19_p t19_l t19_c ∧
 R (.slice t19_p t19_l t19_c) h_5
theorem ref15_Num.walk {n : Int} {h : Heap} {R : Value → Heap → Prop} (hv : ref15_Num.vc n h R) : CallsH Tryz.prog F.ref15_Num #[.int .u64 n] h R :=
 callsH_of_body (.seq .leaf (.seq .leaf (.seq (.block (.loop [(0, .one (.int .u64)), (3, .one (.slice))] (.seq (.seq .leaf (.cond .leaf .leaf)) (.block (.seq .leaf .leaf))))) (.seq .leaf .leaf)))) Tryz.func82 rfl rfl (Eq.mp (by kernel_rfl) hv)

def ref15_Text.vc (b_p : Option Addr) (b_l b_c : Nat) (h : Heap) (R : Value → Heap → Prop) : Prop :=
 CallsH Tryz.prog F.ref15_Num #[.int .u64 (IntKind.wrap .u64 ((b_l : Nat) : Int))] h fun v h_1 =>
 ∃ (t6_p : Option Addr) (t6_l t6_c : Nat), v = .slice t6_p t6_l t6_c ∧
 denSem Tryz.prog (Builtin.append_ #[T.s_uint8, T.s_uint8] T.s_uint8 #[.slice t6_p t6_l t6_c, .slice b_p b_l b_c]) h_1 fun v_1 h_2 =>
 ∃ (t8_p : Option Addr) (t8_l t8_c : Nat), v_1 = .slice t8_p t8_l t8_c ∧
 R (.slice t8_p t8_l t8_c) h_2
theorem ref15_Text.walk {b_p : Option Addr} {b_l b_c : Nat} {h : Heap} {R : Value → Heap → Prop} (hv : ref15_Text.vc b_p b_l b_c h R) : CallsH Tryz.prog F.ref15_Text #[.slice b_p b_l b_c] h R :=
 callsH_of_body (.seq .leaf (.seq .leaf .leaf)) Tryz.func80 rfl rfl (Eq.mp (by kernel_rfl) hv)

end Go.Proofs.YtgccegnmggjkjaaGreatDoor

/-
  What is proved here: what the document's functions of layer 15 do that write. No condition.
-/
set_option maxRecDepth 100000
namespace Go.Proofs.YtgccegnmggjkjaaGreatDoor
open Go.Den Go.Fields
namespace Fld
variable {h h0 : Heap} {w r : Nat} {S : Nat → Prop} {bs : List UInt8} {e : Int} {R : Value → Heap → Prop}

/-! ### the document's -/
def refI (h0 : Heap) (n0 : Nat) (n : Int) (p : Option Addr) (l c : Nat) (h : Heap) : Prop :=
  ∃ (m : Nat) (d : List UInt8), n = (m : Int) ∧ m < 18446744073709551616 ∧ l = d.length ∧ Own h p l c 1 (bc d) ∧ d ++ encNum m = encNum n0 ∧ Up h0 (inBlk p) h
theorem refByte (m : Nat) : IntKind.wrap .u8 (IntKind.wrap .u64 (128 + (Int.tmod (m : Int) 128))) = ((UInt8.ofNat (m % 128 + 128)).toNat : Int) := by
  have e1 : Int.tmod (m : Int) 128 = ((m % 128 : Nat) : Int) := by rw [Int.tmod_eq_emod_of_nonneg (by omega)]; omega
  rw [e1, wrap_u64 (by omega) (by omega), UInt8.toNat_ofNat', wrap_u8 (by omega) (by omega)]; omega
theorem Up.app {h0 h h' : Heap} {p p' : Option Addr} (u : Up h0 (inBlk p) h) (f : Fr (inBlk p) h h') (g : ∀ c, inBlk p' c → inBlk p c ∨ h.size ≤ c) : Up h0 (inBlk p') h' :=
  u.step ⟨f, g⟩
theorem refNum_ok {n : Int} (k : Nat) (e : n = (k : Int)) (hn : k < 18446744073709551616) (hk : ∀ p c h', Own h' p (encNum k).length c 1 (bc (encNum k)) → Up h (inBlk p) h' → R (.slice p (encNum k).length c) h') :
    CallsH Tryz.prog F.ref15_Num #[.int .u64 n] h R := by
  subst e
  refine ref15_Num.walk ⟨refI h k, fun n _ _ _ _ => n.toNat, ⟨k, [], rfl, hn, rfl, .nil rfl rfl rfl rfl, rfl, ⟨Fr.refl _ _, fun c ⟨a, e, _⟩ => by cases e⟩⟩, ?_⟩
  rintro _ p _ c h1 ⟨m, d, rfl, hm, rfl, o, hd, u⟩
  have hdl : d.length ≤ 10 := by
    have := congrArg List.length hd
    rw [List.length_append] at this
    have := (encNum_len k).2
    omega
  by_cases hgt : (m : Int) > 127
  · simp only [hgt, decide_true, if_true]
    rw [refByte]
    refine den_append1 tU uU o rfl (fun v hv => by simp at hv; subst hv; rfl) (by omega) (by omega) ?_
    intro p' c' h2 o2 f2 g2
    have e2 : IntKind.wrap .u64 (Int.tdiv (m : Int) 128) = ((m / 128 : Nat) : Int) := by
      rw [Int.tdiv_eq_ediv_of_nonneg (by omega), wrap_u64 (by omega) (by omega)]; omega
    rw [e2]
    refine ⟨_, _, _, rfl, ⟨m / 128, d ++ [UInt8.ofNat (m % 128 + 128)], rfl, by omega, by simp, by rw [bc_append]; exact o2, ?_, Up.app u f2 g2⟩, ?_⟩
    · rw [← hd, encNum_step hm, if_pos (by omega)]; simp
    · show Int.toNat ((m / 128 : Nat) : Int) < Int.toNat (m : Int)
      omega
  · simp only [hgt, decide_false, Bool.false_eq_true, if_false]
    have e3 : IntKind.wrap .u8 (m : Int) = ((UInt8.ofNat m).toNat : Int) := by rw [wrap_u8_nat, UInt8.toNat_ofNat']
    rw [e3]
    refine den_append1 tU uU o rfl (fun v hv => by simp at hv; subst hv; rfl) (by omega) (by omega) ?_
    intro p' c' h2 o2 f2 g2
    have e4 : d ++ [UInt8.ofNat m] = encNum k := by rw [← hd, encNum_step hm, if_neg (by omega)]
    have e5 : d.length + 1 = (encNum k).length := by rw [← e4]; simp
    rw [e5] at o2 ⊢
    refine ⟨_, _, _, rfl, hk p' c' h2 ?_ (Up.app u f2 g2)⟩
    rw [← e4, bc_append, e4]; exact o2
theorem refText_ok {p : Option Addr} {n c : Nat} {t : List UInt8} (hr : Row h p (bc t)) (hn : n = t.length) (ht : t.length ≤ 1099511627776) (hk : ∀ p c h', Own h' p (encText t).length c 1 (bc (encText t)) → Up h (inBlk p) h' → R (.slice p (encText t).length c) h') :
    CallsH Tryz.prog F.ref15_Text #[.slice p n c] h R := by
  subst hn
  refine ref15_Text.walk (refNum_ok t.length (wrap_u64 (by omega) (by omega)) (by omega) fun q d h1 o1 u1 => ⟨_, _, _, rfl, ?_⟩)
  have hlen := (encNum_len t.length).2
  refine den_append tU uU o1 (hr.frame u1.fr (fun _ _ => id)) (by rw [bc_len, Nat.mul_one]) (bc_one t) (by omega) (by omega) ?_
  intro p' c' h' o2 _ f2 g
  have e : (encNum t.length).length + t.length = (encText t).length := by unfold encText; rw [List.length_append]
  rw [e] at o2 ⊢
  refine ⟨_, _, _, rfl, hk p' c' h' ?_ (Up.app u1 f2 g)⟩
  unfold encText; rw [bc_append]; exact o2

end Fld
end Go.Proofs.YtgccegnmggjkjaaGreatDoor

/-
  Printed by a program of this work (vc.py): the verification conditions of functions, and that each is enough for the call. No condition.
-/
set_option maxRecDepth 100000
set_option maxHeartbeats 4000000
namespace Go.Proofs.YtgccegnmggjkjaaGreatDoor
open Go.Den
def regs_Table_Save.vc (t : Nat) (h : Heap) (R : Value → Heap → Prop) : Prop :=
 CallsH Tryz.prog F.regs_Table_All #[.pointer (some ⟨t, 0, none⟩)] h fun v h_1 =>
 ∃ (t7_p : Option Addr) (t7_l t7_c : Nat), v = .slice t7_p t7_l t7_c ∧
 ∃ (I : Option Addr → Nat → Nat → Int → Heap → Prop) (mu : Option Addr → Nat → Nat → Int → Heap → Nat), I none 0 0 0 h_1 ∧ ∀ (out_p : Option Addr) (out_l out_c : Nat) (t9 : Int) (h_2 : Heap), I out_p out_l out_c t9 h_2 →
 if (decide (t9 < ((t7_l : Nat) : Int))) = true then
 ((0 : Int) ≤ t9 ∧ t9 < ((t7_l : Nat) : Int)) ∧
 onSome t7_p fun a =>
 regs_Reg.LD h_2 (a.add (Int.toNat t9 * 7)) fun t12_0 t12_1 t12_2 t12_3 t12_4 t12_5 t12_6 =>
 NewP h_2 (.cells #[.bool false, .int .u64 0, .int .u64 0, .string (⟨#[]⟩ : ByteArray), .string (⟨#[]⟩ : ByteArray), .int .i64 0, .int .i64 0] T.regs_Reg) fun b h_3 =>
 regs_Reg.ST h_3 ⟨b, 0, none⟩ t12_0 t12_1 t12_2 t12_3 t12_4 t12_5 t12_6 fun h_4 =>
 regs_Reg.LD h_4 ⟨b, 0, none⟩ fun t14_0 t14_1 t14_2 t14_3 t14_4 t14_5 t14_6 =>
 CallsH Tryz.prog F.regs_record #[.agg #[.bool t14_0, .int .u64 t14_1, .int .u64 t14_2, .string t14_3, .string t14_4, .int .i64 t14_5, .int .i64 t14_6]] h_4 fun v_1 h_5 =>
 ∃ (t15_p : Option Addr) (t15_l t15_c : Nat), v_1 = .slice t15_p t15_l t15_c ∧
 NewP h_5 (.cells #[.slice t15_p t15_l t15_c] T.s_uint8) fun b_1 h_6 =>
 denSem Tryz.prog (Builtin.append_ #[T.s_s_uint8, T.s_s_uint8] T.s_s_uint8 #[.slice out_p out_l out_c, .slice (some ⟨b_1, 0, none⟩) 1 1]) h_6 fun v_2 h_7 =>
 ∃ (t17_p : Option Addr) (t17_l t17_c : Nat), v_2 = .slice t17_p t17_l t17_c ∧
 (I t17_p t17_l t17_c (IntKind.wrap .i64 (t9 + 1)) h_7 ∧ mu t17_p t17_l t17_c (IntKind.wrap .i64 (t9 + 1)) h_7 < mu out_p out_l out_c t9 h_2)
 else
 R (.slice out_p out_l out_c) h_2
theorem regs_Table_Save.walk {t : Nat} {h : Heap} {R : Value → Heap → Prop} (hv : regs_Table_Save.vc t h R) : CallsH Tryz.prog F.regs_Table_Save #[.pointer (some ⟨t, 0, none⟩)] h R :=
 callsH_of_body (.seq .leaf (.seq .leaf (.seq (.seq .leaf (.block (.loop [(3, .one (.slice)), (9, .one (.int .i64))] (.seq .leaf (.seq (.cond .leaf .leaf) (.seq (.block (.seq .leaf .leaf)) .leaf)))))) (.seq .leaf .leaf)))) Tryz.func35 rfl rfl (Eq.mp (by kernel_rfl) hv)

def regs_record.vc (r_0 : Bool) (r_1 : Int) (r_2 : Int) (r_3 : ByteArray) (r_4 : ByteArray) (r_5 : Int) (r_6 : Int) (h : Heap) (R : Value → Heap → Prop) : Prop :=
 NewP h (.cells #[.bool r_0, .int .u64 r_1, .int .u64 r_2, .string r_3, .string r_4, .int .i64 r_5, .int .i64 r_6] T.regs_Reg) fun b h_1 =>
 eid_Eid.LD h_1 ⟨b, 0, none⟩ fun t7_0 t7_1 t7_2 t7_3 t7_4 =>
 CallsH Tryz.prog F.eid_Text #[.agg #[.bool t7_0, .int .u64 t7_1, .int .u64 t7_2, .string t7_3, .string t7_4]] h_1 fun v h_2 =>
 ∃ (t8_0 : ByteArray), ∃ (t8_1 : Int), v = .tuple #[.string t8_0, .int .i64 t8_1] ∧
 ∃ (t16 : Int), hcell h_2 ⟨b, 5, none⟩ = some (.int .i64 t16) ∧
 ∃ (t19 : Int), hcell h_2 ⟨b, 6, none⟩ = some (.int .i64 t19) ∧
 (CallsH Tryz.prog F.fields_New #[] h_2 fun v_1 h_3 =>
 ∃ (t11 : Option Addr), v_1 = .pointer t11 ∧
 hcell h_3 ⟨b, 6, none⟩ = some (.int .i64 t19) ∧
 hcell h_3 ⟨b, 5, none⟩ = some (.int .i64 t16) ∧
 denSem Tryz.prog (convert T.string T.s_uint8 (.string t8_0)) h_3 fun v_2 h_4 =>
 ∃ (t13_p : Option Addr) (t13_l t13_c : Nat), v_2 = .slice t13_p t13_l t13_c ∧
 hcell h_4 ⟨b, 6, none⟩ = some (.int .i64 t19) ∧
 hcell h_4 ⟨b, 5, none⟩ = some (.int .i64 t16) ∧
 CallsH Tryz.prog F.fields_Writer_Text #[.pointer t11, .slice t13_p t13_l t13_c] h_4 fun v_3 h_5 =>
 ∃ (t14 : Option Addr), v_3 = .pointer t14 ∧
 hcell h_5 ⟨b, 6, none⟩ = some (.int .i64 t19) ∧
 hcell h_5 ⟨b, 5, none⟩ = some (.int .i64 t16) ∧
 CallsH Tryz.prog F.fields_Writer_Int #[.pointer t14, .int .i64 t16] h_5 fun v_4 h_6 =>
 ∃ (t17 : Option Addr), v_4 = .pointer t17 ∧
 hcell h_6 ⟨b, 6, none⟩ = some (.int .i64 t19) ∧
 CallsH Tryz.prog F.fields_Writer_Int #[.pointer t17, .int .i64 t19] h_6 fun v_5 h_7 =>
 ∃ (t20 : Option Addr), v_5 = .pointer t20 ∧
 CallsH Tryz.prog F.fields_Writer_Bytes #[.pointer t20] h_7 fun v_6 h_8 =>
 ∃ (t21_p : Option Addr) (t21_l t21_c : Nat), v_6 = .slice t21_p t21_l t21_c ∧
 R (.slice t21_p t21_l t21_c) h_8) ∧
 (denSem Tryz.prog (convert T.string T.s_uint8 (.string t8_0)) h_2 fun v_7 h_9 =>
 ∃ (t13_p_1 : Option Addr) (t13_l_1 t13_c_1 : Nat), v_7 = .slice t13_p_1 t13_l_1 t13_c_1 ∧
 hcell h_9 ⟨b, 6, none⟩ = some (.int .i64 t19) ∧
 hcell h_9 ⟨b, 5, none⟩ = some (.int .i64 t16) ∧
 CallsH Tryz.prog F.fields_New #[] h_9 fun v_8 h_10 =>
 ∃ (t11_1 : Option Addr), v_8 = .pointer t11_1 ∧
 hcell h_10 ⟨b, 6, none⟩ = some (.int .i64 t19) ∧
 hcell h_10 ⟨b, 5, none⟩ = some (.int .i64 t16) ∧
 CallsH Tryz.prog F.fields_Writer_Text #[.pointer t11_1, .slice t13_p_1 t13_l_1 t13_c_1] h_10 fun v_9 h_11 =>
 ∃ (t14_1 : Option Addr), v_9 = .pointer t14_1 ∧
 hcell h_11 ⟨b, 6, none⟩ = some (.int .i64 t19) ∧
 hcell h_11 ⟨b, 5, none⟩ = some (.int .i64 t16) ∧
 CallsH Tryz.prog F.fields_Writer_Int #[.pointer t14_1, .int .i64 t16] h_11 fun v_10 h_12 =>
 ∃ (t17_1 : Option Addr), v_10 = .pointer t17_1 ∧
 hcell h_12 ⟨b, 6, none⟩ = some (.int .i64 t19) ∧
 CallsH Tryz.prog F.fields_Writer_Int #[.pointer t17_1, .int .i64 t19] h_12 fun v_11 h_13 =>
 ∃ (t20_1 : Option Addr), v_11 = .pointer t20_1 ∧
 CallsH Tryz.prog F.fields_Writer_Bytes #[.pointer t20_1] h_13 fun v_12 h_14 =>
 ∃ (t21_p_1 : Option Addr) (t21_l_1 t21_c_1 : Nat), v_12 = .slice t21_p_1 t21_l_1 t21_c_1 ∧
 R (.slice t21_p_1 t21_l_1 t21_c_1) h_14) ∧
 True
theorem regs_record.walk {r_0 : Bool} {r_1 : Int} {r_2 : Int} {r_3 : ByteArray} {r_4 : ByteArray} {r_5 : Int} {r_6 : Int} {h : Heap} {R : Value → Heap → Prop} (hv : regs_record.vc r_0 r_1 r_2 r_3 r_4 r_5 r_6 h R) : CallsH Tryz.prog F.regs_record #[.agg #[.bool r_0, .int .u64 r_1, .int .u64 r_2, .string r_3, .string r_4, .int .i64 r_5, .int .i64 r_6]] h R :=
 callsH_of_body (.seq .leaf (.seq .leaf (.seq (.plan (.op 1 (.op 4 (.op 5 (.op 7 (.op 8 (.alts (.fork 0 (.op 2 (.op 3 (.op 6 (.op 9 (.op 10 (.op 11 .done)))))) (.fork 2 (.op 0 (.op 3 (.op 6 (.op 9 (.op 10 (.op 11 .done)))))) .noalt))))))))) .leaf))) Tryz.func94 rfl rfl (Eq.mp (by kernel_rfl) hv)

def regs_Load.vc (l_p : Option Addr) (l_l l_c : Nat) (h : Heap) (R : Value → Heap → Prop) : Prop :=
 CallsH Tryz.prog F.regs_New #[] h fun v h_1 =>
 ∃ (t11 : Option Addr), v = .pointer t11 ∧
 ∃ (I : Int → Heap → Prop) (mu : Int → Heap → Nat), I 0 h_1 ∧ ∀ (t14 : Int) (h_2 : Heap), I t14 h_2 →
 if (decide (t14 < ((l_l : Nat) : Int))) = true then
 ((0 : Int) ≤ t14 ∧ t14 < ((l_l : Nat) : Int)) ∧
 onSome l_p fun a =>
 ∃ (t17_p : Option Addr) (t17_l t17_c : Nat), hcell h_2 (a.add (Int.toNat t14 * 1)) = some (.slice t17_p t17_l t17_c) ∧
 CallsH Tryz.prog F.fields_Read #[.slice t17_p t17_l t17_c] h_2 fun v_1 h_3 =>
 ∃ (t19 : Option Addr), v_1 = .pointer t19 ∧
 CallsH Tryz.prog F.fields_Reader_Text #[.pointer t19] h_3 fun v_2 h_4 =>
 ∃ (t22_p : Option Addr) (t22_l t22_c : Nat), v_2 = .slice t22_p t22_l t22_c ∧
 ∃ (t23 : ByteArray), ConvV Tryz.prog T.s_uint8 T.string (.slice t22_p t22_l t22_c) h_4 t23 ∧
 CallsH Tryz.prog F.eid_Parse #[.string t23] h_4 fun v_3 h_5 =>
 ∃ (t24_0_0 : Bool), ∃ (t24_0_1 : Int), ∃ (t24_0_2 : Int), ∃ (t24_0_3 : ByteArray), ∃ (t24_0_4 : ByteArray), ∃ (t24_1 : Int), v_3 = .tuple #[.agg #[.bool t24_0_0, .int .u64 t24_0_1, .int .u64 t24_0_2, .string t24_0_3, .string t24_0_4], .int .i64 t24_1] ∧
 NewP h_5 (.cells #[.bool false, .int .u64 0, .int .u64 0, .string (⟨#[]⟩ : ByteArray), .string (⟨#[]⟩ : ByteArray)] T.eid_Eid) fun b h_6 =>
 eid_Eid.ST h_6 ⟨b, 0, none⟩ t24_0_0 t24_0_1 t24_0_2 t24_0_3 t24_0_4 fun h_7 =>
 JoinP (fun (r : Option Addr) (h_8 : Heap) =>
 JoinP (fun (t48 : Bool) (h_9 : Heap) =>
 if t48 = true then
 R (.tuple #[.pointer none, .int .i64 3]) h_9
 else
 (I (IntKind.wrap .i64 (t14 + 1)) h_9 ∧ mu (IntKind.wrap .i64 (t14 + 1)) h_9 < mu t14 h_2))
 (fun J_1 =>
 CallsH Tryz.prog F.fields_Reader_End #[.pointer t19] h_8 fun v_4 h_10 =>
 ∃ (t34 : Int), v_4 = .int .i64 t34 ∧
 if (t34 != 0) = true then
 J_1 true h_10
 else
 onSome r fun a_1 =>
 regs_Reg.LD h_10 a_1 fun t38_0 t38_1 t38_2 t38_3 t38_4 t38_5 t38_6 =>
 CallsH Tryz.prog F.regs_Table_Add #[.pointer t11, .agg #[.bool t38_0, .int .u64 t38_1, .int .u64 t38_2, .string t38_3, .string t38_4, .int .i64 t38_5, .int .i64 t38_6]] h_10 fun v_5 h_11 =>
 ∃ (t39 : Int), v_5 = .int .i64 t39 ∧
 if (t39 != 0) = true then
 J_1 true h_11
 else
 onSome r fun a_2 =>
 regs_Reg.LD h_11 a_2 fun t43_0 t43_1 t43_2 t43_3 t43_4 t43_5 t43_6 =>
 CallsH Tryz.prog F.regs_record #[.agg #[.bool t43_0, .int .u64 t43_1, .int .u64 t43_2, .string t43_3, .string t43_4, .int .i64 t43_5, .int .i64 t43_6]] h_11 fun v_6 h_12 =>
 ∃ (t44_p : Option Addr) (t44_l t44_c : Nat), v_6 = .slice t44_p t44_l t44_c ∧
 CallsH Tryz.prog F.bytes_Equal #[.slice t44_p t44_l t44_c, .slice t17_p t17_l t17_c] h_12 fun v_7 h_13 =>
 ∃ (t46 : Bool), v_7 = .bool t46 ∧
 J_1 (!t46) h_13))
 (fun J =>
 eid_Eid.LD h_7 ⟨b, 0, none⟩ fun t27_0 t27_1 t27_2 t27_3 t27_4 =>
 (CallsH Tryz.prog F.fields_Reader_Int #[.pointer t19] h_7 fun v_8 h_14 =>
 ∃ (t29 : Int), v_8 = .int .i64 t29 ∧
 heldL ⟨b, 0, none⟩ [.bool t27_0, .int .u64 t27_1, .int .u64 t27_2, .string t27_3, .string t27_4] 0 h_14 ∧
 (CallsH Tryz.prog F.fields_Reader_Int #[.pointer t19] h_14 fun v_9 h_15 =>
 ∃ (t31 : Int), v_9 = .int .i64 t31 ∧
 heldL ⟨b, 0, none⟩ [.bool t27_0, .int .u64 t27_1, .int .u64 t27_2, .string t27_3, .string t27_4] 0 h_15 ∧
 NewP h_15 (.cells #[.bool false, .int .u64 0, .int .u64 0, .string (⟨#[]⟩ : ByteArray), .string (⟨#[]⟩ : ByteArray), .int .i64 0, .int .i64 0] T.regs_Reg) fun b_1 h_16 =>
 heldL ⟨b, 0, none⟩ [.bool t27_0, .int .u64 t27_1, .int .u64 t27_2, .string t27_3, .string t27_4] 0 h_16 ∧
 regs_Reg.ST h_16 ⟨b_1, 0, none⟩ t27_0 t27_1 t27_2 t27_3 t27_4 t29 t31 fun h_17 =>
 J (some ⟨b_1, 0, none⟩) h_17) ∧
 (NewP h_14 (.cells #[.bool false, .int .u64 0, .int .u64 0, .string (⟨#[]⟩ : ByteArray), .string (⟨#[]⟩ : ByteArray), .int .i64 0, .int .i64 0] T.regs_Reg) fun b_2 h_18 =>
 heldL ⟨b, 0, none⟩ [.bool t27_0, .int .u64 t27_1, .int .u64 t27_2, .string t27_3, .string t27_4] 0 h_18 ∧
 CallsH Tryz.prog F.fields_Reader_Int #[.pointer t19] h_18 fun v_10 h_19 =>
 ∃ (t31_1 : Int), v_10 = .int .i64 t31_1 ∧
 heldL ⟨b, 0, none⟩ [.bool t27_0, .int .u64 t27_1, .int .u64 t27_2, .string t27_3, .string t27_4] 0 h_19 ∧
 regs_Reg.ST h_19 ⟨b_2, 0, none⟩ t27_0 t27_1 t27_2 t27_3 t27_4 t29 t31_1 fun h_20 =>
 J (some ⟨b_2, 0, none⟩) h_20) ∧
 True) ∧
 (NewP h_7 (.cells #[.bool false, .int .u64 0, .int .u64 0, .string (⟨#[]⟩ : ByteArray), .string (⟨#[]⟩ : ByteArray), .int .i64 0, .int .i64 0] T.regs_Reg) fun b_3 h_21 =>
 heldL ⟨b, 0, none⟩ [.bool t27_0, .int .u64 t27_1, .int .u64 t27_2, .string t27_3, .string t27_4] 0 h_21 ∧
 CallsH Tryz.prog F.fields_Reader_Int #[.pointer t19] h_21 fun v_11 h_22 =>
 ∃ (t29_1 : Int), v_11 = .int .i64 t29_1 ∧
 heldL ⟨b, 0, none⟩ [.bool t27_0, .int .u64 t27_1, .int .u64 t27_2, .string t27_3, .string t27_4] 0 h_22 ∧
 CallsH Tryz.prog F.fields_Reader_Int #[.pointer t19] h_22 fun v_12 h_23 =>
 ∃ (t31_2 : Int), v_12 = .int .i64 t31_2 ∧
 heldL ⟨b, 0, none⟩ [.bool t27_0, .int .u64 t27_1, .int .u64 t27_2, .string t27_3, .string t27_4] 0 h_23 ∧
 regs_Reg.ST h_23 ⟨b_3, 0, none⟩ t27_0 t27_1 t27_2 t27_3 t27_4 t29_1 t31_2 fun h_24 =>
 J (some ⟨b_3, 0, none⟩) h_24) ∧
 True)
 else
 CallsH Tryz.prog F.regs_Table_Save #[.pointer t11] h_2 fun v_13 h_25 =>
 ∃ (t51_p : Option Addr) (t51_l t51_c : Nat), v_13 = .slice t51_p t51_l t51_c ∧
 CallsH Tryz.prog F.slices_EqualFunc_s_s_byte_s_s_byte_s_byte_s_byte #[.slice t51_p t51_l t51_c, .slice l_p l_l l_c, .func (.func F.bytes_Equal) #[] #[]] h_25 fun v_14 h_26 =>
 ∃ (t53 : Bool), v_14 = .bool t53 ∧
 if (!t53) = true then
 R (.tuple #[.pointer none, .int .i64 3]) h_26
 else
 R (.tuple #[.pointer t11, .int .i64 0]) h_26
theorem regs_Load.walk {l_p : Option Addr} {l_l l_c : Nat} {h : Heap} {R : Value → Heap → Prop} (hv : regs_Load.vc l_p l_l l_c h R) : CallsH Tryz.prog F.regs_Load #[.slice l_p l_l l_c] h R :=
 callsH_of_body (.seq .leaf (.seq .leaf (.seq (.seq .leaf (.block (.loop [(14, .one (.int .i64))] (.seq .leaf (.seq (.cond .leaf .leaf) (.seq (.block (.seq .leaf (.seq .leaf (.seq .leaf (.seq (.join [(10, .one (.ptr))] (.plan (.op 0 (.op 1 (.op 3 (.alts (.fork 2 (.alts (.fork 4 (.op 5 (.op 6 (.op 7 .done))) (.fork 6 (.op 4 (.op 5 (.op 7 .done))) .noalt))) (.fork 6 (.op 2 (.op 4 (.op 5 (.op 7 .done)))) .noalt)))))))) (.seq (.join [(48, .one (.bool))] .leaf) (.cond (.seq .leaf .leaf) .leaf))))))) .leaf)))))) (.seq (.seq .leaf (.cond (.seq .leaf .leaf) .leaf)) (.seq .leaf .leaf))))) Tryz.func36 rfl rfl (Eq.mp (by kernel_rfl) hv)

def bytes_Equal.vc (a_p : Option Addr) (a_l a_c : Nat) (b_p : Option Addr) (b_l b_c : Nat) (h : Heap) (R : Value → Heap → Prop) : Prop :=
 ∃ (t6 : ByteArray), ConvV Tryz.prog T.s_uint8 T.string (.slice a_p a_l a_c) h t6 ∧
 ∃ (t8 : ByteArray), ConvV Tryz.prog T.s_uint8 T.string (.slice b_p b_l b_c) h t8 ∧
 R (.bool (t6.toList == t8.toList)) h
theorem bytes_Equal.walk {a_p : Option Addr} {a_l a_c : Nat} {b_p : Option Addr} {b_l b_c : Nat} {h : Heap} {R : Value → Heap → Prop} (hv : bytes_Equal.vc a_p a_l a_c b_p b_l b_c h R) : CallsH Tryz.prog F.bytes_Equal #[.slice a_p a_l a_c, .slice b_p b_l b_c] h R :=
 callsH_of_body (.seq .leaf (.seq .leaf .leaf)) Tryz.func100 rfl rfl (Eq.mp (by kernel_rfl) hv)

def slices_EqualFunc_s_s_byte_s_s_byte_s_byte_s_byte.eq.vc (s1_p : Option Addr) (s1_l s1_c : Nat) (s2_p : Option Addr) (s2_l s2_c : Nat) (h : Heap) (R : Value → Heap → Prop) : Prop :=
 if (((s1_l : Nat) : Int) != ((s2_l : Nat) : Int)) = true then
 R (.bool false) h
 else
 ∃ (I : Int → Heap → Prop) (mu : Int → Heap → Nat), I 0 h ∧ ∀ (t17 : Int) (h_1 : Heap), I t17 h_1 →
 if (decide (t17 < ((s1_l : Nat) : Int))) = true then
 ((0 : Int) ≤ t17 ∧ t17 < ((s1_l : Nat) : Int)) ∧
 onSome s1_p fun a =>
 ∃ (t21_p : Option Addr) (t21_l t21_c : Nat), hcell h_1 (a.add (Int.toNat t17 * 1)) = some (.slice t21_p t21_l t21_c) ∧
 ((0 : Int) ≤ t17 ∧ t17 < ((s2_l : Nat) : Int)) ∧
 onSome s2_p fun a_1 =>
 ∃ (t25_p : Option Addr) (t25_l t25_c : Nat), hcell h_1 (a_1.add (Int.toNat t17 * 1)) = some (.slice t25_p t25_l t25_c) ∧
 CallsH Tryz.prog F.bytes_Equal #[.slice t21_p t21_l t21_c, .slice t25_p t25_l t25_c] h_1 fun v h_2 =>
 ∃ (t29 : Bool), v = .bool t29 ∧
 if (!t29) = true then
 R (.bool false) h_2
 else
 (I (IntKind.wrap .i64 (t17 + 1)) h_2 ∧ mu (IntKind.wrap .i64 (t17 + 1)) h_2 < mu t17 h_1)
 else
 R (.bool true) h_1
theorem slices_EqualFunc_s_s_byte_s_s_byte_s_byte_s_byte.eq.walk {s1_p : Option Addr} {s1_l s1_c : Nat} {s2_p : Option Addr} {s2_l s2_c : Nat} {h : Heap} {R : Value → Heap → Prop} (hv : slices_EqualFunc_s_s_byte_s_s_byte_s_byte_s_byte.eq.vc s1_p s1_l s1_c s2_p s2_l s2_c h R) : CallsH Tryz.prog F.slices_EqualFunc_s_s_byte_s_s_byte_s_byte_s_byte #[.slice s1_p s1_l s1_c, .slice s2_p s2_l s2_c, .func (.func F.bytes_Equal) #[] #[]] h R :=
 callsH_of_body (.seq .leaf (.seq (.seq .leaf (.cond (.seq .leaf .leaf) .leaf)) (.seq (.seq .leaf (.block (.loop [(17, .one (.int .i64))] (.seq .leaf (.seq (.cond .leaf .leaf) (.seq (.block (.seq .leaf (.seq .leaf (.seq .leaf (.cond (.seq .leaf .leaf) .leaf))))) .leaf)))))) (.seq .leaf .leaf)))) Tryz.func101 rfl rfl (Eq.mp (by kernel_rfl) hv)

end Go.Proofs.YtgccegnmggjkjaaGreatDoor

/-
  What is proved here: a table of registrations is saved: regs.record, regs.Save. No condition.
-/
set_option maxRecDepth 100000
namespace Go.Proofs.YtgccegnmggjkjaaGreatDoor
open Go.Den Go.Fields
namespace Regs
open Eid Fld
variable {h h' : Heap} {R : Value → Heap → Prop} {b x : Nat} {X Y : Ft} {L L' : List Rg} {p : Option Addr} {c n i : Nat} {r : Rg}
/-- a registration's record -/
def recR (r : Rg) : List UInt8 := encText (textE r.e) ++ encNum (natOf r.pol) ++ encNum (natOf r.own)
structure okR (r : Rg) : Prop where
  rt : rightR r = true
  sv : 0 ≤ r.e.svc
theorem okR.e (k : okR r) : rightE r.e = true ∧ 0 ≤ r.pol ∧ r.pol ≤ 2 ∧ 1 ≤ r.own ∧ r.own ≤ 1099511627776 := by
  have := k.rt
  unfold rightR at this
  simp only [Bool.and_eq_true, Bool.not_eq_true', decide_eq_true_eq, decide_eq_false_iff_not] at this
  exact ⟨this.1, this.2.2.1.1, this.2.2.1.2, this.2.2.2.1, this.2.2.2.2⟩
theorem recR_len (k : okR r) : (recR r).length ≤ 200 := by
  have l0 := text_len k.e.1 k.sv
  have l1 := (encNum_len (textE r.e).length).2
  have l2 := (encNum_len (natOf r.pol)).2
  have l3 := (encNum_len (natOf r.own)).2
  unfold recR encText
  simp only [List.length_append]; omega
theorem record_ok (k : okR r) (tb : Num.Tab h) (hk : ∀ p' c' h', Own h' p' (recR r).length c' 1 (bc (recR r)) → Fr (fun _ => False) h h' → (∀ y, inBlk p' y → h.size ≤ y) → R (.slice p' (recR r).length c') h') : CallsH Tryz.prog F.regs_record #[r.val] h R := by
  have ke := k.e
  refine regs_record.walk (regs_Reg.box fun b h1 eb hb f1 => ld_e hb (Eid.text_ok r.e (tb.on f1) k.sv fun h2 f2 => ?_))
  simp only [ke.1, if_true]
  refine ⟨_, _, rfl, ?_⟩
  have hb2 : r.at h2 b := f2.get hb id
  have F2 := f1.tt f2
  have l0 := text_len ke.1 k.sv
  have sz : (str (textE r.e)).size = (textE r.e).length := str_size _
  have dt : (str (textE r.e)).data.toList = textE r.e := by unfold str; simp
  have tail : ∀ g (w : Nat) (S : Nat → Prop) q d, Fr (fun _ => False) h2 g → Wr g w S [] → (∀ y, S y → h2.size ≤ y) → Row g q (bc (textE r.e)) → (∀ y, inBlk q y → ¬ S y) → hcell g ⟨b, 6, none⟩ = some (.int .i64 r.own) ∧ hcell g ⟨b, 5, none⟩ = some (.int .i64 r.pol) ∧ CallsH Tryz.prog F.fields_Writer_Text #[.pointer (some ⟨w, 0, none⟩), .slice q (str (textE r.e)).size d] g fun v_3 h_5 =>
      ∃ (t14 : Option Addr), v_3 = .pointer t14 ∧
      hcell h_5 ⟨b, 6, none⟩ = some (.int .i64 r.own) ∧
      hcell h_5 ⟨b, 5, none⟩ = some (.int .i64 r.pol) ∧
      CallsH Tryz.prog F.fields_Writer_Int #[.pointer t14, .int .i64 r.pol] h_5 fun v_4 h_6 =>
      ∃ (t17 : Option Addr), v_4 = .pointer t17 ∧
      hcell h_6 ⟨b, 6, none⟩ = some (.int .i64 r.own) ∧
      CallsH Tryz.prog F.fields_Writer_Int #[.pointer t17, .int .i64 r.own] h_6 fun v_5 h_7 =>
      ∃ (t20 : Option Addr), v_5 = .pointer t20 ∧
      CallsH Tryz.prog F.fields_Writer_Bytes #[.pointer t20] h_7 fun v_6 h_8 =>
      ∃ (t21_p : Option Addr) (t21_l t21_c : Nat), v_6 = .slice t21_p t21_l t21_c ∧
      R (.slice t21_p t21_l t21_c) h_8 := by
    intro g w S q d fg W hS row hq
    have bS : ∀ {S' : Nat → Prop}, (∀ y, S' y → h2.size ≤ y) → ¬ S' b := fun hh hn => by have := hh b hn; have := lt_of_get hb2; omega
    have hbg : r.at g b := fg.get hb2 id
    have zg := fg.1
    refine ⟨cell_at hbg rfl, cell_at hbg rfl, Fld.text_ok W (by simp) row sz (by omega) hq fun g1 S1 W1 st1 => ?_⟩
    have hS1 : ∀ y, S1 y → h2.size ≤ y := fun y hy => (st1.new y hy).elim (hS y) (fun h1 => by omega)
    have hb1 : r.at g1 b := st1.fr.get hbg (bS hS)
    have z1 := st1.fr.1
    have lt := text_len ke.1 k.sv
    have l1 := (encNum_len (textE r.e).length).2
    have l2 := (encNum_len (natOf r.pol)).2
    have l3 := (encNum_len (natOf r.own)).2
    have el : (encText (textE r.e)).length = (encNum (textE r.e).length).length + (textE r.e).length := by unfold encText; rw [List.length_append]
    refine ⟨_, rfl, cell_at hb1 rfl, cell_at hb1 rfl, int_ok W1 (by rw [List.nil_append]; omega) (by omega) fun g2 S2 W2 st2 => ⟨_, rfl, ?_⟩⟩
    have hS2 : ∀ y, S2 y → h2.size ≤ y := fun y hy => (st2.new y hy).elim (hS1 y) (fun h1 => by omega)
    have hb2' : r.at g2 b := st2.fr.get hb1 (bS hS1)
    have z2 := st2.fr.1
    refine ⟨cell_at hb2' rfl, int_ok W2 (by rw [List.nil_append, List.length_append]; omega) (by omega) fun g3 S3 W3 st3 => ⟨_, rfl, ?_⟩⟩
    have hS3 : ∀ y, S3 y → h2.size ≤ y := fun y hy => (st3.new y hy).elim (hS2 y) (fun h1 => by omega)
    have er : [] ++ encText (textE r.e) ++ encNum (natOf r.pol) ++ encNum (natOf r.own) = recR r := by unfold recR; rw [List.nil_append]
    rw [er] at W3
    have lr := recR_len k
    refine bytes_ok W3 (by omega) fun p4 c4 g4 o4 f4 n4 => ⟨_, _, _, rfl, ?_⟩
    have F3 : Fr (fun _ => False) h2 g3 := ((fg.fresh st1.fr hS).fresh st2.fr hS1).fresh st3.fr hS2
    have z3 := F3.1
    have zz := F2.1
    exact hk p4 c4 g4 o4 (F2.tt (F3.tt f4)) (fun y hy => by have := n4 y hy; omega)
  refine ⟨_, cell_at hb2 rfl, _, cell_at hb2 rfl, Fld.new_ok fun h3 w S W f3 n3 => ⟨_, rfl, cell_at (f3.get hb2 id) rfl, cell_at (f3.get hb2 id) rfl, s2b fun q d h4 row cq f4 n4 => ⟨_, _, _, rfl, ?_⟩⟩, s2b fun q d h3 row cq f3 n3 => ⟨_, _, _, rfl, cell_at (f3.get hb2 id) rfl, cell_at (f3.get hb2 id) rfl, Fld.new_ok fun h4 w S W f4 n4 => ⟨_, rfl, ?_⟩⟩, trivial⟩
  · rw [dt] at row
    exact tail h4 w S q d (f3.tt f4) (W.frame f4 (fun _ _ => id)) n3 row (fun y hy hs => by have := n4 y hy; have := W.lt y hs; omega)
  · rw [dt] at row
    have z3 := f3.1
    refine tail h4 w S q d (f3.tt f4) W (fun y hy => by have := n4 y hy; omega) (row.frame f4 (fun _ _ => id)) (fun y hy hs => ?_)
    have h1 := n4 y hs
    have h2 := row_lt row (by unfold textE; intro e; have := congrArg List.length e; rw [bc_len] at this; revert this; split <;> (try split) <;> simp) hy
    omega
theorem save_ok (H : Tb h b X L) (hl : L.length ≤ 12) (ok : ∀ r ∈ L, okR r) (tb : Num.Tab h) (hk : ∀ h' p' l' c', BL h h' p' l' c' (L.map recR) → Fr (fun _ => False) h h' → R (.slice p' l' c') h') : CallsH Tryz.prog F.regs_Table_Save #[.pointer (some ⟨b, 0, none⟩)] h R := by
  refine regs_Table_Save.walk (all_ok H hl fun h1 p1 c1 o1 n1 f1 => ⟨_, _, _, rfl, ?_⟩)
  refine ⟨fun op ol oc t g => ∃ k : Nat, t = (k : Int) ∧ k ≤ L.length ∧ BL h1 g op ol oc ((L.take k).map recR) ∧ Fr (fun _ => False) h1 g, fun _ _ _ t _ => L.length - t.toNat, ⟨0, rfl, by omega, by simpa using BL.nil, Fr.refl _ _⟩, ?_⟩
  rintro op ol oc _ g ⟨k, rfl, hkn, B, fg⟩
  by_cases hlt : k < L.length
  · have q1 : (k : Int) < ((L.length : Nat) : Int) := by omega
    simp only [q1, decide_true, if_true, Int.toNat_natCast]
    have hx : L[k]? = some L[k] := List.getElem?_eq_getElem hlt
    generalize L[k] = v at hx
    have og := o1.frame fg (fun _ _ => id)
    obtain ⟨ab, aoff, rfl⟩ := og.addr (by omega)
    refine ⟨⟨by first | trivial | omega, by first | trivial | omega⟩, onSome_some.2 (regs_Reg.ldA (og.heldAt genc_len hx) (regs_Reg.new fun b2 h2 e2 hb2 f2 => regs_Reg.ld hb2 ?_))⟩
    have F2 := f1.tt (fg.tt f2)
    refine record_ok (r := v) (ok v (List.mem_of_getElem? hx)) (tb.on F2) fun p3 c3 h3 o3 f3 n3 => ⟨_, _, _, rfl, ?_⟩
    have z1 := fg.1
    have z2 := f2.1
    have bl := B.len
    rw [List.length_map, List.length_take] at bl
    have F3 := f2.tt f3
    refine (B.on F3).push (by have := F3.1; omega) o3 (fun y hy => ⟨by have := n3 y hy; omega, fun ho => by have := B.lt ho; have := n3 y hy; omega⟩) (by omega) fun p4 c4 h4 B4 f4 g4 => ⟨_, _, _, rfl, ?_⟩
    rw [wrap_id (by omega) (by omega)]
    refine ⟨⟨k + 1, by omega, by omega, ?_, ?_⟩, by show L.length - Int.toNat ((k : Int) + 1) < L.length - k; omega⟩
    · rw [List.take_add_one, hx, List.map_append]
      exact B4
    · obtain ⟨_, _, _, _, _, _, _, h6'⟩ := B
      exact (fg.tt F3).fresh f4 h6'
  · have q1 : ¬ (k : Int) < ((L.length : Nat) : Int) := by omega
    simp only [q1, decide_false, Bool.false_eq_true, if_false]
    rw [List.take_of_length_le (by omega)] at B
    exact hk g op ol oc (B.mono f1.1) (f1.tt fg)
end Regs
end Go.Proofs.YtgccegnmggjkjaaGreatDoor

/-
  What is proved here: bytes.Equal, and slices.EqualFunc with it, on rows of records. No condition.
-/
set_option maxRecDepth 100000
namespace Go.Proofs.YtgccegnmggjkjaaGreatDoor
open Go.Den Go.Fields
namespace Fld
variable {h h' h0 : Heap} {R : Value → Heap → Prop} {p q : Option Addr} {n m c d i : Nat}
theorem equal_ok {a b : List UInt8} (ra : Row h p (bc a)) (hn : n = a.length) (rb : Row h q (bc b)) (hm : m = b.length) (hk : R (.bool (decide (a = b))) h) : CallsH Tryz.prog F.bytes_Equal #[.slice p n c, .slice q m d] h R := by
  refine bytes_Equal.walk ⟨_, conv ra hn, _, conv rb hm, ?_⟩
  rw [str_list, str_list]
  have e : (a == b) = decide (a = b) := by rw [Bool.eq_iff_iff]; simp
  rw [e]; exact hk
theorem equalFunc_ok {l : Nat} {xs ys : List BV} (H1 : Rows h p l c xs) (H2 : Rows h q m d ys) (hm : l ≤ 1000000000) (hk : R (.bool (decide (xs.map BV.b = ys.map BV.b))) h) : CallsH Tryz.prog F.slices_EqualFunc_s_s_byte_s_s_byte_s_byte_s_byte #[.slice p l c, .slice q m d, .func (.func F.bytes_Equal) #[] #[]] h R := by
  obtain ⟨rfl, r1, _, e1⟩ := H1
  obtain ⟨rfl, r2, _, e2⟩ := H2
  refine slices_EqualFunc_s_s_byte_s_s_byte_s_byte_s_byte.eq.walk ?_
  unfold slices_EqualFunc_s_s_byte_s_s_byte_s_byte_s_byte.eq.vc
  by_cases hl : xs.length = ys.length
  · have : (((xs.length : Nat) : Int) != ((ys.length : Nat) : Int)) = false := by rw [hl]; simp
    rw [this]
    simp only [Bool.false_eq_true, if_false]
    refine ⟨fun i g => g = h ∧ ∃ k : Nat, i = (k : Int) ∧ k ≤ xs.length ∧ (xs.take k).map BV.b = (ys.take k).map BV.b, fun i _ => xs.length - i.toNat, ⟨rfl, 0, rfl, by omega, by simp⟩, ?_⟩
    rintro _ _ ⟨rfl, k, rfl, hk1, hk2⟩
    by_cases hlt : k < xs.length
    · have q1 : (k : Int) < ((xs.length : Nat) : Int) := by omega
      simp only [q1, decide_true, if_true, Int.toNat_natCast]
      have gx : xs[k]? = some xs[k] := List.getElem?_eq_getElem hlt
      have gy : ys[k]? = some (ys[k]'(by omega)) := List.getElem?_eq_getElem _
      generalize xs[k] = x at gx
      generalize ys[k]'(by omega) = y at gy
      obtain ⟨a, rfl⟩ := r1.some (by intro e; cases xs with | nil => simp at hlt | cons => simp at e)
      obtain ⟨b, rfl⟩ := r2.some (by intro e; cases ys with | nil => simp at gy | cons => simp at e)
      have cx := (r1.heldAt nenc_len gx).1
      have cy := (r2.heldAt nenc_len gy).1
      rw [add_zero_addr] at cx cy
      refine ⟨⟨by first | trivial | omega, by first | trivial | omega⟩, onSome_some.2 ⟨_, _, _, cx, ⟨by first | trivial | omega, by first | trivial | omega⟩, onSome_some.2 ⟨_, _, _, cy, ?_⟩⟩⟩
      refine equal_ok (e1 x (List.mem_of_getElem? gx)) rfl (e2 y (List.mem_of_getElem? gy)) rfl ⟨_, rfl, ?_⟩
      by_cases hxy : x.b = y.b
      · rw [hxy]
        simp only [decide_true, Bool.not_true, Bool.false_eq_true, if_false]
        rw [wrap_id (by omega) (by omega)]
        refine ⟨⟨by first | trivial | rfl, k + 1, by omega, by omega, ?_⟩, by show _ - Int.toNat ((k : Int) + 1) < _; omega⟩
        rw [List.take_add_one, List.take_add_one, gx, gy, List.map_append, List.map_append, hk2]
        simp [hxy]
      · simp only [hxy, decide_false, Bool.not_false, if_true]
        have hne : xs.map BV.b ≠ ys.map BV.b := fun e => by
          have h1 : (xs.map BV.b)[k]? = (ys.map BV.b)[k]? := by rw [e]
          rw [List.getElem?_map, List.getElem?_map, gx, gy] at h1
          exact hxy (Option.some.inj h1)
        rw [decide_eq_false hne] at hk
        exact hk
    · have q1 : ¬ (k : Int) < ((xs.length : Nat) : Int) := by omega
      simp only [q1, decide_false, Bool.false_eq_true, if_false]
      rw [List.take_of_length_le (by omega), List.take_of_length_le (by omega)] at hk2
      rw [decide_eq_true hk2] at hk
      exact hk
  · have : (((xs.length : Nat) : Int) != ((ys.length : Nat) : Int)) = true := by simp; omega
    rw [this]
    simp only [if_true]
    have hne : xs.map BV.b ≠ ys.map BV.b := fun e => hl (by have := congrArg List.length e; simpa using this)
    rw [decide_eq_false hne] at hk
    exact hk
end Fld
end Go.Proofs.YtgccegnmggjkjaaGreatDoor

/-
  The shelf's contracts laid at this program (written by the kit's lay-plain.mjs): that its bodies are those that the contracts are proved of. No condition.
-/
set_option maxRecDepth 100000
namespace Go.Proofs
open Go.Shelf
def Tryz.lays145_ren : Go.Shelf.Ren := ⟨fun | 145 => 195 | 220 => 224 | 219 => 247 | 217 => 266 | 225 => 267 | 224 => 268 | 267 => 269 | 266 => 275 | 314 => 276 | n => n, fun | 9 => 9 | 4 => 4 | 59 => 288 | 3 => 3 | 5 => 5 | 46 => 271 | 146 => 367 | 51 => 314 | n => n, fun | 1 => 1 | n => n⟩
theorem Tryz.lays145 : Go.Proofs.Lays.n145 Tryz.prog Tryz.lays145_ren := {
  mixed := by kernel_rfl
  f145 := Tryz.func195.trans (congrArg some (by kernel_rfl))
  f217 := Tryz.func266.trans (congrArg some (by kernel_rfl))
  f219 := Tryz.func247.trans (congrArg some (by kernel_rfl))
  f220 := Tryz.func224.trans (congrArg some (by kernel_rfl))
  f224 := Tryz.func268.trans (congrArg some (by kernel_rfl))
  f225 := Tryz.func267.trans (congrArg some (by kernel_rfl))
  f266 := Tryz.func275.trans (congrArg some (by kernel_rfl))
  f267 := Tryz.func269.trans (congrArg some (by kernel_rfl))
  f314 := Tryz.func276.trans (congrArg some (by kernel_rfl))
  t3 := Tryz.underlying3
  a3 := Tryz.isAgg3
  z3 := Tryz.sizeOf3
  v3 := Tryz.zeroValue3
  t4 := Tryz.underlying4
  a4 := Tryz.isAgg4
  z4 := Tryz.sizeOf4
  v4 := Tryz.zeroValue4
  t5 := Tryz.underlying5
  a5 := Tryz.isAgg5
  z5 := Tryz.sizeOf5
  v5 := Tryz.zeroValue5
  t9 := Tryz.underlying9
  a9 := Tryz.isAgg9
  z9 := Tryz.sizeOf9
  v9 := Tryz.zeroValue9
  t46 := Tryz.underlying271
  a46 := Tryz.isAgg271
  z46 := Tryz.sizeOf271
  v46 := Tryz.zeroValue271
  t51 := Tryz.underlying314
  a51 := Tryz.isAgg314
  z51 := Tryz.sizeOf314
  v51 := Tryz.zeroValue314
  t59 := Tryz.underlying288
  a59 := Tryz.isAgg288
  z59 := Tryz.sizeOf288
  v59 := Tryz.zeroValue288
  t146 := Tryz.underlying367
  a146 := Tryz.isAgg367
  z146 := Tryz.sizeOf367
  v146 := Tryz.zeroValue367
  g1 := by kernel_rfl }
def Tryz.lays103_ren : Go.Shelf.Ren := ⟨fun | 103 => 156 | 210 => 194 | 206 => 223 | n => n, fun | 9 => 9 | 4 => 4 | 24 => 240 | 3 => 3 | n => n, fun | n => n⟩
theorem Tryz.lays103 : Go.Proofs.Lays.n103 Tryz.prog Tryz.lays103_ren := {
  mixed := by kernel_rfl
  f103 := Tryz.func156.trans (congrArg some (by kernel_rfl))
  f206 := Tryz.func223.trans (congrArg some (by kernel_rfl))
  f210 := Tryz.func194.trans (congrArg some (by kernel_rfl))
  t3 := Tryz.underlying3
  a3 := Tryz.isAgg3
  z3 := Tryz.sizeOf3
  v3 := Tryz.zeroValue3
  t4 := Tryz.underlying4
  a4 := Tryz.isAgg4
  z4 := Tryz.sizeOf4
  v4 := Tryz.zeroValue4
  t9 := Tryz.underlying9
  a9 := Tryz.isAgg9
  z9 := Tryz.sizeOf9
  v9 := Tryz.zeroValue9
  t24 := Tryz.underlying240
  a24 := Tryz.isAgg240
  z24 := Tryz.sizeOf240
  v24 := Tryz.zeroValue240 }
def Tryz.lays14_ren : Go.Shelf.Ren := ⟨fun | 14 => 196 | 16 => 225 | 17 => 226 | 19 => 248 | 20 => 249 | 21 => 250 | 22 => 251 | 23 => 252 | 24 => 253 | 25 => 270 | 27 => 272 | 26 => 271 | 28 => 277 | 29 => 278 | 30 => 228 | 31 => 229 | 32 => 230 | 33 => 231 | 35 => 214 | 34 => 254 | 36 => 255 | 37 => 256 | 38 => 257 | 39 => 273 | 40 => 274 | n => n, fun | 9 => 9 | 3 => 3 | 22 => 23 | 24 => 291 | 25 => 292 | 4 => 4 | 34 => 343 | 5 => 5 | 36 => 271 | 37 => 34 | 0 => 0 | 39 => 346 | 21 => 21 | 44 => 365 | 47 => 369 | 50 => 372 | 48 => 370 | 2 => 2 | 52 => 325 | 55 => 327 | 59 => 350 | 60 => 314 | 20 => 20 | 61 => 351 | 65 => 373 | 66 => 374 | 67 => 376 | n => n, fun | 0 => 2 | 1 => 3 | 2 => 0 | 3 => 4 | 4 => 5 | n => n⟩
theorem Tryz.lays14 : Go.Proofs.LaysPu.n14 Tryz.prog Tryz.lays14_ren := {
  mixed := by kernel_rfl
  f14 := Tryz.func196.trans (congrArg some (by kernel_rfl))
  f16 := Tryz.func225.trans (congrArg some (by kernel_rfl))
  f17 := Tryz.func226.trans (congrArg some (by kernel_rfl))
  f19 := Tryz.func248.trans (congrArg some (by kernel_rfl))
  f20 := Tryz.func249.trans (congrArg some (by kernel_rfl))
  f21 := Tryz.func250.trans (congrArg some (by kernel_rfl))
  f22 := Tryz.func251.trans (congrArg some (by kernel_rfl))
  f23 := Tryz.func252.trans (congrArg some (by kernel_rfl))
  f24 := Tryz.func253.trans (congrArg some (by kernel_rfl))
  f25 := Tryz.func270.trans (congrArg some (by kernel_rfl))
  f26 := Tryz.func271.trans (congrArg some (by kernel_rfl))
  f27 := Tryz.func272.trans (congrArg some (by kernel_rfl))
  f28 := Tryz.func277.trans (congrArg some (by kernel_rfl))
  f29 := Tryz.func278.trans (congrArg some (by kernel_rfl))
  f30 := Tryz.func228.trans (congrArg some (by kernel_rfl))
  f31 := Tryz.func229.trans (congrArg some (by kernel_rfl))
  f32 := Tryz.func230.trans (congrArg some (by kernel_rfl))
  f33 := Tryz.func231.trans (congrArg some (by kernel_rfl))
  f34 := Tryz.func254.trans (congrArg some (by kernel_rfl))
  f35 := Tryz.func214.trans (congrArg some (by kernel_rfl))
  f36 := Tryz.func255.trans (congrArg some (by kernel_rfl))
  f37 := Tryz.func256.trans (congrArg some (by kernel_rfl))
  f38 := Tryz.func257.trans (congrArg some (by kernel_rfl))
  f39 := Tryz.func273.trans (congrArg some (by kernel_rfl))
  f40 := Tryz.func274.trans (congrArg some (by kernel_rfl))
  t0 := Tryz.underlying0
  a0 := Tryz.isAgg0
  z0 := Tryz.sizeOf0
  v0 := Tryz.zeroValue0
  i0 := by kernel_rfl
  t2 := Tryz.underlying2
  a2 := Tryz.isAgg2
  z2 := Tryz.sizeOf2
  v2 := Tryz.zeroValue2
  i2 := by kernel_rfl
  t3 := Tryz.underlying3
  a3 := Tryz.isAgg3
  z3 := Tryz.sizeOf3
  v3 := Tryz.zeroValue3
  i3 := by kernel_rfl
  t4 := Tryz.underlying4
  a4 := Tryz.isAgg4
  z4 := Tryz.sizeOf4
  v4 := Tryz.zeroValue4
  i4 := by kernel_rfl
  t5 := Tryz.underlying5
  a5 := Tryz.isAgg5
  z5 := Tryz.sizeOf5
  v5 := Tryz.zeroValue5
  i5 := by kernel_rfl
  t9 := Tryz.underlying9
  a9 := Tryz.isAgg9
  z9 := Tryz.sizeOf9
  v9 := Tryz.zeroValue9
  i9 := by kernel_rfl
  t20 := Tryz.underlying20
  a20 := Tryz.isAgg20
  z20 := Tryz.sizeOf20
  v20 := Tryz.zeroValue20
  i20 := by kernel_rfl
  t21 := Tryz.underlying21
  a21 := Tryz.isAgg21
  z21 := Tryz.sizeOf21
  v21 := Tryz.zeroValue21
  i21 := by kernel_rfl
  t22 := Tryz.underlying23
  a22 := Tryz.isAgg23
  z22 := Tryz.sizeOf23
  v22 := Tryz.zeroValue23
  i22 := by kernel_rfl
  t24 := Tryz.underlying291
  a24 := Tryz.isAgg291
  z24 := Tryz.sizeOf291
  v24 := Tryz.zeroValue291
  i24 := by kernel_rfl
  t25 := Tryz.underlying292
  a25 := Tryz.isAgg292
  z25 := Tryz.sizeOf292
  v25 := Tryz.zeroValue292
  i25 := by kernel_rfl
  t34 := Tryz.underlying343
  a34 := Tryz.isAgg343
  z34 := Tryz.sizeOf343
  v34 := Tryz.zeroValue343
  i34 := by kernel_rfl
  c34 := by kernel_rfl
  t36 := Tryz.underlying271
  a36 := Tryz.isAgg271
  z36 := Tryz.sizeOf271
  v36 := Tryz.zeroValue271
  i36 := by kernel_rfl
  t37 := Tryz.underlying34
  a37 := Tryz.isAgg34
  z37 := Tryz.sizeOf34
  v37 := Tryz.zeroValue34
  i37 := by kernel_rfl
  t39 := Tryz.underlying346
  a39 := Tryz.isAgg346
  z39 := Tryz.sizeOf346
  v39 := Tryz.zeroValue346
  i39 := by kernel_rfl
  t44 := Tryz.underlying365
  a44 := Tryz.isAgg365
  z44 := Tryz.sizeOf365
  v44 := Tryz.zeroValue365
  i44 := by kernel_rfl
  t47 := Tryz.underlying369
  a47 := Tryz.isAgg369
  z47 := Tryz.sizeOf369
  v47 := Tryz.zeroValue369
  i47 := by kernel_rfl
  t48 := Tryz.underlying370
  a48 := Tryz.isAgg370
  z48 := Tryz.sizeOf370
  v48 := Tryz.zeroValue370
  i48 := by kernel_rfl
  t50 := Tryz.underlying372
  a50 := Tryz.isAgg372
  z50 := Tryz.sizeOf372
  v50 := Tryz.zeroValue372
  i50 := by kernel_rfl
  t52 := Tryz.underlying325
  a52 := Tryz.isAgg325
  z52 := Tryz.sizeOf325
  v52 := Tryz.zeroValue325
  i52 := by kernel_rfl
  t55 := Tryz.underlying327
  a55 := Tryz.isAgg327
  z55 := Tryz.sizeOf327
  v55 := Tryz.zeroValue327
  i55 := by kernel_rfl
  t59 := Tryz.underlying350
  a59 := Tryz.isAgg350
  z59 := Tryz.sizeOf350
  v59 := Tryz.zeroValue350
  i59 := by kernel_rfl
  t60 := Tryz.underlying314
  a60 := Tryz.isAgg314
  z60 := Tryz.sizeOf314
  v60 := Tryz.zeroValue314
  i60 := by kernel_rfl
  t61 := Tryz.underlying351
  a61 := Tryz.isAgg351
  z61 := Tryz.sizeOf351
  t65 := Tryz.underlying373
  a65 := Tryz.isAgg373
  z65 := Tryz.sizeOf373
  v65 := Tryz.zeroValue373
  i65 := by kernel_rfl
  t66 := Tryz.underlying374
  a66 := Tryz.isAgg374
  z66 := Tryz.sizeOf374
  v66 := Tryz.zeroValue374
  i66 := by kernel_rfl
  t67 := Tryz.underlying376
  a67 := Tryz.isAgg376
  z67 := Tryz.sizeOf376
  v67 := Tryz.zeroValue376
  i67 := by kernel_rfl
  g0 := by kernel_rfl
  m0 := by kernel_rfl
  g1 := by kernel_rfl
  m1 := by kernel_rfl
  g2 := by kernel_rfl
  m2 := by kernel_rfl
  g3 := by kernel_rfl
  m3 := by kernel_rfl
  g4 := by kernel_rfl
  m4 := by kernel_rfl }
end Go.Proofs

/-
  What is proved here: the shelf's contracts of strings.Cut, strings.CutPrefix, strconv.ParseUint, on heaps. No condition.
-/
set_option maxRecDepth 100000
namespace Go.Proofs.YtgccegnmggjkjaaGreatDoor
open Go.Den
namespace Num
variable {h h' : Heap} {R : Value → Heap → Prop}
/-- a variable of bytealg holds a number -/
def Mx (h : Heap) : Prop := ∃ m, hcell h ⟨1, 0, none⟩ = some (.int .i64 m)
theorem Mx.on (M : Mx h) (f : Fr (fun _ => False) h h') : Mx h' := by
  obtain ⟨m, hm⟩ := M
  exact ⟨m, f.cell hm id⟩
theorem cut_ok {s sep : ByteArray} (M : Mx h) (hs : s.size < 4294967281) (hk : R (.tuple #[.string ⟨(Lib.cut s.data.toList sep.data.toList).1.toArray⟩, .string ⟨(Lib.cut s.data.toList sep.data.toList).2.1.toArray⟩, .bool (Lib.cut s.data.toList sep.data.toList).2.2]) h) : CallsH Tryz.prog F.strings_Cut #[.string s, .string sep] h R := fun w hw => by
  subst hw
  obtain ⟨m, hm⟩ := M
  refine (Any.strings_Cut Tryz.lays145 s sep m w hs (by rw [cell_eq]; exact hm)).mono fun e w' ⟨he, n, hw'⟩ => ⟨_, he, ?_, ?_⟩
  · rw [hw']; exact hk
  · rw [hw']; exact ⟨rfl, rfl, rfl⟩
theorem prefix_ok {s p : ByteArray} (hk : R (.tuple #[.string ⟨(Lib.trimPrefix s.data.toList p.data.toList).toArray⟩, .bool (Lib.hasPrefix s.data.toList p.data.toList)]) h) : CallsH Tryz.prog F.strings_CutPrefix #[.string s, .string p] h R := fun w hw =>
  (Any.strings_CutPrefix Tryz.lays103 s p w).mono fun e w' ⟨he, hw'⟩ => ⟨_, he, by rw [hw', hw]; exact hk, by rw [hw']; exact Same.refl _⟩
theorem parse_ok {s : ByteArray} {u : Nat} (hs : s.size ≤ 1000) (hu : Lib.parseUintB 32 s.data.toList = .ok u) (hk : ∀ h', Fr (fun _ => False) h h' → R (.tuple #[.int .u64 (u : Int), .nilIface]) h') : CallsH Tryz.prog F.strconv_ParseUint #[.string s, .int .i64 10, .int .i64 32] h R := fun w hw => by
  subst hw
  refine (Any.strconv_ParseUint_10_at32_ok Tryz.lays14 s (by omega) u hu w).mono fun e w' ⟨he, hw'⟩ => ⟨_, he, ?_, ?_⟩
  · rcases hw' with rfl | rfl
    · exact hk _ (Fr.refl _ _)
    · refine hk _ ?_
      unfold Lib.bytesWorld
      rw [freeze_eq]
      have e1 : (w.drew.alloc (.cells (Lib.bytesCells w (Tryz.lays14_ren.t 5) s) (Tryz.lays14_ren.t 5))).heap = w.heap.push (.cells (Lib.bytesCells w (Tryz.lays14_ren.t 5) s) (Tryz.lays14_ren.t 5)) := rfl
      rw [e1]
      unfold hfreeze
      rw [if_neg (by omega)]
      refine ⟨by simp, fun c hc _ => ?_⟩
      rw [Array.getElem?_modify, if_neg (by simp; omega), Array.getElem?_push, if_neg (by omega)]
  · rcases hw' with rfl | rfl
    · exact Same.refl _
    · unfold Lib.bytesWorld World.freeze; split <;> exact ⟨rfl, rfl, rfl⟩
end Num
end Go.Proofs.YtgccegnmggjkjaaGreatDoor

/-
  Printed by a program of this work (vc.py): the verification conditions of functions, and that each is enough for the call. No condition.
-/
set_option maxRecDepth 100000
set_option maxHeartbeats 4000000
namespace Go.Proofs.YtgccegnmggjkjaaGreatDoor
open Go.Den
def eid_Parse.vc (s : ByteArray) (h : Heap) (R : Value → Heap → Prop) : Prop :=
 NewP h (.cells #[.bool false, .int .u64 0, .int .u64 0, .string (⟨#[]⟩ : ByteArray), .string (⟨#[]⟩ : ByteArray)] T.eid_Eid) fun b h_1 =>
 if (s.toList == (⟨#[100, 116, 110, 58, 110, 111, 110, 101]⟩ : ByteArray).toList) = true then
 eid_Eid.ST h_1 ⟨b, 0, none⟩ false 0 0 (⟨#[]⟩ : ByteArray) (⟨#[]⟩ : ByteArray) fun h_2 =>
 eid_Eid.LD h_2 ⟨b, 0, none⟩ fun r_0 r_1 r_2 r_3 r_4 =>
 R (.tuple #[.agg #[.bool r_0, .int .u64 r_1, .int .u64 r_2, .string r_3, .string r_4], .int .i64 0]) h_2
 else
 NewP h_1 (.cells #[.bool false, .int .u64 0, .int .u64 0, .string (⟨#[]⟩ : ByteArray), .string (⟨#[]⟩ : ByteArray)] T.eid_Eid) fun b_1 h_3 =>
 CallsH Tryz.prog F.strings_CutPrefix #[.string s, .string (⟨#[105, 112, 110, 58]⟩ : ByteArray)] h_3 fun v h_4 =>
 ∃ (t15_0 : ByteArray), ∃ (t15_1 : Bool), v = .tuple #[.string t15_0, .bool t15_1] ∧
 JoinP (fun (ok : Bool) (h_5 : Heap) =>
 if (!ok) = true then
 eid_Eid.ST h_5 ⟨b, 0, none⟩ false 0 0 (⟨#[]⟩ : ByteArray) (⟨#[]⟩ : ByteArray) fun h_6 =>
 eid_Eid.LD h_6 ⟨b, 0, none⟩ fun r_0_1 r_1_1 r_2_1 r_3_1 r_4_1 =>
 R (.tuple #[.agg #[.bool r_0_1, .int .u64 r_1_1, .int .u64 r_2_1, .string r_3_1, .string r_4_1], .int .i64 3]) h_6
 else
 eid_Eid.LD h_5 ⟨b_1, 0, none⟩ fun t38_0 t38_1 t38_2 t38_3 t38_4 =>
 eid_Eid.ST h_5 ⟨b, 0, none⟩ t38_0 t38_1 t38_2 t38_3 t38_4 fun h_7 =>
 eid_Eid.LD h_7 ⟨b, 0, none⟩ fun r_0_2 r_1_2 r_2_2 r_3_2 r_4_2 =>
 R (.tuple #[.agg #[.bool r_0_2, .int .u64 r_1_2, .int .u64 r_2_2, .string r_3_2, .string r_4_2], .int .i64 0]) h_7)
 (fun J =>
 if t15_1 = true then
 CallsH Tryz.prog F.eid_parseNumbers #[.string t15_0] h_4 fun v_1 h_8 =>
 ∃ (t21_0_0 : Bool), ∃ (t21_0_1 : Int), ∃ (t21_0_2 : Int), ∃ (t21_0_3 : ByteArray), ∃ (t21_0_4 : ByteArray), ∃ (t21_1 : Bool), v_1 = .tuple #[.agg #[.bool t21_0_0, .int .u64 t21_0_1, .int .u64 t21_0_2, .string t21_0_3, .string t21_0_4], .bool t21_1] ∧
 eid_Eid.ST h_8 ⟨b_1, 0, none⟩ t21_0_0 t21_0_1 t21_0_2 t21_0_3 t21_0_4 fun h_9 =>
 J t21_1 h_9
 else
 CallsH Tryz.prog F.strings_CutPrefix #[.string s, .string (⟨#[100, 116, 110, 58]⟩ : ByteArray)] h_4 fun v_2 h_10 =>
 ∃ (t26_0 : ByteArray), ∃ (t26_1 : Bool), v_2 = .tuple #[.string t26_0, .bool t26_1] ∧
 JoinP (fun (ok_1 : Bool) (h_11 : Heap) =>
 J ok_1 h_11)
 (fun J_1 =>
 if t26_1 = true then
 CallsH Tryz.prog F.eid_parsePath #[.string t26_0] h_10 fun v_3 h_12 =>
 ∃ (t32_0_0 : Bool), ∃ (t32_0_1 : Int), ∃ (t32_0_2 : Int), ∃ (t32_0_3 : ByteArray), ∃ (t32_0_4 : ByteArray), ∃ (t32_1 : Bool), v_3 = .tuple #[.agg #[.bool t32_0_0, .int .u64 t32_0_1, .int .u64 t32_0_2, .string t32_0_3, .string t32_0_4], .bool t32_1] ∧
 eid_Eid.ST h_12 ⟨b_1, 0, none⟩ t32_0_0 t32_0_1 t32_0_2 t32_0_3 t32_0_4 fun h_13 =>
 J_1 t32_1 h_13
 else
 J_1 false h_10))
theorem eid_Parse.walk {s : ByteArray} {h : Heap} {R : Value → Heap → Prop} (hv : eid_Parse.vc s h R) : CallsH Tryz.prog F.eid_Parse #[.string s] h R :=
 callsH_of_body (.seq .leaf (.seq (.seq .leaf (.cond (.seq .leaf .leaf) .leaf)) (.seq .leaf (.seq .leaf (.seq (.seq .leaf (.seq .leaf (.join [(5, .one (.bool))] (.cond .leaf (.seq .leaf (.seq .leaf (.join [(5, .one (.bool))] (.cond .leaf .leaf)))))))) (.seq (.seq .leaf (.cond (.seq .leaf .leaf) .leaf)) (.seq .leaf .leaf))))))) Tryz.func96 rfl rfl (Eq.mp (by kernel_rfl) hv)

def eid_parseNumbers.vc (s : ByteArray) (h : Heap) (R : Value → Heap → Prop) : Prop :=
 NewP h (.cells #[.bool false, .int .u64 0, .int .u64 0, .string (⟨#[]⟩ : ByteArray), .string (⟨#[]⟩ : ByteArray)] T.eid_Eid) fun b h_1 =>
 CallsH Tryz.prog F.strings_Cut #[.string s, .string (⟨#[46]⟩ : ByteArray)] h_1 fun v h_2 =>
 ∃ (t14_0 : ByteArray), ∃ (t14_1 : ByteArray), ∃ (t14_2 : Bool), v = .tuple #[.string t14_0, .string t14_1, .bool t14_2] ∧
 CallsH Tryz.prog F.strconv_ParseUint #[.string t14_0, .int .i64 10, .int .i64 32] h_2 fun v_1 h_3 =>
 ∃ (t20_0 : Int), ∃ (t20_1 : Value), v_1 = .tuple #[.int .u64 t20_0, t20_1] ∧
 CallsH Tryz.prog F.strconv_ParseUint #[.string t14_1, .int .i64 10, .int .i64 32] h_3 fun v_2 h_4 =>
 ∃ (t25_0 : Int), ∃ (t25_1 : Value), v_2 = .tuple #[.int .u64 t25_0, t25_1] ∧
 NewP h_4 (.cells #[.bool false, .int .u64 0, .int .u64 0, .string (⟨#[]⟩ : ByteArray), .string (⟨#[]⟩ : ByteArray)] T.eid_Eid) fun b_1 h_5 =>
 eid_Eid.ST h_5 ⟨b_1, 0, none⟩ true t20_0 t25_0 (⟨#[]⟩ : ByteArray) (⟨#[]⟩ : ByteArray) fun h_6 =>
 eid_Eid.LD h_6 ⟨b_1, 0, none⟩ fun t31_0 t31_1 t31_2 t31_3 t31_4 =>
 if t14_2 = true then
 ∃ (eq : Bool), EqV Tryz.prog T.error (t20_1) (.nilIface) eq ∧
 if eq = true then
 ∃ (eq_1 : Bool), EqV Tryz.prog T.error (t25_1) (.nilIface) eq_1 ∧
 if eq_1 = true then
 eid_Eid.LD h_6 ⟨b_1, 0, none⟩ fun t42_0 t42_1 t42_2 t42_3 t42_4 =>
 CallsH Tryz.prog F.eid_Right #[.agg #[.bool t42_0, .int .u64 t42_1, .int .u64 t42_2, .string t42_3, .string t42_4]] h_6 fun v_3 h_7 =>
 ∃ (t43 : Bool), v_3 = .bool t43 ∧
 heldL ⟨b_1, 0, none⟩ [.bool t31_0, .int .u64 t31_1, .int .u64 t31_2, .string t31_3, .string t31_4] 0 h_7 ∧
 if t43 = true then
 CallsH Tryz.prog F.strconv_FormatUint #[.int .u64 t20_0, .int .i64 10] h_7 fun v_4 h_8 =>
 ∃ (t47 : ByteArray), v_4 = .string t47 ∧
 heldL ⟨b_1, 0, none⟩ [.bool t31_0, .int .u64 t31_1, .int .u64 t31_2, .string t31_3, .string t31_4] 0 h_8 ∧
 if (t47.toList == t14_0.toList) = true then
 CallsH Tryz.prog F.strconv_FormatUint #[.int .u64 t25_0, .int .i64 10] h_8 fun v_5 h_9 =>
 ∃ (t53 : ByteArray), v_5 = .string t53 ∧
 heldL ⟨b_1, 0, none⟩ [.bool t31_0, .int .u64 t31_1, .int .u64 t31_2, .string t31_3, .string t31_4] 0 h_9 ∧
 eid_Eid.ST h_9 ⟨b, 0, none⟩ t31_0 t31_1 t31_2 t31_3 t31_4 fun h_10 =>
 eid_Eid.LD h_10 ⟨b, 0, none⟩ fun r_0 r_1 r_2 r_3 r_4 =>
 R (.tuple #[.agg #[.bool r_0, .int .u64 r_1, .int .u64 r_2, .string r_3, .string r_4], .bool (t53.toList == t14_1.toList)]) h_10
 else
 eid_Eid.ST h_8 ⟨b, 0, none⟩ t31_0 t31_1 t31_2 t31_3 t31_4 fun h_11 =>
 eid_Eid.LD h_11 ⟨b, 0, none⟩ fun r_0_1 r_1_1 r_2_1 r_3_1 r_4_1 =>
 R (.tuple #[.agg #[.bool r_0_1, .int .u64 r_1_1, .int .u64 r_2_1, .string r_3_1, .string r_4_1], .bool false]) h_11
 else
 eid_Eid.ST h_7 ⟨b, 0, none⟩ t31_0 t31_1 t31_2 t31_3 t31_4 fun h_12 =>
 eid_Eid.LD h_12 ⟨b, 0, none⟩ fun r_0_2 r_1_2 r_2_2 r_3_2 r_4_2 =>
 R (.tuple #[.agg #[.bool r_0_2, .int .u64 r_1_2, .int .u64 r_2_2, .string r_3_2, .string r_4_2], .bool false]) h_12
 else
 eid_Eid.ST h_6 ⟨b, 0, none⟩ t31_0 t31_1 t31_2 t31_3 t31_4 fun h_13 =>
 eid_Eid.LD h_13 ⟨b, 0, none⟩ fun r_0_3 r_1_3 r_2_3 r_3_3 r_4_3 =>
 R (.tuple #[.agg #[.bool r_0_3, .int .u64 r_1_3, .int .u64 r_2_3, .string r_3_3, .string r_4_3], .bool false]) h_13
 else
 eid_Eid.ST h_6 ⟨b, 0, none⟩ t31_0 t31_1 t31_2 t31_3 t31_4 fun h_14 =>
 eid_Eid.LD h_14 ⟨b, 0, none⟩ fun r_0_4 r_1_4 r_2_4 r_3_4 r_4_4 =>
 R (.tuple #[.agg #[.bool r_0_4, .int .u64 r_1_4, .int .u64 r_2_4, .string r_3_4, .string r_4_4], .bool false]) h_14
 else
 eid_Eid.ST h_6 ⟨b, 0, none⟩ t31_0 t31_1 t31_2 t31_3 t31_4 fun h_15 =>
 eid_Eid.LD h_15 ⟨b, 0, none⟩ fun r_0_5 r_1_5 r_2_5 r_3_5 r_4_5 =>
 R (.tuple #[.agg #[.bool r_0_5, .int .u64 r_1_5, .int .u64 r_2_5, .string r_3_5, .string r_4_5], .bool false]) h_15
theorem eid_parseNumbers.walk {s : ByteArray} {h : Heap} {R : Value → Heap → Prop} (hv : eid_parseNumbers.vc s h R) : CallsH Tryz.prog F.eid_parseNumbers #[.string s] h R :=
 callsH_of_body (.seq .leaf (.seq .leaf (.seq .leaf (.seq .leaf (.seq .leaf (.seq (.plan (.op 0 (.op 1 (.op 2 (.op 3 (.op 4 (.op 5 (.op 6 (.op 7 (.op 8 (.op 9 (.op 10 (.op 11 (.op 12 (.op 13 (.op 14 (.op 15 (.op 17 (.op 16 (.op 18 (.op 19 (.op 20 (.op 21 (.op 23 (.op 22 (.op 24 (.op 25 (.op 26 (.op 27 .done))))))))))))))))))))))))))))) .leaf)))))) Tryz.func157 rfl rfl (Eq.mp (by kernel_rfl) hv)

def eid_parsePath.vc (s : ByteArray) (h : Heap) (R : Value → Heap → Prop) : Prop :=
 NewP h (.cells #[.bool false, .int .u64 0, .int .u64 0, .string (⟨#[]⟩ : ByteArray), .string (⟨#[]⟩ : ByteArray)] T.eid_Eid) fun b h_1 =>
 CallsH Tryz.prog F.strings_CutPrefix #[.string s, .string (⟨#[47, 47]⟩ : ByteArray)] h_1 fun v h_2 =>
 ∃ (t12_0 : ByteArray), ∃ (t12_1 : Bool), v = .tuple #[.string t12_0, .bool t12_1] ∧
 CallsH Tryz.prog F.strings_Cut #[.string t12_0, .string (⟨#[47]⟩ : ByteArray)] h_2 fun v_1 h_3 =>
 ∃ (t17_0 : ByteArray), ∃ (t17_1 : ByteArray), ∃ (t17_2 : Bool), v_1 = .tuple #[.string t17_0, .string t17_1, .bool t17_2] ∧
 NewP h_3 (.cells #[.bool false, .int .u64 0, .int .u64 0, .string (⟨#[]⟩ : ByteArray), .string (⟨#[]⟩ : ByteArray)] T.eid_Eid) fun b_1 h_4 =>
 eid_Eid.ST h_4 ⟨b_1, 0, none⟩ false 0 0 t17_0 t17_1 fun h_5 =>
 eid_Eid.LD h_5 ⟨b_1, 0, none⟩ fun t24_0 t24_1 t24_2 t24_3 t24_4 =>
 if t12_1 = true then
 if t17_2 = true then
 if (!(t17_0.toList == (⟨#[]⟩ : ByteArray).toList)) = true then
 eid_Eid.LD h_5 ⟨b_1, 0, none⟩ fun t34_0 t34_1 t34_2 t34_3 t34_4 =>
 CallsH Tryz.prog F.eid_Right #[.agg #[.bool t34_0, .int .u64 t34_1, .int .u64 t34_2, .string t34_3, .string t34_4]] h_5 fun v_2 h_6 =>
 ∃ (t35 : Bool), v_2 = .bool t35 ∧
 heldL ⟨b_1, 0, none⟩ [.bool t24_0, .int .u64 t24_1, .int .u64 t24_2, .string t24_3, .string t24_4] 0 h_6 ∧
 eid_Eid.ST h_6 ⟨b, 0, none⟩ t24_0 t24_1 t24_2 t24_3 t24_4 fun h_7 =>
 eid_Eid.LD h_7 ⟨b, 0, none⟩ fun r_0 r_1 r_2 r_3 r_4 =>
 R (.tuple #[.agg #[.bool r_0, .int .u64 r_1, .int .u64 r_2, .string r_3, .string r_4], .bool t35]) h_7
 else
 eid_Eid.ST h_5 ⟨b, 0, none⟩ t24_0 t24_1 t24_2 t24_3 t24_4 fun h_8 =>
 eid_Eid.LD h_8 ⟨b, 0, none⟩ fun r_0_1 r_1_1 r_2_1 r_3_1 r_4_1 =>
 R (.tuple #[.agg #[.bool r_0_1, .int .u64 r_1_1, .int .u64 r_2_1, .string r_3_1, .string r_4_1], .bool false]) h_8
 else
 eid_Eid.ST h_5 ⟨b, 0, none⟩ t24_0 t24_1 t24_2 t24_3 t24_4 fun h_9 =>
 eid_Eid.LD h_9 ⟨b, 0, none⟩ fun r_0_2 r_1_2 r_2_2 r_3_2 r_4_2 =>
 R (.tuple #[.agg #[.bool r_0_2, .int .u64 r_1_2, .int .u64 r_2_2, .string r_3_2, .string r_4_2], .bool false]) h_9
 else
 eid_Eid.ST h_5 ⟨b, 0, none⟩ t24_0 t24_1 t24_2 t24_3 t24_4 fun h_10 =>
 eid_Eid.LD h_10 ⟨b, 0, none⟩ fun r_0_3 r_1_3 r_2_3 r_3_3 r_4_3 =>
 R (.tuple #[.agg #[.bool r_0_3, .int .u64 r_1_3, .int .u64 r_2_3, .string r_3_3, .string r_4_3], .bool false]) h_10
theorem eid_parsePath.walk {s : ByteArray} {h : Heap} {R : Value → Heap → Prop} (hv : eid_parsePath.vc s h R) : CallsH Tryz.prog F.eid_parsePath #[.string s] h R :=
 callsH_of_body (.seq .leaf (.seq .leaf (.seq .leaf (.seq .leaf (.seq (.plan (.op 0 (.op 1 (.op 2 (.op 3 (.op 4 (.op 5 (.op 6 (.op 7 (.op 8 (.op 9 (.op 10 (.op 11 (.op 12 (.op 13 (.op 14 .done)))))))))))))))) .leaf))))) Tryz.func158 rfl rfl (Eq.mp (by kernel_rfl) hv)

end Go.Proofs.YtgccegnmggjkjaaGreatDoor

/-
  What is proved here: eid.Parse of an endpoint's text is that endpoint. No condition.
-/
set_option maxRecDepth 100000
namespace Go.Proofs.YtgccegnmggjkjaaGreatDoor
open Go.Den
namespace Eid
variable {h h' : Heap} {R : Value → Heap → Prop}
/-! ### plain -/
theorem index_one (c : UInt8) (b : List UInt8) : ∀ a : List UInt8, c ∉ a → Lib.index (a ++ c :: b) [c] = (a.length : Int)
  | [], _ => by
    show Lib.index (c :: b) [c] = 0
    unfold Lib.index
    simp [List.isPrefixOf]
  | x :: a, h => by
    have hx : ¬ c = x := fun e => h (by rw [e]; simp)
    have ih := index_one c b a (fun hh => h (List.mem_cons_of_mem _ hh))
    show Lib.index (x :: (a ++ c :: b)) [c] = _
    unfold Lib.index
    rw [ih]
    have h1 : [c].isPrefixOf (x :: (a ++ c :: b)) = false := by simp [List.isPrefixOf, hx]
    rw [h1]
    simp only [Bool.false_eq_true, if_false]
    rw [if_neg (by simp only [beq_iff_eq]; omega), List.length_cons]; omega
theorem cut_one (c : UInt8) (a b : List UInt8) (h : c ∉ a) : Lib.cut (a ++ c :: b) [c] = (a, b, true) := by
  unfold Lib.cut
  rw [index_one c b a h, if_pos (by omega), Int.toNat_natCast, List.take_left]
  congr 2
  show (a ++ c :: b).drop (a.length + 1) = b
  rw [← List.drop_drop, List.drop_left]; rfl
theorem dec_digits : ∀ (u : Nat), ∀ c ∈ Lib.decDigits u, 48 ≤ c.toNat ∧ c.toNat ≤ 57 := by
  intro u
  induction u using Nat.strongRecOn with
  | _ u ih =>
    intro c hc
    rw [Lib.decDigits] at hc
    split at hc
    · rw [List.mem_singleton] at hc
      subst hc
      rw [UInt8.toNat_ofNat']; omega
    · rcases List.mem_append.1 hc with hc | hc
      · exact ih (u / 10) (by omega) c hc
      · rw [List.mem_singleton] at hc
        subst hc
        rw [UInt8.toNat_ofNat']; omega
theorem parse_snoc {M a : Nat} {c : UInt8} : ∀ (l : List UInt8) (acc : Nat), Lib.parseUintM M acc l = .ok a → Lib.parseUintM M acc (l ++ [c]) = Lib.parseUintM M a [c]
  | [], acc, h => by
    unfold Lib.parseUintM at h
    cases h; rfl
  | x :: l, acc, h => by
    rw [List.cons_append]
    unfold Lib.parseUintM at h
    conv => lhs; unfold Lib.parseUintM
    split at h
    · rename_i hx
      rw [if_pos hx]
      split at h
      · cases h
      · rename_i h1
        rw [if_neg h1]
        split at h
        · cases h
        · rename_i h2
          rw [if_neg h2]
          exact parse_snoc l _ h
    · cases h
theorem parse_dec {M : Nat} (hM : M ≤ 4294967295) : ∀ u, u ≤ M → Lib.parseUintM M 0 (Lib.decDigits u) = .ok u := by
  intro u
  induction u using Nat.strongRecOn with
  | _ u ih =>
    intro hu
    have one : ∀ (a d : Nat), d < 10 → a * 10 + d ≤ M → Lib.parseUintM M a [UInt8.ofNat (48 + d)] = .ok (a * 10 + d) := fun a d hd ha => by
      have e : (UInt8.ofNat (48 + d)).toNat = 48 + d := by rw [UInt8.toNat_ofNat']; omega
      unfold Lib.parseUintM
      rw [e, if_pos (by omega), if_neg (by omega), if_neg (by omega)]
      unfold Lib.parseUintM
      congr 1
      omega
    rw [Lib.decDigits]
    split
    · rename_i h
      have := one 0 u h (by omega)
      simpa using this
    · rw [parse_snoc _ 0 (ih (u / 10) (by omega) (by omega)), one (u / 10) (u % 10) (by omega) (by omega)]
      congr 1
      omega
theorem parseB_dec {u : Nat} (hu : u ≤ 4294967295) : Lib.parseUintB 32 (Lib.decDigits u) = .ok u := by
  unfold Lib.parseUintB
  rw [if_neg (by intro e; have := congrArg List.length e; rw [Lib.decDigits_length] at this; have := Lib.nDigits_pos u; simp at *; omega)]
  exact parse_dec (by decide) u hu
theorem data_str (l : List UInt8) : (str l).data.toList = l := by unfold str; simp
theorem eta_str (l : List UInt8) : (⟨l.toArray⟩ : ByteArray) = str l := rfl
theorem dec_str (u : Nat) : (⟨(Lib.decDigits u).toArray⟩ : ByteArray) = str (Lib.decDigits u) := rfl
theorem nilI : EqV Tryz.prog T.error .nilIface .nilIface true := fun h => by kernel_rfl
theorem trim_app (p r : List UInt8) : Lib.trimPrefix (p ++ r) p = r ∧ Lib.hasPrefix (p ++ r) p = true := by
  have h1 : Lib.hasPrefix (p ++ r) p = true := by
    unfold Lib.hasPrefix
    rw [List.isPrefixOf_iff_prefix]; exact List.prefix_append p r
  refine ⟨?_, h1⟩
  unfold Lib.trimPrefix
  rw [if_pos h1, List.drop_left]
/-! ### the calls -/
theorem numbers_ok {x : Ev} (hi : x.ipn = true) (hr : rightE x = true) (w1 : 0 ≤ x.svc) (tb : Num.Tab h) (mx : Num.Mx h) (hk : ∀ h', Fr (fun _ => False) h h' → R (.tuple #[ev5 x, .bool true]) h') : CallsH Tryz.prog F.eid_parseNumbers #[.string (str (Lib.decDigits x.node.toNat ++ [46] ++ Lib.decDigits x.svc.toNat))] h R := by
  have hz : x ≠ .zero := fun e => by rw [e] at hi; cases hi
  have hr' := hr
  unfold rightE at hr'
  rw [if_neg hz, if_pos hi] at hr'
  have hr' := of_decide_eq_true hr'
  have l1 := dec_len (u := x.node.toNat) (by omega)
  have l2 := dec_len (u := x.svc.toNat) (by omega)
  have hd : (46 : UInt8) ∉ Lib.decDigits x.node.toNat := fun hm => by
    have := dec_digits _ _ hm
    have e : (46 : UInt8).toNat = 46 := rfl
    omega
  have ec : Lib.cut (str (Lib.decDigits x.node.toNat ++ [46] ++ Lib.decDigits x.svc.toNat)).data.toList (⟨#[46]⟩ : ByteArray).data.toList = (Lib.decDigits x.node.toNat, Lib.decDigits x.svc.toNat, true) := by
    rw [data_str, List.append_assoc]
    exact cut_one 46 _ _ hd
  refine eid_parseNumbers.walk (newP_of ?_)
  have f1 : Fr (fun _ => False) h (h.push (.cells #[.bool false, .int .u64 0, .int .u64 0, .string ⟨#[]⟩, .string ⟨#[]⟩] T.eid_Eid)) := Fr.push _ _
  have hb1 : eid_Eid.at (h.push (.cells #[.bool false, .int .u64 0, .int .u64 0, .string ⟨#[]⟩, .string ⟨#[]⟩] T.eid_Eid)) h.size false 0 0 ⟨#[]⟩ ⟨#[]⟩ := push_new
  generalize h.push (.cells #[.bool false, .int .u64 0, .int .u64 0, .string ⟨#[]⟩, .string ⟨#[]⟩] T.eid_Eid) = h1 at f1 hb1 ⊢
  refine Num.cut_ok (mx.on f1) (by rw [str_size]; simp; omega) ⟨_, _, _, rfl, ?_⟩
  rw [ec]
  dsimp only
  rw [dec_str, dec_str]
  refine Num.parse_ok (u := x.node.toNat) (by rw [str_size]; omega) (by rw [data_str]; exact parseB_dec (by omega)) fun h2 f2 => ⟨_, _, rfl, Num.parse_ok (u := x.svc.toNat) (by rw [str_size]; omega) (by rw [data_str]; exact parseB_dec (by omega)) fun h3 f3 => ⟨_, _, rfl, eid_Eid.new fun b4 h4 e4 hb4 f4 => eid_Eid.ld hb4 ?_⟩⟩
  have n1 : ((x.node.toNat : Nat) : Int) = x.node := by omega
  have n2 : ((x.svc.toNat : Nat) : Int) = x.svc := by omega
  rw [n1, n2] at hb4
  rw [n1, n2, if_pos rfl]
  refine ⟨true, nilI, ?_⟩
  rw [if_pos rfl]
  refine ⟨true, nilI, ?_⟩
  rw [if_pos rfl]
  have ex : (⟨true, x.node, x.svc, ⟨#[]⟩, ⟨#[]⟩⟩ : Ev) = x := Ev.ext' hi.symm rfl rfl hr'.1.symm hr'.2.1.symm
  have F3 := f1.tt (f2.tt (f3.tt f4))
  refine eid_Eid.ld hb4 (right_ok ⟨true, x.node, x.svc, ⟨#[]⟩, ⟨#[]⟩⟩ fun h5 f5 => ⟨_, rfl, eid_Eid.held (f5.get hb4 id), ?_⟩)
  rw [ex, if_pos hr]
  have fm := Num.formatUint_ok (R := fun v_4 h_8 => ∃ (t47 : ByteArray), v_4 = .string t47 ∧
    heldL ⟨b4, 0, none⟩ [.bool true, .int .u64 x.node, .int .u64 x.svc, .string ⟨#[]⟩, .string ⟨#[]⟩] 0 h_8 ∧
    if (t47.toList == (str (Lib.decDigits x.node.toNat)).toList) = true then
      CallsH Tryz.prog F.strconv_FormatUint #[.int .u64 x.svc, .int .i64 10] h_8 fun v_5 h_9 =>
      ∃ (t53 : ByteArray), v_5 = .string t53 ∧
      heldL ⟨b4, 0, none⟩ [.bool true, .int .u64 x.node, .int .u64 x.svc, .string ⟨#[]⟩, .string ⟨#[]⟩] 0 h_9 ∧
      eid_Eid.ST h_9 ⟨h.size, 0, none⟩ true x.node x.svc ⟨#[]⟩ ⟨#[]⟩ fun h_10 =>
      eid_Eid.LD h_10 ⟨h.size, 0, none⟩ fun r_0 r_1 r_2 r_3 r_4 =>
      R (.tuple #[.agg #[.bool r_0, .int .u64 r_1, .int .u64 r_2, .string r_3, .string r_4], .bool (t53.toList == (str (Lib.decDigits x.svc.toNat)).toList)]) h_10
    else
      eid_Eid.ST h_8 ⟨h.size, 0, none⟩ true x.node x.svc ⟨#[]⟩ ⟨#[]⟩ fun h_11 =>
      eid_Eid.LD h_11 ⟨h.size, 0, none⟩ fun r_0_1 r_1_1 r_2_1 r_3_1 r_4_1 =>
      R (.tuple #[.agg #[.bool r_0_1, .int .u64 r_1_1, .int .u64 r_2_1, .string r_3_1, .string r_4_1], .bool false]) h_11) (h := h5) (u := x.node.toNat) (tb.on (F3.tt f5)) (by omega) fun h6 f6 => by
    refine ⟨_, rfl, eid_Eid.held ((f5.tt f6).get hb4 id), ?_⟩
    rw [dec_str, if_pos (by simp)]
    have hb6 := ((f2.tt (f3.tt f4)).tt (f5.tt f6)).get hb1 id
    have fm2 := Num.formatUint_ok (R := fun v_5 h_9 => ∃ (t53 : ByteArray), v_5 = .string t53 ∧
      heldL ⟨b4, 0, none⟩ [.bool true, .int .u64 x.node, .int .u64 x.svc, .string ⟨#[]⟩, .string ⟨#[]⟩] 0 h_9 ∧
      eid_Eid.ST h_9 ⟨h.size, 0, none⟩ true x.node x.svc ⟨#[]⟩ ⟨#[]⟩ fun h_10 =>
      eid_Eid.LD h_10 ⟨h.size, 0, none⟩ fun r_0 r_1 r_2 r_3 r_4 =>
      R (.tuple #[.agg #[.bool r_0, .int .u64 r_1, .int .u64 r_2, .string r_3, .string r_4], .bool (t53.toList == (str (Lib.decDigits x.svc.toNat)).toList)]) h_10) (h := h6) (u := x.svc.toNat) (tb.on (F3.tt (f5.tt f6))) (by omega) fun h7 f7 => by
      refine ⟨_, rfl, eid_Eid.held ((f5.tt (f6.tt f7)).get hb4 id), eid_Eid.set (f7.get hb6 id) fun h8 a8 s8 o8 => eid_Eid.ld a8 ?_⟩
      rw [dec_str]
      have eb : ((str (Lib.decDigits x.svc.toNat)).toList == (str (Lib.decDigits x.svc.toNat)).toList) = true := by simp
      rw [eb]
      have K := hk h8 ((F3.tt (f5.tt (f6.tt f7))).fresh (S := fun y => y = h.size) ⟨by omega, fun y _ hn => o8 y hn⟩ (fun y e => Nat.le_of_eq e.symm))
      unfold ev5 at K
      rw [← ex] at K
      exact K
    rw [n2] at fm2
    exact fm2
  rw [n1] at fm
  exact fm
theorem plain_no {s : ByteArray} (hp : plainB 45 s = true) : (47 : UInt8) ∉ s.data.toList := fun hm => by
  have := List.all_eq_true.1 hp _ hm
  revert this
  decide
theorem parsePath_ok {x : Ev} (hi : x.ipn = false) (hz : x ≠ .zero) (hr : rightE x = true) (mx : Num.Mx h) (hk : ∀ h', Fr (fun _ => False) h h' → R (.tuple #[ev5 x, .bool true]) h') : CallsH Tryz.prog F.eid_parsePath #[.string (str ([47, 47] ++ x.host.data.toList ++ [47] ++ x.dem.data.toList))] h R := by
  have hr' := hr
  unfold rightE at hr'
  rw [if_neg hz, if_neg (by rw [hi]; decide)] at hr'
  simp only [Bool.and_eq_true, decide_eq_true_eq] at hr'
  obtain ⟨⟨n0, s0, q1, q2, q3⟩, p1, p2⟩ := hr'
  have l1 := data_len x.host
  have l2 := data_len x.dem
  have et : Lib.trimPrefix (str ([47, 47] ++ x.host.data.toList ++ [47] ++ x.dem.data.toList)).data.toList (⟨#[47, 47]⟩ : ByteArray).data.toList = x.host.data.toList ++ [47] ++ x.dem.data.toList ∧ Lib.hasPrefix (str ([47, 47] ++ x.host.data.toList ++ [47] ++ x.dem.data.toList)).data.toList (⟨#[47, 47]⟩ : ByteArray).data.toList = true := by
    rw [data_str, List.append_assoc, List.append_assoc]
    have := trim_app [47, 47] (x.host.data.toList ++ ([47] ++ x.dem.data.toList))
    rw [← List.append_assoc x.host.data.toList] at this ⊢
    exact this
  have ec : Lib.cut (x.host.data.toList ++ [47] ++ x.dem.data.toList) (⟨#[47]⟩ : ByteArray).data.toList = (x.host.data.toList, x.dem.data.toList, true) := by
    rw [List.append_assoc]; exact cut_one 47 _ _ (plain_no p1)
  refine eid_parsePath.walk (newP_of ?_)
  have f1 : Fr (fun _ => False) h (h.push (.cells #[.bool false, .int .u64 0, .int .u64 0, .string ⟨#[]⟩, .string ⟨#[]⟩] T.eid_Eid)) := Fr.push _ _
  have hb1 : eid_Eid.at (h.push (.cells #[.bool false, .int .u64 0, .int .u64 0, .string ⟨#[]⟩, .string ⟨#[]⟩] T.eid_Eid)) h.size false 0 0 ⟨#[]⟩ ⟨#[]⟩ := push_new
  generalize h.push (.cells #[.bool false, .int .u64 0, .int .u64 0, .string ⟨#[]⟩, .string ⟨#[]⟩] T.eid_Eid) = h1 at f1 hb1 ⊢
  refine Num.prefix_ok ⟨_, _, rfl, ?_⟩
  rw [et.1, et.2, eta_str]
  refine Num.cut_ok (mx.on f1) (by rw [str_size]; simp; omega) ⟨_, _, _, rfl, ?_⟩
  rw [data_str, ec]
  dsimp only
  have ea : (⟨x.host.data.toList.toArray⟩ : ByteArray) = x.host := rfl
  have ed : (⟨x.dem.data.toList.toArray⟩ : ByteArray) = x.dem := rfl
  rw [ea, ed]
  refine eid_Eid.new fun b4 h4 e4 hb4 f4 => eid_Eid.ld hb4 ?_
  have hne : ¬ x.host = ⟨#[]⟩ := fun e => by rw [e] at q1; revert q1; decide
  rw [if_pos rfl, if_pos rfl, nil_eq, if_pos (by simpa using hne)]
  have ex : (⟨false, 0, 0, x.host, x.dem⟩ : Ev) = x := Ev.ext' hi.symm n0.symm s0.symm rfl rfl
  refine eid_Eid.ld hb4 (right_ok ⟨false, 0, 0, x.host, x.dem⟩ fun h5 f5 => ⟨_, rfl, eid_Eid.held (f5.get hb4 id), eid_Eid.set ((f4.tt f5).get hb1 id) fun h8 a8 s8 o8 => eid_Eid.ld a8 ?_⟩)
  rw [ex, hr]
  have K := hk h8 ((f1.tt (f4.tt f5)).fresh (S := fun y => y = h.size) ⟨by omega, fun y _ hn => o8 y hn⟩ (fun y e => Nat.le_of_eq e.symm))
  unfold ev5 at K
  rw [← ex] at K
  exact K
/-- the text of a name that may be is that name's -/
theorem parse_ok {x : Ev} (hr : rightE x = true) (w1 : 0 ≤ x.svc) (hz : x ≠ .zero) (tb : Num.Tab h) (mx : Num.Mx h) (hk : ∀ h', Fr (fun _ => False) h h' → R (.tuple #[ev5 x, .int .i64 0]) h') : CallsH Tryz.prog F.eid_Parse #[.string (str (textE x))] h R := by
  refine eid_Parse.walk (newP_of ?_)
  have f1 : Fr (fun _ => False) h (h.push (.cells #[.bool false, .int .u64 0, .int .u64 0, .string ⟨#[]⟩, .string ⟨#[]⟩] T.eid_Eid)) := Fr.push _ _
  have hb1 : eid_Eid.at (h.push (.cells #[.bool false, .int .u64 0, .int .u64 0, .string ⟨#[]⟩, .string ⟨#[]⟩] T.eid_Eid)) h.size false 0 0 ⟨#[]⟩ ⟨#[]⟩ := push_new
  generalize h.push (.cells #[.bool false, .int .u64 0, .int .u64 0, .string ⟨#[]⟩, .string ⟨#[]⟩] T.eid_Eid) = h1 at f1 hb1 ⊢
  have lb1 := lt_of_get hb1
  have tne : ¬ ((str (textE x)).toList == (⟨#[100, 116, 110, 58, 110, 111, 110, 101]⟩ : ByteArray).toList) = true := by
    rw [beq_iff_eq, str_list, toList_data]
    unfold textE
    rw [if_neg hz]
    split
    · intro e; simp at e
    · intro e; simp at e
  rw [if_neg tne]
  refine newP_of ?_
  have f2 : Fr (fun _ => False) h1 (h1.push (.cells #[.bool false, .int .u64 0, .int .u64 0, .string ⟨#[]⟩, .string ⟨#[]⟩] T.eid_Eid)) := Fr.push _ _
  have hb2 : eid_Eid.at (h1.push (.cells #[.bool false, .int .u64 0, .int .u64 0, .string ⟨#[]⟩, .string ⟨#[]⟩] T.eid_Eid)) h1.size false 0 0 ⟨#[]⟩ ⟨#[]⟩ := push_new
  generalize h1.push (.cells #[.bool false, .int .u64 0, .int .u64 0, .string ⟨#[]⟩, .string ⟨#[]⟩] T.eid_Eid) = h2 at f2 hb2 ⊢
  have lb2 := lt_of_get hb2
  have F2 := f1.tt f2
  have hb12 := f2.get hb1 id
  refine Num.prefix_ok ⟨_, _, rfl, JoinP.of fun J hJ => ?_⟩
  have done : ∀ g, Fr (fun _ => False) h2 g → ∀ g', eid_Eid.at g' h1.size x.ipn x.node x.svc x.host x.dem → g'.size = g.size → (∀ y, y ≠ h1.size → g'[y]? = g[y]?) → J true g' := fun g fg g' ag sg og => by
    subst hJ
    dsimp only
    rw [if_neg (by decide)]
    have z1 := f1.1
    have Fg : Fr (fun _ => False) h g' := (F2.tt fg).fresh (S := fun y => y = h1.size) ⟨by omega, fun y _ hn => og y hn⟩ (fun y e => by omega)
    have hbg : eid_Eid.at g' h.size false 0 0 ⟨#[]⟩ ⟨#[]⟩ := by
      have := fg.get hb12 id
      show g'[h.size]? = _
      rw [og h.size (by omega)]; exact this
    refine eid_Eid.ld ag (eid_Eid.set hbg fun h8 a8 s8 o8 => eid_Eid.ld a8 ?_)
    exact hk h8 (Fg.fresh (S := fun y => y = h.size) ⟨by omega, fun y _ hn => o8 y hn⟩ (fun y e => Nat.le_of_eq e.symm))
  rw [data_str]
  by_cases hi : x.ipn = true
  · have ht : textE x = [105, 112, 110, 58] ++ (Lib.decDigits x.node.toNat ++ [46] ++ Lib.decDigits x.svc.toNat) := by
      unfold textE; rw [if_neg hz, if_pos hi]; simp
    have tr := trim_app [105, 112, 110, 58] (Lib.decDigits x.node.toNat ++ [46] ++ Lib.decDigits x.svc.toNat)
    rw [← ht] at tr
    have e1 : (⟨#[105, 112, 110, 58]⟩ : ByteArray).data.toList = [105, 112, 110, 58] := rfl
    rw [e1, tr.1, tr.2, if_pos rfl, eta_str]
    refine numbers_ok hi hr w1 (tb.on F2) (mx.on F2) fun h3 f3 => ⟨_, _, _, _, _, _, rfl, eid_Eid.set (f3.get hb2 id) fun h4 a4 s4 o4 => ?_⟩
    exact done h3 f3 h4 a4 s4 o4
  · have hi' : x.ipn = false := by simpa using hi
    have ht : textE x = [100, 116, 110, 58] ++ ([47, 47] ++ x.host.data.toList ++ [47] ++ x.dem.data.toList) := by
      unfold textE; rw [if_neg hz, if_neg hi]
    have hp : Lib.hasPrefix (textE x) (⟨#[105, 112, 110, 58]⟩ : ByteArray).data.toList = false := by
      rw [ht]; unfold Lib.hasPrefix; rfl
    rw [hp, if_neg (by decide)]
    refine Num.prefix_ok ⟨_, _, rfl, JoinP.of fun J1 hJ1 => ?_⟩
    have tr := trim_app [100, 116, 110, 58] ([47, 47] ++ x.host.data.toList ++ [47] ++ x.dem.data.toList)
    rw [← ht] at tr
    have e1 : (⟨#[100, 116, 110, 58]⟩ : ByteArray).data.toList = [100, 116, 110, 58] := rfl
    rw [data_str, e1, tr.1, tr.2, if_pos rfl, eta_str]
    refine parsePath_ok hi' hz hr (mx.on F2) fun h3 f3 => ⟨_, _, _, _, _, _, rfl, eid_Eid.set (f3.get hb2 id) fun h4 a4 s4 o4 => ?_⟩
    subst hJ1
    exact done h3 f3 h4 a4 s4 o4
end Eid
end Go.Proofs.YtgccegnmggjkjaaGreatDoor
