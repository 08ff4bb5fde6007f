/-
  What is proved here: what the functions of package slices do that sort numbers: the small ones. No condition.
-/
import Derived.Test.YtgccegnmggjkjaaSrtP
import Derived.Test.YtgccegnmggjkjaaVcS
set_option maxRecDepth 100000
namespace Go.Proofs.Ytgccegnmggjkjaa
open Go.Den Go.Srt
namespace Srt
variable {h h0 g : Heap} {R : Value → Heap → Prop} {p : Option Addr} {n c a b i j : Nat} {xs ys : List Int} {I J : Int}
abbrev iv (x : Int) : Value := .int .i64 x
structure D (h0 h : Heap) (p : Option Addr) (n c : Nat) (xs : List Int) : Prop where
  own : Own h p n c 1 (xs.map iv)
  len : n = xs.length
  fr : Fr (inBlk p) h0 h
theorem D.on {h' : Heap} (d : D h0 g p n c xs) (f : Fr (fun _ => False) g h') : D h0 h' p n c xs := ⟨d.own.frame f (fun _ _ => id), d.len, d.fr.on f⟩
/-- another block, that is new, changes -/
theorem D.touch {h' : Heap} {s : Nat} (d : D h0 g p n c xs) (hs : h'.size = g.size) (ho : ∀ x, x ≠ s → h'[x]? = g[x]?) (hn : h0.size ≤ s) (hp : ¬ inBlk p s) : D h0 h' p n c xs := by
  have f : Fr (fun y => y = s) g h' := ⟨by omega, fun y _ hy => ho y hy⟩
  refine ⟨d.own.frame f (fun y hy e => hp (e ▸ hy)), d.len, ⟨by have := d.fr.1; omega, fun y hy hn2 => ?_⟩⟩
  rw [ho y (by omega)]; exact d.fr.2 y hy hn2
theorem D.at {K : Int → Prop} (d : D h0 g p n c xs) (hI : I = (i : Int)) (hi : i < n) (hk : K (V xs i)) :
    ((0 : Int) ≤ I ∧ I < ((n : Nat) : Int)) ∧ onSome p fun a => ∃ t : Int, hcell g (a.add (Int.toNat I * 1)) = some (.int .i64 t) ∧ K t := by
  subst hI
  obtain ⟨ab, ao, rfl⟩ := d.own.addr (by omega)
  have hl := d.len
  refine ⟨⟨by omega, by omega⟩, onSome_some.2 ⟨V xs i, ?_, hk⟩⟩
  rw [Int.toNat_natCast, Nat.mul_one]
  exact d.own.cell (by rw [List.getElem?_map, V_at (by omega)]; rfl)
theorem less_ok {x y : Int} (hk : R (.bool (decide (x < y))) h) : CallsH Try.prog F.cmp_Less_int #[.int .i64 x, .int .i64 y] h R := by
  refine cmp_Less_int.walk (cmp_isNaN_int.walk ⟨_, rfl, ?_⟩)
  rw [if_neg (by simp)]; exact hk
theorem D.cmp {K : Bool → Heap → Prop} (d : D h0 g p n c xs) (hI : I = (i : Int)) (hi : i < n) (hJ : J = (j : Int)) (hj : j < n) (hk : K (decide (V xs i < V xs j)) g) :
    ((0 : Int) ≤ I ∧ I < ((n : Nat) : Int)) ∧ onSome p fun a => ∃ t : Int, hcell g (a.add (Int.toNat I * 1)) = some (.int .i64 t) ∧
      ((0 : Int) ≤ J ∧ J < ((n : Nat) : Int)) ∧ onSome p fun a1 => ∃ u : Int, hcell g (a1.add (Int.toNat J * 1)) = some (.int .i64 u) ∧
        CallsH Try.prog F.cmp_Less_int #[.int .i64 t, .int .i64 u] g fun v g1 => ∃ q : Bool, v = .bool q ∧ K q g1 :=
  d.at hI hi (K := fun t => ((0 : Int) ≤ J ∧ J < ((n : Nat) : Int)) ∧ onSome p fun a1 => ∃ u : Int, hcell g (a1.add (Int.toNat J * 1)) = some (.int .i64 u) ∧ CallsH Try.prog F.cmp_Less_int #[.int .i64 t, .int .i64 u] g fun v g1 => ∃ q : Bool, v = .bool q ∧ K q g1)
    (d.at hJ hj (less_ok ⟨_, rfl, hk⟩))
theorem D.swap {K : Heap → Prop} (d : D h0 g p n c xs) (hI : I = (i : Int)) (hi : i < n) (hJ : J = (j : Int)) (hj : j < n) (hk : ∀ g', D h0 g' p n c (swp xs i j) → g'.size = g.size → (∀ x, ¬ inBlk p x → g'[x]? = g[x]?) → K g') :
    ((0 : Int) ≤ J ∧ J < ((n : Nat) : Int)) ∧ onSome p fun a => ∃ t : Int, hcell g (a.add (Int.toNat J * 1)) = some (.int .i64 t) ∧
      ((0 : Int) ≤ I ∧ I < ((n : Nat) : Int)) ∧ onSome p fun a1 => ∃ u : Int, hcell g (a1.add (Int.toNat I * 1)) = some (.int .i64 u) ∧
      ((0 : Int) ≤ I ∧ I < ((n : Nat) : Int)) ∧ onSome p fun a2 => StoreP g (a2.add (Int.toNat I * 1)) (.int .i64 t) fun g1 =>
      ((0 : Int) ≤ J ∧ J < ((n : Nat) : Int)) ∧ onSome p fun a3 => StoreP g1 (a3.add (Int.toNat J * 1)) (.int .i64 u) fun g2 => K g2 := by
  have hl := d.len
  refine d.at hJ hj (K := fun t => ((0 : Int) ≤ I ∧ I < ((n : Nat) : Int)) ∧ onSome p fun a1 => ∃ u : Int, hcell g (a1.add (Int.toNat I * 1)) = some (.int .i64 u) ∧
      ((0 : Int) ≤ I ∧ I < ((n : Nat) : Int)) ∧ onSome p fun a2 => StoreP g (a2.add (Int.toNat I * 1)) (.int .i64 t) fun g1 =>
      ((0 : Int) ≤ J ∧ J < ((n : Nat) : Int)) ∧ onSome p fun a3 => StoreP g1 (a3.add (Int.toNat J * 1)) (.int .i64 u) fun g2 => K g2) (d.at hI hi ?_)
  subst hI hJ
  obtain ⟨ab, ao, rfl⟩ := d.own.addr (by omega)
  simp only [Int.toNat_natCast, Nat.mul_one]
  refine ⟨⟨by omega, by omega⟩, onSome_some.2 (d.own.store (by rw [List.length_map]; omega) fun g1 o1 s1 q1 => ⟨⟨by omega, by omega⟩, onSome_some.2 (o1.store (by rw [List.length_set, List.length_map]; omega) fun g2 o2 s2 q2 => ?_)⟩)⟩
  have e : (((xs.map iv).set i (.int .i64 (V xs j))).set j (.int .i64 (V xs i))) = (swp xs i j).map iv := by
    rw [← swp_eq (V_at (by omega)) (V_at (by omega)), List.map_set, List.map_set]
  rw [e] at o2
  refine hk g2 ⟨o2, by rw [swp_len]; exact hl, ⟨by have := d.fr.1; omega, fun y hy hn => ?_⟩⟩ (by omega) (fun x hx => by rw [q2 x hx, q1 x hx])
  rw [q2 y hn, q1 y hn]; exact d.fr.2 y hy hn
theorem wS {x : Int} {k : Nat} (h : x = (k : Int)) (hk : k ≤ 1000000000) : IntKind.wrap .i64 x = (k : Int) := by rw [h]; exact wrap_id (by omega) (by omega)

/-! ### insertion -/
theorem ins_ok (d : D h0 h p n c xs) (nd : xs.Nodup) (hb : b ≤ n) (hn : n ≤ 100000) (ha : a ≤ n) (hk : ∀ h' ys, D h0 h' p n c ys → PermOn a b ys xs → SO ys a b → R (.tuple #[]) h') :
    CallsH Try.prog F.slices_insertionSortOrdered_int #[.slice p n c, .int .i64 (a : Int), .int .i64 (b : Int)] h R := by
  refine slices_insertionSortOrdered_int.walk ?_
  refine ⟨fun t g => ∃ (i : Nat) (ys : List Int), t = (i : Int) ∧ a + 1 ≤ i ∧ (i ≤ b ∨ i = a + 1) ∧ D h0 g p n c ys ∧ PermOn a b ys xs ∧ SO ys a i, fun t _ => b - t.toNat, ⟨a + 1, xs, wS (by omega) (by omega), Nat.le_refl _, .inr rfl, d, .refl, fun p q _ _ _ => by omega⟩, ?_⟩
  rintro _ g ⟨i, ys, rfl, h1, h2, dy, py, sy⟩
  have ly := dy.len
  by_cases hi : i < b
  · rw [if_pos (decide_eq_true (by omega))]
    refine ⟨fun t g' => ∃ (j : Nat) (zs : List Int), t = (j : Int) ∧ a ≤ j ∧ j ≤ i ∧ D h0 g' p n c zs ∧ InsI ys zs a i j, fun t _ => t.toNat, ⟨i, ys, rfl, by omega, Nat.le_refl _, dy, InsI.start sy⟩, ?_⟩
    rintro _ g2 ⟨j, zs, rfl, haj, hj, dz, Iz⟩
    have lz := dz.len
    have pz : PermOn a b zs xs := (Iz.perm.mono (Nat.le_refl _) (by omega)).trans py
    refine JoinP.of fun J hJ => ?_
    have stop : (j = a ∨ V zs (j - 1) < V zs j) → J false g2 := by
      intro he
      subst hJ
      simp only [Bool.false_eq_true, if_false]
      rw [wS (k := i + 1) (by omega) (by omega)]
      exact ⟨⟨i + 1, zs, rfl, by omega, .inl (by omega), dz, pz, Iz.stop haj hj he⟩, by show b - Int.toNat ((i + 1 : Nat) : Int) < b - i; omega⟩
    by_cases hja : a < j
    · rw [if_pos (decide_eq_true (by omega))]
      have e1 : IntKind.wrap .i64 ((j : Int) - 1) = ((j - 1 : Nat) : Int) := wS (by omega) (by omega)
      refine dz.cmp rfl (by omega) e1 (by omega) ?_
      by_cases hl : V zs j < V zs (j - 1)
      · rw [decide_eq_true hl]
        subst hJ
        simp only [if_true]
        refine dz.swap (i := j) (j := j - 1) rfl (by omega) e1 (by omega) fun g3 d3 _ _ => ?_
        rw [e1]
        exact ⟨⟨j - 1, _, rfl, by omega, by omega, d3, Iz.swap hja hj (by omega) hl⟩, by show Int.toNat ((j - 1 : Nat) : Int) < j; omega⟩
      · rw [decide_eq_false hl]
        have := nd_ne (pz.nd nd) (i := j - 1) (j := j) (by omega) (by omega) (by omega)
        exact stop (.inr (by omega))
    · rw [if_neg (by simp; omega)]
      exact stop (.inl (by omega))
  · rw [if_neg (by simp; omega)]
    refine hk g ys dy py ?_
    rcases h2 with h2 | h2
    · have : i = b := by omega
      rw [← this]; exact sy
    · intro p q _ _ _; omega

/-! ### a heap -/
theorem sift_ok {f lo hi : Nat} (d : D h0 h p n c xs) (nd : xs.Nodup) (hb : f + hi ≤ n) (hn : n ≤ 100000) (hlo : lo ≤ 100000) (H : HeapOn xs f (lo + 1) hi) (hk : ∀ h' ys, D h0 h' p n c ys → PermOn f (f + hi) ys xs → HeapOn ys f lo hi → R (.tuple #[]) h') :
    CallsH Try.prog F.slices_siftDownOrdered_int #[.slice p n c, .int .i64 (lo : Int), .int .i64 (hi : Int), .int .i64 (f : Int)] h R := by
  refine slices_siftDownOrdered_int.walk ?_
  refine ⟨fun t g => ∃ (r : Nat) (ys : List Int), t = (r : Int) ∧ lo ≤ r ∧ r ≤ lo + hi ∧ D h0 g p n c ys ∧ SiftI xs ys f lo hi r, fun t _ => lo + hi - t.toNat, ⟨lo, xs, rfl, Nat.le_refl _, by omega, d, SiftI.start H⟩, ?_⟩
  rintro _ g ⟨r, ys, rfl, h1, h2, dy, Sy⟩
  have ly := dy.len
  have ndy := Sy.perm.nd nd
  have w0 : IntKind.wrap .i64 (2 * (r : Int)) = ((2 * r : Nat) : Int) := wS (by omega) (by omega)
  have w1 : IntKind.wrap .i64 (((2 * r : Nat) : Int) + 1) = ((2 * r + 1 : Nat) : Int) := wS (by omega) (by omega)
  have w2 : IntKind.wrap .i64 (((2 * r + 1 : Nat) : Int) + 1) = ((2 * r + 2 : Nat) : Int) := wS (by omega) (by omega)
  simp only [w0, w1, w2]
  by_cases hc : 2 * r + 1 < hi
  · rw [if_neg (by simp; omega)]
    refine JoinP.of fun J hJ => ?_
    have w3 : IntKind.wrap .i64 ((f : Int) + (r : Int)) = ((f + r : Nat) : Int) := wS (by omega) (by omega)
    have w4 : IntKind.wrap .i64 ((f : Int) + ((2 * r + 1 : Nat) : Int)) = ((f + (2 * r + 1) : Nat) : Int) := wS (by omega) (by omega)
    -- the child is chosen
    have go : ∀ (q : Bool) (ch : Nat), ch = (if q = true then 2 * r + 2 else 2 * r + 1) → ch < hi → (ch = 2 * r + 2 → V ys (f + (2 * r + 1)) < V ys (f + ch)) → (ch = 2 * r + 1 → 2 * r + 2 < hi → V ys (f + (2 * r + 2)) < V ys (f + ch)) → J q g := by
      intro q ch ech hch k1 k2
      subst hJ
      refine JoinP.of fun J hJ => ?_
      have w5 : IntKind.wrap .i64 ((f : Int) + (ch : Int)) = ((f + ch : Nat) : Int) := wS (by omega) (by omega)
      have cc : ch = 2 * r + 1 ∨ ch = 2 * r + 2 := by cases q <;> simp at ech <;> omega
      have go2 : J (ch : Int) g := by
        subst hJ
        refine dy.cmp w3 (by omega) w5 (by omega) ?_
        by_cases hl : V ys (f + r) < V ys (f + ch)
        · rw [decide_eq_true hl, if_neg (by decide)]
          refine dy.swap (i := f + r) (j := f + ch) w3 (by omega) w5 (by omega) fun g3 d3 _ _ => ?_
          exact ⟨⟨ch, _, rfl, by omega, by omega, d3, Sy.swap (by omega) h1 cc hch hl k1 k2⟩, by show lo + hi - Int.toNat (ch : Int) < lo + hi - r; omega⟩
        · rw [decide_eq_false hl, if_pos (by decide)]
          have hne := nd_ne ndy (i := f + r) (j := f + ch) (by omega) (by omega) (by omega)
          have hlt : V ys (f + ch) < V ys (f + r) := by omega
          refine hk g ys dy Sy.perm (Sy.stop (fun _ => ?_) (fun g2 => ?_))
          · rcases cc with e | e
            · rw [← e]; exact hlt
            · exact Int.lt_trans (k1 e) hlt
          · rcases cc with e | e
            · exact Int.lt_trans (k2 e g2) hlt
            · rw [← e]; exact hlt
      cases q with
      | true => simp only [if_true] at ech ⊢; rw [ech] at go2; exact go2
      | false => simp only [Bool.false_eq_true, if_false] at ech ⊢; rw [ech] at go2; exact go2
    clear hJ
    by_cases hc2 : 2 * r + 2 < hi
    · rw [if_pos (decide_eq_true (by omega))]
      have w6 : IntKind.wrap .i64 (((f + (2 * r + 1) : Nat) : Int) + 1) = ((f + (2 * r + 2) : Nat) : Int) := wS (by omega) (by omega)
      rw [w4, w6]
      refine dy.cmp rfl (by omega) rfl (by omega) ?_
      by_cases hl : V ys (f + (2 * r + 1)) < V ys (f + (2 * r + 2))
      · rw [decide_eq_true hl]
        exact go true (2 * r + 2) rfl hc2 (fun _ => hl) (fun e => by omega)
      · rw [decide_eq_false hl]
        have hne := nd_ne ndy (i := f + (2 * r + 1)) (j := f + (2 * r + 2)) (by omega) (by omega) (by omega)
        exact go false (2 * r + 1) rfl hc (fun e => by omega) (fun _ _ => by omega)
    · rw [if_neg (by simp; omega)]
      exact go false (2 * r + 1) rfl hc (fun e => by omega) (fun _ e => by omega)
  · rw [if_pos (decide_eq_true (by omega))]
    exact hk g ys dy Sy.perm (Sy.stop (fun e => by omega) (fun e => by omega))
theorem heap_ok (d : D h0 h p n c xs) (nd : xs.Nodup) (hab : a < b) (hb : b ≤ n) (hn : n ≤ 100000) (hk : ∀ h' ys, D h0 h' p n c ys → PermOn a b ys xs → SO ys a b → R (.tuple #[]) h') :
    CallsH Try.prog F.slices_heapSortOrdered_int #[.slice p n c, .int .i64 (a : Int), .int .i64 (b : Int)] h R := by
  refine slices_heapSortOrdered_int.walk ?_
  have wh : IntKind.wrap .i64 ((b : Int) - (a : Int)) = ((b - a : Nat) : Int) := wS (by omega) (by omega)
  have w1 : IntKind.wrap .i64 (((b - a : Nat) : Int) - 1) = ((b - a - 1 : Nat) : Int) := wS (by omega) (by omega)
  have w2 : IntKind.wrap .i64 (Int.tdiv ((b - a - 1 : Nat) : Int) 2) = (((b - a - 1) / 2 : Nat) : Int) := wS (by rw [Int.tdiv_eq_ediv_of_nonneg (by omega)]; omega) (by omega)
  unfold slices_heapSortOrdered_int.vc
  rw [wh, w1, w2]
  have eb : a + (b - a) = b := by omega
  refine ⟨fun t g => ∃ (k : Nat) (ys : List Int), t = (k : Int) - 1 ∧ k ≤ (b - a - 1) / 2 + 1 ∧ D h0 g p n c ys ∧ PermOn a b ys xs ∧ HeapOn ys a k (b - a), fun t _ => (t + 1).toNat, ⟨(b - a - 1) / 2 + 1, xs, by omega, Nat.le_refl _, d, .refl, fun i hi => ⟨fun _ => by omega, fun _ => by omega⟩⟩, ?_⟩
  rintro _ g ⟨k, ys, rfl, hk1, dy, py, Hy⟩
  have ly := dy.len
  by_cases hk0 : 0 < k
  · rw [if_pos (decide_eq_true (by omega))]
    have e1 : ((k : Int) - 1) = ((k - 1 : Nat) : Int) := by omega
    rw [e1]
    refine sift_ok dy (py.nd nd) (by omega) hn (by omega) (by rw [show k - 1 + 1 = k by omega]; exact Hy) fun g2 zs d2 p2 H2 => ⟨rfl, ?_⟩
    rw [eb] at p2
    have e2 : IntKind.wrap .i64 (((k - 1 : Nat) : Int) - 1) = ((k - 1 : Nat) : Int) - 1 := wrap_id (by omega) (by omega)
    rw [e2]
    exact ⟨⟨k - 1, zs, rfl, by omega, d2, p2.trans py, H2⟩, by show Int.toNat (((k - 1 : Nat) : Int) - 1 + 1) < Int.toNat (((k - 1 : Nat) : Int) + 1); omega⟩
  · obtain rfl : k = 0 := by omega
    rw [if_neg (by simp)]
    refine ⟨fun t g => ∃ (k : Nat) (ys : List Int), t = (k : Int) - 1 ∧ k ≤ b - a ∧ D h0 g p n c ys ∧ PermOn a b ys xs ∧ HeapOn ys a 0 k ∧ But ys a b a (a + k), fun t _ => (t + 1).toNat, ⟨b - a, ys, by omega, Nat.le_refl _, dy, py, Hy, by rw [eb]; exact But.all⟩, ?_⟩
    rintro _ g2 ⟨k, zs, rfl, hk2, dz, pz, Hz, Bz⟩
    have lz := dz.len
    by_cases hk0 : 0 < k
    · rw [if_pos (decide_eq_true (by omega))]
      have e1 : ((k : Int) - 1) = ((k - 1 : Nat) : Int) := by omega
      rw [e1]
      have w3 : IntKind.wrap .i64 ((a : Int) + ((k - 1 : Nat) : Int)) = ((a + (k - 1) : Nat) : Int) := wS (by omega) (by omega)
      refine dz.swap (i := a) (j := a + (k - 1)) rfl (by omega) w3 (by omega) fun g3 d3 _ _ => ?_
      have at_ : ∀ x : Nat, V (swp zs a (a + (k - 1))) x = if x = a + (k - 1) then V zs a else if x = a then V zs (a + (k - 1)) else V zs x := V_swp (by omega) (by omega)
      have p3 : PermOn a (a + k) (swp zs a (a + (k - 1))) zs := PermOn.swp (by omega) (by omega) (by omega) (by omega) (by omega)
      have H3 : HeapOn (swp zs a (a + (k - 1))) a (0 + 1) (k - 1) := fun i hi => by
        have := Hz i (by omega)
        rw [at_, at_, at_, if_neg (by omega : ¬ a + (2 * i + 1) = a), if_neg (by omega : ¬ a + (2 * i + 2) = a), if_neg (by omega : ¬ a + i = a)]
        refine ⟨fun g => ?_, fun g => ?_⟩
        · rw [if_neg (by omega), if_neg (by omega)]; exact this.1 (by omega)
        · rw [if_neg (by omega), if_neg (by omega)]; exact this.2 (by omega)
      have B3 : But (swp zs a (a + (k - 1))) a b a (a + k) := Bz.perm (Nat.le_refl _) (by omega) p3 (by omega)
      have l3 : (swp zs a (a + (k - 1))).length = zs.length := swp_len _ _ _
      have mx : ∀ x, a ≤ x → x < a + (k - 1) → V (swp zs a (a + (k - 1))) x < V (swp zs a (a + (k - 1))) (a + (k - 1)) := by
        intro x x1 x2
        rw [at_, at_, if_pos rfl, if_neg (by omega)]
        by_cases e : x = a
        · rw [if_pos e]; exact Hz.root (k - 1) (by omega) (by omega)
        · rw [if_neg e]
          have := Hz.root (x - a) (by omega) (by omega)
          rwa [show a + (x - a) = x by omega] at this
      have B4 : But (swp zs a (a + (k - 1))) a b a (a + (k - 1)) := fun p q p1 pq q1 hno => by
        by_cases hin : a ≤ p ∧ q < a + k
        · have : q = a + (k - 1) := by omega
          rw [this]; exact mx p hin.1 (by omega)
        · exact B3 p q p1 pq q1 hin
      have pall : PermOn a b (swp zs a (a + (k - 1))) xs := (p3.mono (Nat.le_refl _) (by omega)).trans pz
      refine sift_ok (lo := 0) d3 (pall.nd nd) (by omega) hn (by omega) H3 fun g4 ws d4 p4 H4 => ⟨rfl, ?_⟩
      have e2 : IntKind.wrap .i64 (((k - 1 : Nat) : Int) - 1) = ((k - 1 : Nat) : Int) - 1 := wrap_id (by omega) (by omega)
      rw [e2]
      exact ⟨⟨k - 1, ws, rfl, by omega, d4, (p4.mono (Nat.le_refl _) (by omega)).trans pall, H4, B4.perm (Nat.le_refl _) (by omega) p4 (by omega)⟩, by show Int.toNat (((k - 1 : Nat) : Int) - 1 + 1) < Int.toNat (((k - 1 : Nat) : Int) + 1); omega⟩
    · obtain rfl : k = 0 := by omega
      rw [if_neg (by simp)]
      exact hk g2 zs dz pz (Bz.done (fun p q _ _ _ => by omega))
/-! ### the other way round -/
theorem rev_ok (d : D h0 h p n c xs) (hab : a < b) (hb : b ≤ n) (hn : n ≤ 100000) (hk : ∀ h' ys, D h0 h' p n c ys → PermOn a b ys xs → R (.tuple #[]) h') :
    CallsH Try.prog F.slices_reverseRangeOrdered_int #[.slice p n c, .int .i64 (a : Int), .int .i64 (b : Int)] h R := by
  refine slices_reverseRangeOrdered_int.walk ?_
  refine ⟨fun t u g => ∃ (i j : Nat) (ys : List Int), t = (i : Int) ∧ u = (j : Int) - 1 ∧ a ≤ i ∧ j ≤ b ∧ i ≤ j + 1 ∧ D h0 g p n c ys ∧ PermOn a b ys xs, fun t u _ => (u - t).toNat, ⟨a, b, xs, rfl, by rw [wrap_id (by omega) (by omega)], Nat.le_refl _, Nat.le_refl _, by omega, d, .refl⟩, ?_⟩
  rintro _ _ g ⟨i, j, ys, rfl, rfl, h1, h2, h3, dy, py⟩
  have ly := dy.len
  by_cases hij : i + 1 < j
  · rw [if_pos (decide_eq_true (by omega))]
    refine dy.swap (i := i) (j := j - 1) rfl (by omega) (by omega) (by omega) fun g2 d2 _ _ => ?_
    rw [wS (k := i + 1) (by omega) (by omega), wrap_id (n := (j : Int) - 1 - 1) (by omega) (by omega)]
    exact ⟨⟨i + 1, j - 1, _, rfl, by omega, by omega, by omega, by omega, d2, (PermOn.swp (by omega) (by omega) (by omega) (by omega) (by omega)).trans py⟩, by show Int.toNat ((j : Int) - 1 - 1 - ((i + 1 : Nat) : Int)) < Int.toNat ((j : Int) - 1 - (i : Int)); omega⟩
  · rw [if_neg (by simp; omega)]
    exact hk g ys dy py
end Srt
end Go.Proofs.Ytgccegnmggjkjaa
