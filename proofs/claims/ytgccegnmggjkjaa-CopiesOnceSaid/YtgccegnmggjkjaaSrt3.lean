/-
  What is proved here: 'slices.Sort' of numbers that are apart sorts them. No condition.
-/
import Derived.Test.YtgccegnmggjkjaaSrt2
set_option maxRecDepth 100000
namespace Go.Proofs.Ytgccegnmggjkjaa
open Go.Den Go.Srt
namespace Srt
variable {h h0 g : Heap} {R : Value → Heap → Prop} {p : Option Addr} {n c a b i j s : Nat} {xs ys ws : List Int} {I J : Int}
theorem scan_up {CONT : Int → Heap → Prop} {A JJ i0 : Int} (d : D h0 h p n c ws) (hn : n ≤ 100000) (hA : A = (a : Int)) (hJJ : JJ = (j : Int)) (hI : i0 = (i : Int)) (h1 : a < i) (h2 : i ≤ j + 1) (h3 : j < n) (lo : ∀ k, a < k → k < i → V ws k < V ws a)
    (hk : ∀ i', i ≤ i' → i' ≤ j + 1 → (∀ k, a < k → k < i' → V ws k < V ws a) → (i' ≤ j → ¬ V ws i' < V ws a) → CONT (i' : Int) h) :
    ∃ (I : Int → Heap → Prop) (mu : Int → Heap → Nat), I i0 h ∧ ∀ (ii : Int) (g : Heap), I ii g →
      JoinP (fun (t : Bool) (g4 : Heap) => if t = true then (I (IntKind.wrap .i64 (ii + 1)) g4 ∧ mu (IntKind.wrap .i64 (ii + 1)) g4 < mu ii g) else CONT ii g4)
      (fun J => if (decide (ii ≤ JJ)) = true then
          ((0 : Int) ≤ ii ∧ ii < ((n : Nat) : Int)) ∧ onSome p fun x => ∃ (t : Int), hcell g (x.add (Int.toNat ii * 1)) = some (.int .i64 t) ∧
          ((0 : Int) ≤ A ∧ A < ((n : Nat) : Int)) ∧ onSome p fun y => ∃ (u : Int), hcell g (y.add (Int.toNat A * 1)) = some (.int .i64 u) ∧
          CallsH Try.prog F.cmp_Less_int #[.int .i64 t, .int .i64 u] g fun v g2 => ∃ (q : Bool), v = .bool q ∧ J q g2
        else J false g) := by
  refine ⟨fun t g => g = h ∧ ∃ k : Nat, t = (k : Int) ∧ i ≤ k ∧ k ≤ j + 1 ∧ ∀ x, a < x → x < k → V ws x < V ws a, fun t _ => j + 1 - t.toNat, ⟨rfl, i, hI, Nat.le_refl _, h2, lo⟩, ?_⟩
  rintro _ g ⟨rfl, k, rfl, k1, k2, lok⟩
  refine JoinP.of fun J hJ => ?_
  by_cases hkj : k ≤ j
  · rw [if_pos (decide_eq_true (by omega))]
    refine d.cmp rfl (by omega) hA (by omega) ?_
    by_cases hl : V ws k < V ws a
    · rw [decide_eq_true hl]
      subst hJ
      simp only [if_true]
      rw [wS (k := k + 1) (by omega) (by omega)]
      refine ⟨⟨by first | trivial | rfl, k + 1, rfl, by omega, by omega, fun x x1 x2 => ?_⟩, by show j + 1 - Int.toNat ((k + 1 : Nat) : Int) < j + 1 - k; omega⟩
      by_cases e : x = k
      · rw [e]; exact hl
      · exact lok x x1 (by omega)
    · rw [decide_eq_false hl]
      subst hJ
      simp only [Bool.false_eq_true, if_false]
      exact hk k k1 k2 lok (fun _ => hl)
  · rw [if_neg (by simp; omega)]
    subst hJ
    simp only [Bool.false_eq_true, if_false]
    exact hk k k1 k2 lok (fun e => by omega)
theorem scan_down {CONT : Int → Heap → Prop} {A II j0 : Int} (d : D h0 h p n c ws) (hn : n ≤ 100000) (hA : A = (a : Int)) (hII : II = (i : Int)) (hj0 : j0 = (j : Int)) (h1 : a < i) (h2 : i ≤ j + 1) (h3 : j < b) (hb : b ≤ n) (hi : ∀ k, j < k → k < b → V ws a < V ws k) (nd : ws.Nodup)
    (hk : ∀ j', j' ≤ j → i ≤ j' + 1 → (∀ k, j' < k → k < b → V ws a < V ws k) → (i ≤ j' → V ws j' < V ws a) → CONT (j' : Int) h) :
    ∃ (I : Int → Heap → Prop) (mu : Int → Heap → Nat), I j0 h ∧ ∀ (jj : Int) (g : Heap), I jj g →
      JoinP (fun (t : Bool) (g4 : Heap) => if t = true then (I (IntKind.wrap .i64 (jj - 1)) g4 ∧ mu (IntKind.wrap .i64 (jj - 1)) g4 < mu jj g) else CONT jj g4)
      (fun J => if (decide (II ≤ jj)) = true then
          ((0 : Int) ≤ jj ∧ jj < ((n : Nat) : Int)) ∧ onSome p fun x => ∃ (t : Int), hcell g (x.add (Int.toNat jj * 1)) = some (.int .i64 t) ∧
          ((0 : Int) ≤ A ∧ A < ((n : Nat) : Int)) ∧ onSome p fun y => ∃ (u : Int), hcell g (y.add (Int.toNat A * 1)) = some (.int .i64 u) ∧
          CallsH Try.prog F.cmp_Less_int #[.int .i64 t, .int .i64 u] g fun v g2 => ∃ (q : Bool), v = .bool q ∧ J (!q) g2
        else J false g) := by
  have ln := d.len
  refine ⟨fun t g => g = h ∧ ∃ k : Nat, t = (k : Int) ∧ k ≤ j ∧ i ≤ k + 1 ∧ ∀ x, k < x → x < b → V ws a < V ws x, fun t _ => t.toNat, ⟨rfl, j, hj0, Nat.le_refl _, h2, hi⟩, ?_⟩
  rintro _ g ⟨rfl, k, rfl, k1, k2, hik⟩
  refine JoinP.of fun J hJ => ?_
  by_cases hkj : i ≤ k
  · rw [if_pos (decide_eq_true (by omega))]
    refine d.cmp (K := fun q g2 => J (!q) g2) rfl (by omega) hA (by omega) ?_
    by_cases hl : V ws k < V ws a
    · rw [decide_eq_true hl]
      subst hJ
      simp only [Bool.not_true, Bool.false_eq_true, if_false]
      exact hk k k1 k2 hik (fun _ => hl)
    · rw [decide_eq_false hl]
      subst hJ
      simp only [Bool.not_false, if_true]
      rw [wS (k := k - 1) (by omega) (by omega)]
      refine ⟨⟨by first | trivial | rfl, k - 1, rfl, by omega, by omega, fun x x1 x2 => ?_⟩, by show Int.toNat ((k - 1 : Nat) : Int) < k; omega⟩
      by_cases e : x = k
      · rw [e]
        have := nd_ne nd (i := a) (j := k) (by omega) (by omega) (by omega)
        omega
      · exact hik x (by omega) x2
  · rw [if_neg (by simp; omega)]
    subst hJ
    simp only [Bool.false_eq_true, if_false]
    exact hk k k1 k2 hik (fun e => by omega)
theorem part_ok {piv : Nat} (d : D h0 h p n c xs) (nd : xs.Nodup) (h1 : a ≤ piv) (h2 : piv < b) (hb : b ≤ n) (hn : n ≤ 60000)
    (hk : ∀ h' zs (m : Nat) (q : Bool), a ≤ m → m < b → D h0 h' p n c zs → PermOn a b zs xs → Part zs a b m → R (.tuple #[.int .i64 (m : Int), .bool q]) h') :
    CallsH Try.prog F.slices_partitionOrdered_int #[.slice p n c, .int .i64 (a : Int), .int .i64 (b : Int), .int .i64 (piv : Int)] h R := by
  have ln := d.len
  refine slices_partitionOrdered_int.walk (d.swap (i := a) (j := piv) rfl (by omega) rfl (by omega) fun g1 d1 _ _ => ?_)
  have P0 : PI xs (swp xs a piv) a b (a + 1) (b - 1) := ⟨PermOn.swp (by omega) (by omega) (by omega) (by omega) (by omega), fun k _ _ => by omega, fun k _ _ => by omega⟩
  generalize swp xs a piv = ws at d1 P0
  have lw := d1.len
  have ndw := P0.perm.nd nd
  have wb : IntKind.wrap .i64 ((b : Int) - 1) = ((b - 1 : Nat) : Int) := wS (by omega) (by omega)
  rw [wb]
  refine scan_up d1 (by omega) rfl rfl (i := a + 1) (wS (by omega) (by omega)) (by omega) (by omega) (by omega) P0.lo fun i i1 i2 lo1 hi1 => ?_
  refine scan_down d1 (b := b) (by omega) rfl rfl rfl (by omega) (by omega) (by omega) (by omega) P0.hi ndw fun j j1 j2 hi2 lo2 => ?_
  have PIj : PI xs ws a b i j := ⟨P0.perm, lo1, hi2⟩
  by_cases hij : j < i
  · rw [if_pos (decide_eq_true (by omega))]
    refine d1.swap (i := j) (j := a) rfl (by omega) rfl (by omega) fun g2 d2 _ _ => ?_
    obtain ⟨q1, q2⟩ := PIj.stop (by omega) (by omega) (by omega) (by omega)
    exact hk g2 _ j true (by omega) (by omega) d2 q2 q1
  · rw [if_neg (by simp; omega)]
    have l2 := lo2 (by omega)
    have l1 := hi1 (by omega)
    have hne := nd_ne ndw (i := a) (j := i) (by omega) (by omega) (by omega)
    have hij2 : i ≠ j := fun e => by rw [e] at l1; exact l1 l2
    refine d1.swap (i := i) (j := j) rfl (by omega) rfl (by omega) fun g2 d2 _ _ => ?_
    have P2 := PIj.swap (by omega) (by omega) (by omega) (by omega) (by omega) l2
    refine ⟨fun t u g => ∃ (i j : Nat) (ws : List Int), t = (i : Int) ∧ u = (j : Int) ∧ a < i ∧ i ≤ j + 1 ∧ j < b ∧ D h0 g p n c ws ∧ PI xs ws a b i j, fun t u _ => (u + 1 - t).toNat, ⟨i + 1, j - 1, _, wS (by omega) (by omega), wS (by omega) (by omega), by omega, by omega, by omega, d2, P2⟩, ?_⟩
    clear P2 d2 PIj l1 l2 hne lo2 hi2 lo1 hi1 P0 d1 ndw lw
    rintro _ _ g3 ⟨i, j, ws, rfl, rfl, h4, h5, h6, d3, P3⟩
    have lw := d3.len
    have ndw := P3.perm.nd nd
    refine scan_up d3 (by omega) rfl rfl rfl (by omega) (by omega) (by omega) P3.lo fun i' i1 i2 lo1 hi1 => ?_
    refine scan_down d3 (b := b) (by omega) rfl rfl rfl (by omega) (by omega) (by omega) (by omega) P3.hi ndw fun j' j1 j2 hi2 lo2 => ?_
    have PIj : PI xs ws a b i' j' := ⟨P3.perm, lo1, hi2⟩
    by_cases hij : j' < i'
    · rw [if_pos (decide_eq_true (by omega))]
      refine d3.swap (i := j') (j := a) rfl (by omega) rfl (by omega) fun g4 d4 _ _ => ?_
      obtain ⟨q1, q2⟩ := PIj.stop (by omega) (by omega) (by omega) (by omega)
      exact hk g4 _ j' false (by omega) (by omega) d4 q2 q1
    · rw [if_neg (by simp; omega)]
      have l2 := lo2 (by omega)
      have l1 := hi1 (by omega)
      have hne := nd_ne ndw (i := a) (j := i') (by omega) (by omega) (by omega)
      have hij2 : i' ≠ j' := fun e => by rw [e] at l1; exact l1 l2
      refine d3.swap (i := i') (j := j') rfl (by omega) rfl (by omega) fun g4 d4 _ _ => ?_
      have P4 := PIj.swap (by omega) (by omega) (by omega) (by omega) (by omega) l2
      rw [wS (k := i' + 1) (by omega) (by omega), wS (k := j' - 1) (by omega) (by omega)]
      exact ⟨⟨i' + 1, j' - 1, _, rfl, rfl, by omega, by omega, by omega, d4, P4⟩, by show Int.toNat (((j' - 1 : Nat) : Int) + 1 - ((i' + 1 : Nat) : Int)) < Int.toNat ((j : Int) + 1 - (i : Int)); omega⟩

/-! ### a few steps of insertion -/
theorem partial_ok (d : D h0 h p n c xs) (nd : xs.Nodup) (lb : LB xs a b) (hab : a < b) (hb : b ≤ n) (hn : n ≤ 60000)
    (hk : ∀ h' zs (q : Bool), D h0 h' p n c zs → PermOn a b zs xs → (q = true → SO zs a b) → R (.bool q) h') :
    CallsH Try.prog F.slices_partialInsertionSortOrdered_int #[.slice p n c, .int .i64 (a : Int), .int .i64 (b : Int)] h R := by
  have ln := d.len
  refine slices_partialInsertionSortOrdered_int.walk ?_
  refine ⟨fun t u g => ∃ (i k : Nat) (ys : List Int), t = (i : Int) ∧ u = (k : Int) ∧ a + 1 ≤ i ∧ i ≤ b ∧ k ≤ 5 ∧ D h0 g p n c ys ∧ PermOn a b ys xs ∧ SO ys a i, fun _ u _ => 5 - u.toNat, ⟨a + 1, 0, xs, wS (by omega) (by omega), rfl, by omega, by omega, by omega, d, .refl, fun p q _ _ _ => by omega⟩, ?_⟩
  rintro _ _ g ⟨i, k, ys, rfl, rfl, h1, h2, h3, dy, py, sy⟩
  have ly := dy.len
  by_cases hk5 : k < 5
  · rw [if_pos (decide_eq_true (by omega))]
    refine JoinP.of fun J hJ => ?_
    have goJ : ∀ g (i : Nat) zs, a + 1 ≤ i → i ≤ b → D h0 g p n c zs → PermOn a b zs xs → SO zs a i → J (i : Int) g := by
      intro g i zs i1 i2 dz pz sz
      subst hJ
      dsimp only
      rw [wS (k := k + 1) (by omega) (by omega)]
      exact ⟨⟨i, k + 1, zs, rfl, rfl, i1, i2, by omega, dz, pz, sz⟩, by show 5 - Int.toNat ((k + 1 : Nat) : Int) < 5 - k; omega⟩
    clear hJ
    refine ⟨fun t g' => g' = g ∧ ∃ i : Nat, t = (i : Int) ∧ a + 1 ≤ i ∧ i ≤ b ∧ SO ys a i, fun t _ => b - t.toNat, ⟨rfl, i, rfl, h1, h2, sy⟩, ?_⟩
    clear h1 h2 sy
    rintro _ g ⟨rfl, i, rfl, h1, h2, sy⟩
    have ndy := py.nd nd
    have w1 : IntKind.wrap .i64 ((i : Int) - 1) = ((i - 1 : Nat) : Int) := wS (by omega) (by omega)
    refine JoinP.of fun J1 hJ1 => ?_
    have stop : (i = b ∨ V ys i < V ys (i - 1)) → J1 false g := by
      intro he
      subst hJ1
      simp only [Bool.false_eq_true, if_false]
      by_cases hib : i = b
      · rw [if_pos (by simp [hib])]
        exact hk g ys true dy py (fun _ => by rw [← hib]; exact sy)
      · rw [if_neg (by simp; omega)]
        by_cases h50 : b - a < 50
        · rw [if_pos (decide_eq_true (by rw [wS (k := b - a) (by omega) (by omega)]; omega))]
          exact hk g ys false dy py (fun e => by cases e)
        · rw [if_neg (by rw [wS (k := b - a) (by omega) (by omega)]; simp; omega), w1]
          refine dy.swap (i := i) (j := i - 1) rfl (by omega) rfl (by omega) fun g2 d2 _ _ => ?_
          have at_ : ∀ x : Nat, V (swp ys i (i - 1)) x = if x = i - 1 then V ys i else if x = i then V ys (i - 1) else V ys x := V_swp (by omega) (by omega)
          have p2 : PermOn a b (swp ys i (i - 1)) xs := (PermOn.swp (by omega) (by omega) (by omega) (by omega) (by omega)).trans py
          have s2 : SO (swp ys i (i - 1)) a (i - 1) := fun p q a1 a2 a3 => by
            rw [at_, at_, if_neg (by omega), if_neg (by omega), if_neg (by omega), if_neg (by omega)]
            exact sy p q a1 a2 (by omega)
          generalize swp ys i (i - 1) = zs at d2 p2 s2
          have lz := d2.len
          refine JoinP.of fun J2 hJ2 => ?_
          have go2 : ∀ g ws, D h0 g p n c ws → PermOn a b ws xs → SO ws a i → J2 g := by
            intro g ws dw pw sw
            have lw := dw.len
            subst hJ2
            refine JoinP.of fun J3 hJ3 => ?_
            have go3 : ∀ g ws, D h0 g p n c ws → PermOn a b ws xs → SO ws a i → J3 g := by
              intro g ws dw pw sw
              subst hJ3
              exact goJ g i ws h1 h2 dw pw sw
            clear hJ3
            by_cases hbi : 2 ≤ b - i
            · rw [if_pos (decide_eq_true (by rw [wS (k := b - i) (by omega) (by omega)]; omega))]
              refine JoinP.of fun J4 hJ4 => ?_
              have go4 : ∀ g ws, D h0 g p n c ws → PermOn a b ws xs → SO ws a i → J4 g := by
                intro g ws dw pw sw
                subst hJ4
                exact go3 g ws dw pw sw
              clear hJ4
              refine ⟨fun t g => ∃ (j : Nat) (vs : List Int), t = (j : Int) ∧ i + 1 ≤ j ∧ j ≤ b ∧ D h0 g p n c vs ∧ PermOn a b vs xs ∧ SO vs a i, fun t _ => b - t.toNat, ⟨i + 1, ws, wS (by omega) (by omega), by omega, by omega, dw, pw, sw⟩, ?_⟩
              rintro _ g5 ⟨j, vs, rfl, j1, j2, dv, pv, sv⟩
              have lv := dv.len
              by_cases hjb : j < b
              · rw [if_pos (decide_eq_true (by omega)), wS (x := (j : Int) - 1) (k := j - 1) (by omega) (by omega)]
                refine dv.cmp rfl (by omega) rfl (by omega) ?_
                by_cases hl : V vs j < V vs (j - 1)
                · rw [decide_eq_true hl, if_neg (by decide)]
                  refine dv.swap (i := j) (j := j - 1) rfl (by omega) rfl (by omega) fun g6 d6 _ _ => ?_
                  rw [wS (k := j + 1) (by omega) (by omega)]
                  have at6 : ∀ x : Nat, V (swp vs j (j - 1)) x = if x = j - 1 then V vs j else if x = j then V vs (j - 1) else V vs x := V_swp (by omega) (by omega)
                  exact ⟨⟨j + 1, _, rfl, by omega, by omega, d6, (PermOn.swp (by omega) (by omega) (by omega) (by omega) (by omega)).trans pv, fun p q a1 a2 a3 => by
                    rw [at6, at6, if_neg (by omega), if_neg (by omega), if_neg (by omega), if_neg (by omega)]
                    exact sv p q a1 a2 a3⟩, by show b - Int.toNat ((j + 1 : Nat) : Int) < b - j; omega⟩
                · rw [decide_eq_false hl, if_pos (by decide)]
                  exact go4 g5 vs dv pv sv
              · rw [if_neg (by simp; omega)]
                exact go4 g5 vs dv pv sv
            · rw [if_neg (by rw [wS (k := b - i) (by omega) (by omega)]; simp; omega)]
              exact go3 g ws dw pw sw
          clear hJ2
          by_cases hia : 2 ≤ i - a
          · rw [if_pos (decide_eq_true (by rw [wS (k := i - a) (by omega) (by omega)]; omega))]
            refine JoinP.of fun J5 hJ5 => ?_
            have go5 : ∀ g ws, D h0 g p n c ws → PermOn a b ws xs → SO ws a i → J5 g := by
              intro g ws dw pw sw
              subst hJ5
              exact go2 g ws dw pw sw
            clear hJ5
            refine ⟨fun t g => ∃ (j : Nat) (vs : List Int), t = (j : Int) ∧ a ≤ j ∧ j ≤ i - 1 ∧ D h0 g p n c vs ∧ InsI zs vs a (i - 1) j, fun t _ => t.toNat, ⟨i - 1, zs, rfl, by omega, by omega, d2, InsI.start s2⟩, ?_⟩
            rintro _ g5 ⟨j, vs, rfl, j1, j2, dv, Iv⟩
            have lv := dv.len
            have pv : PermOn a b vs xs := (Iv.perm.mono (Nat.le_refl _) (by omega)).trans p2
            have ndv := pv.nd nd
            have ei : i - 1 + 1 = i := by omega
            by_cases hj1 : 1 ≤ j
            · rw [if_pos (decide_eq_true (by omega)), wS (x := (j : Int) - 1) (k := j - 1) (by omega) (by omega)]
              refine dv.cmp rfl (by omega) rfl (by omega) ?_
              by_cases hl : V vs j < V vs (j - 1)
              · rw [decide_eq_true hl, if_neg (by decide)]
                have haj : a < j := by
                  by_cases e : a < j
                  · exact e
                  · have e : j = a := by omega
                    subst e
                    have := lb.perm pv (by omega)
                    rcases this with e | e
                    · omega
                    · have := e j (Nat.le_refl _) (by omega); omega
                refine dv.swap (i := j) (j := j - 1) rfl (by omega) rfl (by omega) fun g6 d6 _ _ => ?_
                exact ⟨⟨j - 1, _, rfl, by omega, by omega, d6, Iv.swap haj (by omega) (by omega) hl⟩, by show Int.toNat ((j - 1 : Nat) : Int) < j; omega⟩
              · rw [decide_eq_false hl, if_pos (by decide)]
                have hne := nd_ne ndv (i := j - 1) (j := j) (by omega) (by omega) (by omega)
                have := Iv.stop j1 j2 (.inr (by omega))
                rw [ei] at this
                exact go5 g5 vs dv pv this
            · rw [if_neg (by simp; omega)]
              have := Iv.stop j1 j2 (.inl (by omega))
              rw [ei] at this
              exact go5 g5 vs dv pv this
          · rw [if_neg (by rw [wS (k := i - a) (by omega) (by omega)]; simp; omega)]
            exact go2 g2 zs d2 p2 (fun p q _ _ _ => by omega)
    by_cases hib : i < b
    · rw [if_pos (decide_eq_true (by omega)), w1]
      refine dy.cmp (K := fun q g2 => J1 (!q) g2) rfl (by omega) rfl (by omega) ?_
      by_cases hl : V ys i < V ys (i - 1)
      · rw [decide_eq_true hl]
        exact stop (.inr hl)
      · rw [decide_eq_false hl]
        subst hJ1
        simp only [Bool.not_false, if_true]
        rw [wS (k := i + 1) (by omega) (by omega)]
        have hne := nd_ne ndy (i := i - 1) (j := i) (by omega) (by omega) (by omega)
        refine ⟨⟨by first | trivial | rfl, i + 1, rfl, by omega, by omega, fun p q a1 a2 a3 => ?_⟩, by show b - Int.toNat ((i + 1 : Nat) : Int) < b - i; omega⟩
        by_cases hq : q < i
        · exact sy p q a1 a2 hq
        · have eq : q = i := by omega
          subst eq
          by_cases hp : p = q - 1
          · rw [hp]; omega
          · have := sy p (q - 1) a1 (by omega) (by omega); omega
    · rw [if_neg (by simp; omega)]
      exact stop (.inl (by omega))
  · rw [if_neg (by simp; omega)]
    exact hk g ys false dy py (fun e => by cases e)

/-! ### all of it -/
theorem pdq_ok : ∀ (m : Nat) {a b : Nat} {limit : Int} {h : Heap} {xs : List Int} {R : Value → Heap → Prop}, b - a ≤ m → D h0 h p n c xs → xs.Nodup → a ≤ b → b ≤ n → n ≤ 60000 → LB xs a b →
    (∀ h' zs, D h0 h' p n c zs → PermOn a b zs xs → SO zs a b → R (.tuple #[]) h') →
    CallsH Try.prog F.slices_pdqsortOrdered_int #[.slice p n c, .int .i64 (a : Int), .int .i64 (b : Int), .int .i64 limit] h R := by
  intro m
  induction m using Nat.strongRecOn with
  | _ m ih =>
  intro a b limit h xs R hm d nd hab hb hn lb hk
  have ln := d.len
  refine slices_pdqsortOrdered_int.walk ?_
  refine ⟨fun t u _ _ _ g => ∃ (a' b' : Nat) (ys : List Int), t = (a' : Int) ∧ u = (b' : Int) ∧ a ≤ a' ∧ a' ≤ b' ∧ b' ≤ b ∧ D h0 g p n c ys ∧ PermOn a b ys xs ∧ But ys a b a' b' ∧ LB ys a' b', fun t u _ _ _ _ => (u - t).toNat, ⟨a, b, xs, rfl, rfl, Nat.le_refl _, hab, Nat.le_refl _, d, .refl, But.all, lb⟩, ?_⟩
  rintro _ _ lim wb wp g ⟨a', b', ys, rfl, rfl, h1, h2, h3, dy, py, By, Ly⟩
  have ly := dy.len
  have ndy := py.nd nd
  have wl : IntKind.wrap .i64 ((b' : Int) - (a' : Int)) = ((b' - a' : Nat) : Int) := wS (by omega) (by omega)
  refine JoinP.of fun J hJ => ?_
  have fin : ∀ g zs, D h0 g p n c zs → PermOn a' b' zs ys → SO zs a' b' → R (.tuple #[]) g := fun g zs dz pz sz =>
    hk g zs dz ((pz.mono h1 h3).trans py) ((By.perm h1 h3 pz (by omega)).done sz)
  rw [wl]
  by_cases h12 : b' - a' ≤ 12
  · rw [if_pos (decide_eq_true (by omega))]
    exact ins_ok dy ndy (by omega) (by omega) (by omega) fun g2 zs d2 p2 s2 => ⟨rfl, fin g2 zs d2 p2 s2⟩
  · rw [if_neg (by simp; omega)]
    by_cases hl0 : lim = 0
    · rw [if_pos (by simpa using hl0)]
      exact heap_ok dy ndy (by omega) (by omega) (by omega) fun g2 zs d2 p2 s2 => ⟨rfl, fin g2 zs d2 p2 s2⟩
    · rw [if_neg (by simpa using hl0)]
      refine JoinP.of fun J1 hJ1 => ?_
      have go1 : ∀ l g zs, D h0 g p n c zs → PermOn a' b' zs ys → J1 l g := by
        intro l g zs dz pz
        subst hJ1
        refine pivot_ok dz (by omega) (by omega) (by omega) fun g2 x hint x1 x2 d2 => ⟨_, _, rfl, JoinP.of fun J2 hJ2 => ?_⟩
        have go2 : ∀ (x : Nat) hint g zs, a' ≤ x → x < b' → D h0 g p n c zs → PermOn a' b' zs ys → J2 (x : Int) hint g := by
          intro x hint g zs x1 x2 dz pz
          subst hJ2
          refine JoinP.of fun J3 hJ3 => ?_
          have go3 : ∀ q, J3 q g := by
            intro q
            subst hJ3
            refine JoinP.of fun J4 hJ4 => ?_
            have go4 : ∀ g zs, D h0 g p n c zs → PermOn a' b' zs ys → J4 g := by
              intro g zs dz pz
              have lz := dz.len
              have Lz := Ly.perm pz (by omega)
              have Bz := By.perm h1 h3 pz (by omega)
              have pzx := (pz.mono h1 h3).trans py
              subst hJ4
              refine JoinP.of fun J5 hJ5 => ?_
              have go5 : J5 false g := by
                subst hJ5
                simp only [Bool.false_eq_true, if_false]
                refine part_ok dz (pz.nd ndy) x1 x2 (by omega) hn fun g3 ws mid q m1 m2 d3 p3 P3 => ⟨_, _, rfl, JoinP.of fun J6 hJ6 => ?_⟩
                have lw := d3.len
                have B3 := Bz.perm h1 h3 p3 (by omega)
                have L3 := Lz.perm p3 (by omega)
                have p3x := (p3.mono h1 h3).trans pzx
                have go6 : ∀ g (a2 b2 : Nat) q2 vs, a' ≤ a2 → a2 ≤ b2 → b2 ≤ b' → b2 - a2 < b' - a' → D h0 g p n c vs → PermOn a b vs xs → But vs a b a2 b2 → LB vs a2 b2 → J6 (a2 : Int) (b2 : Int) q2 g := by
                  intro g a2 b2 q2 vs e1 e2 e3 e4 dv pv Bv Lv
                  subst hJ6
                  subst hJ
                  exact ⟨⟨a2, b2, vs, rfl, rfl, by omega, e2, by omega, dv, pv, Bv, Lv⟩, by show Int.toNat ((b2 : Int) - (a2 : Int)) < Int.toNat ((b' : Int) - (a' : Int)); omega⟩
                have w1 : IntKind.wrap .i64 ((mid : Int) + 1) = ((mid + 1 : Nat) : Int) := wS (by omega) (by omega)
                split
                · refine ih (mid - a') (by omega) (Nat.le_refl _) d3 (p3x.nd nd) m1 (by omega) hn ?_ fun g4 vs d4 p4 s4 => ⟨rfl, ?_⟩
                  · rcases L3 with e | e
                    · exact .inl e
                    · exact .inr fun k k1 k2 => e k k1 (by omega)
                  · obtain ⟨B4, P4⟩ := B3.left h1 h3 P3 m1 m2 (by omega) p4 s4
                    rw [w1]
                    exact go6 g4 _ _ _ vs (by omega) (by omega) (by omega) (by omega) d4 ((p4.mono h1 (by omega)).trans p3x) B4 (.inr fun k k1 k2 => by rw [Nat.add_sub_cancel]; exact P4.hi k (by omega) k2)
                · rw [w1]
                  refine ih (b' - (mid + 1)) (by omega) (Nat.le_refl _) d3 (p3x.nd nd) (by omega) (by omega) hn (.inr fun k k1 k2 => by rw [Nat.add_sub_cancel]; exact P3.hi k (by omega) k2) fun g4 vs d4 p4 s4 => ⟨rfl, ?_⟩
                  obtain ⟨B4, P4⟩ := B3.right h1 h3 P3 m1 m2 (by omega) p4 s4
                  refine go6 g4 _ _ _ vs (by omega) m1 (by omega) (by omega) d4 ((p4.mono (by omega) h3).trans p3x) B4 ?_
                  have L4 := L3.perm (p4.mono (by omega) (Nat.le_refl _)) (by omega)
                  rcases L4 with e | e
                  · exact .inl e
                  · exact .inr fun k k1 k2 => e k k1 (by omega)
              by_cases ha0 : 0 < a'
              · rw [if_pos (decide_eq_true (by omega)), wS (x := (a' : Int) - 1) (k := a' - 1) (by omega) (by omega)]
                refine dz.cmp (K := fun q g2 => J5 (!q) g2) rfl (by omega) rfl (by omega) ?_
                have : V zs (a' - 1) < V zs x := by
                  rcases Lz with e | e
                  · omega
                  · exact e x x1 x2
                rw [decide_eq_true this]
                exact go5
              · rw [if_neg (by simp; omega)]
                exact go5
            split
            · refine partial_ok dz (pz.nd ndy) (Ly.perm pz (by omega)) (by omega) (by omega) hn fun g3 ws q d3 p3 s3 => ⟨_, rfl, ?_⟩
              cases q with
              | true => rw [if_pos rfl]; exact fin g3 ws d3 (p3.trans pz) (s3 rfl)
              | false => rw [if_neg (by simp)]; exact go4 g3 ws d3 (p3.trans pz)
            · exact go4 g zs dz pz
          split
          · split
            · exact go3 _
            · exact go3 _
          · exact go3 _
        clear hJ2
        split
        · refine rev_ok d2 (by omega) (by omega) (by omega) fun g3 ws d3 p3 => ⟨rfl, ?_⟩
          have e : IntKind.wrap .i64 (IntKind.wrap .i64 ((b' : Int) - 1) - IntKind.wrap .i64 ((x : Int) - (a' : Int))) = ((b' - 1 - (x - a') : Nat) : Int) := by
            rw [wS (x := (b' : Int) - 1) (k := b' - 1) (by omega) (by omega), wS (x := (x : Int) - (a' : Int)) (k := x - a') (by omega) (by omega), wS (k := b' - 1 - (x - a')) (by omega) (by omega)]
          rw [e]
          exact go2 _ _ g3 ws (by omega) (by omega) d3 (p3.trans pz)
        · exact go2 _ _ g2 zs x1 x2 d2 pz
      clear hJ1
      split
      · exact break_ok dy (by omega) (by omega) hn fun g2 zs d2 p2 => ⟨rfl, go1 _ g2 zs d2 p2⟩
      · exact go1 _ g ys dy .refl
theorem len_any {x : Int} (hk : ∀ n : Int, R (.int .i64 n) h) : CallsH Try.prog F.math_bits_Len #[.int .u64 x] h R := by
  refine math_bits_Len.walk (math_bits_Len64.walk (JoinP.of fun J hJ => ?_))
  have w8 : ∀ n : Int, 0 ≤ IntKind.wrap .u8 n ∧ IntKind.wrap .u8 n < 256 := fun n => by rw [IntKind.wrap_u8]; omega
  have k1 : ∀ y n, J y n h := by
    intro y n
    subst hJ
    refine JoinP.of fun J hJ => ?_
    have k2 : ∀ y n, J y n h := by
      intro y n
      subst hJ
      refine JoinP.of fun J hJ => ?_
      have k3 : ∀ y n, J y n h := by
        intro y n
        subst hJ
        exact ⟨w8 y, _, rfl, hk _⟩
      split
      · exact k3 _ _
      · exact k3 _ _
    split
    · exact k2 _ _
    · exact k2 _ _
  split
  · exact k1 _ _
  · exact k1 _ _
theorem sort_ok (o : Own h p n c 1 (xs.map iv)) (hl : n = xs.length) (nd : xs.Nodup) (hn : n ≤ 60000) (hk : ∀ h' (zs : List Int), Own h' p n c 1 (zs.map iv) → zs.Perm xs → zs.Pairwise (· < ·) → Fr (inBlk p) h h' → R (.tuple #[]) h') :
    CallsH Try.prog F.slices_Sort_s_int_int #[.slice p n c] h R := by
  refine slices_Sort_s_int_int.walk ?_
  unfold slices_Sort_s_int_int.vc
  have d : D h h p n c xs := ⟨o, hl, Fr.refl _ _⟩
  have go : ∀ L : Int, CallsH Try.prog F.slices_pdqsortOrdered_int #[.slice p n c, .int .i64 0, .int .i64 ((n : Nat) : Int), .int .i64 L] h fun v_1 h_2 => v_1 = .tuple #[] ∧ R (.tuple #[]) h_2 := fun L =>
    pdq_ok (a := 0) (b := n) n (by omega) d nd (Nat.zero_le _) (Nat.le_refl _) hn (.inl rfl) fun h' zs dz pz sz => ⟨rfl, hk h' zs dz.own pz.perm (SO.pair (by rw [← dz.len]; exact sz)) dz.fr⟩
  exact len_any fun L => ⟨_, rfl, go _⟩
end Srt
end Go.Proofs.Ytgccegnmggjkjaa
