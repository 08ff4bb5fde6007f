/-
  What is proved here: what the functions of package slices do that sort numbers: pivots, partitions. No condition.
-/
import Derived.Test.YtgccegnmggjkjaaSrt
set_option maxRecDepth 100000
namespace Go.Proofs.Ytgccegnmggjkjaa
open Go.Den Go.Srt
namespace Srt
variable {h h0 g : Heap} {R : Value → Heap → Prop} {p : Option Addr} {n c a b i j s : Nat} {xs ys : List Int} {I J : Int}
/-- a number in a block of its own -/
def Cel (h : Heap) (s : Nat) (t : TypeId) (k : IntKind) : Prop := ∃ x : Int, h[s]? = some (.cells #[.int k x] t (0, 0))
theorem order2_ok (d : D h0 h p n c xs) (hs : Cel h s T.int .i64) (hn : h0.size ≤ s) (hp : ¬ inBlk p s) (ha : a < n) (hb : b < n)
    (hk : ∀ h' (x y : Nat), (x = a ∧ y = b) ∨ (x = b ∧ y = a) → D h0 h' p n c xs → Cel h' s T.int .i64 → R (.tuple #[.int .i64 (x : Int), .int .i64 (y : Int)]) h') :
    CallsH Try.prog F.slices_order2Ordered_int #[.slice p n c, .int .i64 (a : Int), .int .i64 (b : Int), .pointer (some ⟨s, 0, none⟩)] h R := by
  refine slices_order2Ordered_int.walk (d.cmp rfl hb rfl ha ?_)
  by_cases hl : V xs b < V xs a
  · rw [decide_eq_true hl, if_pos rfl]
    obtain ⟨x, hx⟩ := hs
    refine ⟨_, cell_at hx rfl, storeP_blk hx (by simp) fun h1 a1 s1 o1 => ?_⟩
    exact hk h1 b a (.inr ⟨rfl, rfl⟩) (d.touch s1 o1 hn hp) ⟨_, a1⟩
  · rw [decide_eq_false hl, if_neg (by simp)]
    exact hk h a b (.inl ⟨rfl, rfl⟩) d hs
theorem median_ok {e : Nat} (d : D h0 h p n c xs) (hs : Cel h s T.int .i64) (hn : h0.size ≤ s) (hp : ¬ inBlk p s) (ha : a < n) (hb : b < n) (he : e < n)
    (hk : ∀ h' (x : Nat), x = a ∨ x = b ∨ x = e → D h0 h' p n c xs → Cel h' s T.int .i64 → R (.int .i64 (x : Int)) h') :
    CallsH Try.prog F.slices_medianOrdered_int #[.slice p n c, .int .i64 (a : Int), .int .i64 (b : Int), .int .i64 (e : Int), .pointer (some ⟨s, 0, none⟩)] h R := by
  refine slices_medianOrdered_int.walk (order2_ok d hs hn hp ha hb fun h1 x1 y1 e1 d1 s1 => ⟨_, _, rfl, ?_⟩)
  refine order2_ok d1 s1 hn hp (a := y1) (b := e) (by omega) he fun h2 x2 y2 e2 d2 s2 => ⟨_, _, rfl, ?_⟩
  refine order2_ok d2 s2 hn hp (a := x1) (b := x2) (by omega) (by omega) fun h3 x3 y3 e3 d3 s3 => ⟨_, _, rfl, ?_⟩
  exact hk h3 y3 (by omega) d3 s3
theorem adj_ok (d : D h0 h p n c xs) (hs : Cel h s T.int .i64) (hn : h0.size ≤ s) (hp : ¬ inBlk p s) (ha : 1 ≤ a) (hb : a + 1 < n) (hn2 : n ≤ 100000)
    (hk : ∀ h' (x : Nat), a ≤ x + 1 → x ≤ a + 1 → D h0 h' p n c xs → Cel h' s T.int .i64 → R (.int .i64 (x : Int)) h') :
    CallsH Try.prog F.slices_medianAdjacentOrdered_int #[.slice p n c, .int .i64 (a : Int), .pointer (some ⟨s, 0, none⟩)] h R := by
  refine slices_medianAdjacentOrdered_int.walk ?_
  unfold slices_medianAdjacentOrdered_int.vc
  rw [wS (k := a - 1) (by omega) (by omega), wS (k := a + 1) (by omega) (by omega)]
  exact median_ok d hs hn hp (by omega) (by omega) (by omega) fun h' x hx d' s' => ⟨_, rfl, hk h' x (by omega) (by omega) d' s'⟩
theorem pivot_ok (d : D h0 h p n c xs) (hb : b ≤ n) (hab : a + 8 ≤ b) (hn : n ≤ 100000)
    (hk : ∀ h' (x : Nat) (hint : Int), a ≤ x → x < b → D h0 h' p n c xs → R (.tuple #[.int .i64 (x : Int), .int .i64 hint]) h') :
    CallsH Try.prog F.slices_choosePivotOrdered_int #[.slice p n c, .int .i64 (a : Int), .int .i64 (b : Int)] h R := by
  refine slices_choosePivotOrdered_int.walk (newP_of ?_)
  have f1 : Fr (fun _ => False) h (h.push (.cells #[.int .i64 0] T.int)) := Fr.push _ _
  have c1 : Cel (h.push (.cells #[.int .i64 0] T.int)) h.size T.int .i64 := ⟨0, push_new⟩
  generalize h.push (.cells #[.int .i64 0] T.int) = h1 at f1 c1 ⊢
  have hs : h0.size ≤ h.size := d.fr.1
  have hp : ¬ inBlk p h.size := fun hx => by have := d.own.blk_lt hx; omega
  have d1 := d.on f1
  have wl : IntKind.wrap .i64 ((b : Int) - (a : Int)) = ((b - a : Nat) : Int) := wS (by omega) (by omega)
  have w4 : IntKind.wrap .i64 (Int.tdiv ((b - a : Nat) : Int) 4) = (((b - a) / 4 : Nat) : Int) := wS (by rw [Int.tdiv_eq_ediv_of_nonneg (by omega)]; omega) (by omega)
  have q1 : IntKind.wrap .i64 ((((b - a) / 4 : Nat) : Int) * 1) = (((b - a) / 4 : Nat) : Int) := wS (by omega) (by omega)
  have q2 : IntKind.wrap .i64 ((((b - a) / 4 : Nat) : Int) * 2) = (((b - a) / 4 * 2 : Nat) : Int) := wS (by omega) (by omega)
  have q3 : IntKind.wrap .i64 ((((b - a) / 4 : Nat) : Int) * 3) = (((b - a) / 4 * 3 : Nat) : Int) := wS (by omega) (by omega)
  have r1 : IntKind.wrap .i64 ((a : Int) + (((b - a) / 4 : Nat) : Int)) = ((a + (b - a) / 4 : Nat) : Int) := wS (by omega) (by omega)
  have r2 : IntKind.wrap .i64 ((a : Int) + (((b - a) / 4 * 2 : Nat) : Int)) = ((a + (b - a) / 4 * 2 : Nat) : Int) := wS (by omega) (by omega)
  have r3 : IntKind.wrap .i64 ((a : Int) + (((b - a) / 4 * 3 : Nat) : Int)) = ((a + (b - a) / 4 * 3 : Nat) : Int) := wS (by omega) (by omega)
  simp only [wl, w4, q1, q2, q3, r1, r2, r3]
  refine JoinP.of fun J hJ => ?_
  have go : ∀ g (x : Nat), a ≤ x → x < b → D h0 g p n c xs → Cel g h.size T.int .i64 → J (x : Int) g := by
    intro g x x1 x2 dg cg
    subst hJ
    obtain ⟨t, ht⟩ := cg
    refine ⟨_, cell_at ht rfl, ?_⟩
    split
    · exact hk g x 1 x1 x2 dg
    · split
      · exact hk g x 2 x1 x2 dg
      · exact hk g x 0 x1 x2 dg
  clear hJ
  rw [if_pos (decide_eq_true (by omega))]
  refine JoinP.of fun J1 hJ1 => ?_
  have go1 : ∀ g (x y z : Nat), a ≤ x → x < b → a ≤ y → y < b → a ≤ z → z < b → D h0 g p n c xs → Cel g h.size T.int .i64 → J1 (x : Int) (y : Int) (z : Int) g := by
    intro g x y z x1 x2 y1 y2 z1 z2 dg cg
    subst hJ1
    exact median_ok dg cg hs hp (by omega) (by omega) (by omega) fun g2 m hm d2 c2 => ⟨_, rfl, go g2 m (by omega) (by omega) d2 c2⟩
  clear hJ1
  by_cases h50 : 50 ≤ b - a
  · rw [if_pos (decide_eq_true (by omega))]
    refine adj_ok d1 c1 hs hp (by omega) (by omega) hn fun g2 x x1 x2 d2 c2 => ⟨_, rfl, ?_⟩
    refine adj_ok d2 c2 hs hp (by omega) (by omega) hn fun g3 y y1 y2 d3 c3 => ⟨_, rfl, ?_⟩
    refine adj_ok d3 c3 hs hp (by omega) (by omega) hn fun g4 z z1 z2 d4 c4 => ⟨_, rfl, ?_⟩
    exact go1 g4 x y z (by omega) (by omega) (by omega) (by omega) (by omega) (by omega) d4 c4
  · rw [if_neg (by simp; omega)]
    exact go1 h1 _ _ _ (by omega) (by omega) (by omega) (by omega) (by omega) (by omega) d1 c1

/-! ### what breaks patterns -/
theorem next_ok (hs : Cel h s T.slices_xorshift .u64) (hk : ∀ h' (t : Int), Cel h' s T.slices_xorshift .u64 → h'.size = h.size → (∀ x, x ≠ s → h'[x]? = h[x]?) → R (.int .u64 t) h') :
    CallsH Try.prog F.slices_xorshift_Next #[.pointer (some ⟨s, 0, none⟩)] h R := by
  obtain ⟨x, hx⟩ := hs
  refine slices_xorshift_Next.walk ⟨_, cell_at hx rfl, _, cell_at hx rfl, storeP_blk hx (by simp) fun h1 a1 s1 o1 => ⟨_, cell_at a1 rfl, _, cell_at a1 rfl, storeP_blk a1 (by simp) fun h2 a2 s2 o2 => ⟨_, cell_at a2 rfl, _, cell_at a2 rfl, storeP_blk a2 (by simp) fun h3 a3 s3 o3 => ⟨_, cell_at a3 rfl, ?_⟩⟩⟩⟩
  exact hk h3 _ ⟨_, a3⟩ (by omega) (fun y hy => by rw [o3 y hy, o2 y hy, o1 y hy])
def tab8 : ByteArray := ⟨#[0, 1, 2, 2, 3, 3, 3, 3, 4, 4, 4, 4, 4, 4, 4, 4, 5, 5, 5, 5, 5, 5, 5, 5, 5, 5, 5, 5, 5, 5, 5, 5, 6, 6, 6, 6, 6, 6, 6, 6, 6, 6, 6, 6, 6, 6, 6, 6, 6, 6, 6, 6, 6, 6, 6, 6, 6, 6, 6, 6, 6, 6, 6, 6, 7, 7, 7, 7, 7, 7, 7, 7, 7, 7, 7, 7, 7, 7, 7, 7, 7, 7, 7, 7, 7, 7, 7, 7, 7, 7, 7, 7, 7, 7, 7, 7, 7, 7, 7, 7, 7, 7, 7, 7, 7, 7, 7, 7, 7, 7, 7, 7, 7, 7, 7, 7, 7, 7, 7, 7, 7, 7, 7, 7, 7, 7, 7, 7, 8, 8, 8, 8, 8, 8, 8, 8, 8, 8, 8, 8, 8, 8, 8, 8, 8, 8, 8, 8, 8, 8, 8, 8, 8, 8, 8, 8, 8, 8, 8, 8, 8, 8, 8, 8, 8, 8, 8, 8, 8, 8, 8, 8, 8, 8, 8, 8, 8, 8, 8, 8, 8, 8, 8, 8, 8, 8, 8, 8, 8, 8, 8, 8, 8, 8, 8, 8, 8, 8, 8, 8, 8, 8, 8, 8, 8, 8, 8, 8, 8, 8, 8, 8, 8, 8, 8, 8, 8, 8, 8, 8, 8, 8, 8, 8, 8, 8, 8, 8, 8, 8, 8, 8, 8, 8, 8, 8, 8, 8, 8, 8, 8, 8, 8, 8, 8, 8, 8, 8, 8, 8, 8, 8, 8, 8, 8, 8]⟩
def len8 (y : Nat) : Nat := (tab8.data.toList.getD y 0).toNat
theorem len8_all : (List.range 256).all (fun y => y == 0 || (decide (2 ^ len8 y ≤ 2 * y) && decide (y < 2 ^ len8 y) && decide (len8 y ≤ 8))) = true := by decide +kernel
theorem len8_ok {y : Nat} (h0 : 0 < y) (h1 : y < 256) : 2 ^ len8 y ≤ 2 * y ∧ y < 2 ^ len8 y ∧ len8 y ≤ 8 := by
  have := List.all_eq_true.1 len8_all y (List.mem_range.2 h1)
  simp only [Bool.or_eq_true, beq_iff_eq, Bool.and_eq_true, decide_eq_true_eq] at this
  rcases this with e | ⟨⟨e1, e2⟩, e3⟩
  · omega
  · exact ⟨e1, e2, e3⟩
theorem bits_ok {x : Nat} (h0 : 0 < x) (h1 : x < 65536) (hk : ∀ L : Nat, L ≤ 16 → 2 ^ L ≤ 2 * x → x < 2 ^ L → R (.int .i64 (L : Int)) h) : CallsH Try.prog F.math_bits_Len #[.int .u64 (x : Int)] h R := by
  refine math_bits_Len.walk (math_bits_Len64.walk (JoinP.of fun J hJ => ?_))
  rw [if_neg (by simp; omega)]
  subst hJ
  refine JoinP.of fun J hJ => ?_
  rw [if_neg (by simp; omega)]
  subst hJ
  refine JoinP.of fun J hJ => ?_
  have fin : ∀ (y m : Nat), y < 256 → m ≤ 100 → len8 y ≤ 8 → R (.int .i64 ((m + len8 y : Nat) : Int)) h → J (y : Int) (m : Int) h := by
    intro y m hy hm hl hr
    subst hJ
    have e1 : IntKind.wrap .u8 (y : Int) = (y : Int) := wrap_u8 (by omega) (by omega)
    refine ⟨⟨by rw [e1]; omega, ?_⟩, _, rfl, ?_⟩
    · show IntKind.wrap .u8 (y : Int) < 256
      rw [e1]; omega
    · have e3 : IntKind.wrap .i64 ((m : Int) + IntKind.wrap .i64 (((tab8.data.toList.getD (Int.toNat (IntKind.wrap .u8 (y : Int))) 0).toNat : Nat) : Int)) = ((m + len8 y : Nat) : Int) := by
        rw [e1, Int.toNat_natCast]
        show IntKind.wrap .i64 ((m : Int) + IntKind.wrap .i64 ((len8 y : Nat) : Int)) = _
        rw [wrap_id (n := ((len8 y : Nat) : Int)) (by omega) (by omega), wrap_id (by omega) (by omega)]; omega
      rw [← e3] at hr
      exact hr
  clear hJ
  by_cases h8 : 256 ≤ x
  · rw [if_pos (decide_eq_true (by omega))]
    have e0 : Int.fdiv (x : Int) (2 ^ min (Int.toNat 8) (IntKind.bits .u64)) = ((x / 256 : Nat) : Int) := by
      show Int.fdiv (x : Int) 256 = _
      rw [Int.fdiv_eq_ediv_of_nonneg _ (by omega)]; omega
    have hl := len8_ok (y := x / 256) (by omega) (by omega)
    rw [e0, wS (k := 8) (by omega) (by omega)]
    exact fin _ _ (by omega) (by omega) (by omega) (hk (8 + len8 (x / 256)) (by omega) (by rw [Nat.pow_add]; omega) (by rw [Nat.pow_add]; omega))
  · rw [if_neg (by simp; omega)]
    have hl := len8_ok (y := x) (by omega) (by omega)
    refine fin x 0 (by omega) (by omega) (by omega) ?_
    rw [Nat.zero_add]
    exact hk (len8 x) (by omega) hl.1 hl.2.1
theorem pow_ok {x : Nat} (h0 : 0 < x) (h1 : x < 65536) (hk : ∀ m : Nat, 0 < m → m ≤ 2 * x → R (.int .u64 (m : Int)) h) : CallsH Try.prog F.slices_nextPowerOfTwo #[.int .i64 (x : Int)] h R := by
  refine slices_nextPowerOfTwo.walk ?_
  unfold slices_nextPowerOfTwo.vc
  rw [wrap_u64 (by omega) (by omega)]
  refine bits_ok h0 h1 fun L hL h2 h3 => ⟨_, rfl, ?_⟩
  rw [if_neg (by omega)]
  have e : IntKind.wrap .u64 (1 * 2 ^ min (Int.toNat (L : Int)) (IntKind.bits .u64)) = ((2 ^ L : Nat) : Int) := by
    rw [Int.toNat_natCast, show min L (IntKind.bits .u64) = L from Nat.min_eq_left (by show L ≤ 64; omega), Int.one_mul, wrap_u64]
    · rw [Int.natCast_pow]; rfl
    · exact Int.le_of_lt (Int.pow_pos (by omega))
    · have : ((2 : Int) ^ L) = ((2 ^ L : Nat) : Int) := by rw [Int.natCast_pow]; rfl
      rw [this]; omega
  rw [e]
  exact hk (2 ^ L) (Nat.pow_pos (by omega)) h2
theorem break_ok (d : D h0 h p n c xs) (hb : b ≤ n) (hab : a + 8 ≤ b) (hn : n ≤ 60000) (hk : ∀ h' ys, D h0 h' p n c ys → PermOn a b ys xs → R (.tuple #[]) h') :
    CallsH Try.prog F.slices_breakPatternsOrdered_int #[.slice p n c, .int .i64 (a : Int), .int .i64 (b : Int)] h R := by
  refine slices_breakPatternsOrdered_int.walk ?_
  unfold slices_breakPatternsOrdered_int.vc
  have wl : IntKind.wrap .i64 ((b : Int) - (a : Int)) = ((b - a : Nat) : Int) := wS (by omega) (by omega)
  have w4 : IntKind.wrap .i64 (Int.tdiv ((b - a : Nat) : Int) 4) = (((b - a) / 4 : Nat) : Int) := wS (by rw [Int.tdiv_eq_ediv_of_nonneg (by omega)]; omega) (by omega)
  have q2 : IntKind.wrap .i64 ((((b - a) / 4 : Nat) : Int) * 2) = (((b - a) / 4 * 2 : Nat) : Int) := wS (by omega) (by omega)
  have r2 : IntKind.wrap .i64 ((a : Int) + (((b - a) / 4 * 2 : Nat) : Int)) = ((a + (b - a) / 4 * 2 : Nat) : Int) := wS (by omega) (by omega)
  have r3 : IntKind.wrap .i64 (((a + (b - a) / 4 * 2 : Nat) : Int) - 1) = ((a + (b - a) / 4 * 2 - 1 : Nat) : Int) := wS (by omega) (by omega)
  have r4 : IntKind.wrap .i64 (((a + (b - a) / 4 * 2 : Nat) : Int) + 1) = ((a + (b - a) / 4 * 2 + 1 : Nat) : Int) := wS (by omega) (by omega)
  simp only [wl, w4, q2, r2, r3, r4]
  rw [if_pos (decide_eq_true (by omega))]
  refine newP_of (storeP_push (by simp) ?_)
  have f1 : Fr (fun _ => False) h (h.push (.cells (#[.int .u64 0].setIfInBounds 0 (.int .u64 (IntKind.wrap .u64 ((b - a : Nat) : Int)))) T.slices_xorshift)) := Fr.push _ _
  have c1 : Cel (h.push (.cells (#[.int .u64 0].setIfInBounds 0 (.int .u64 (IntKind.wrap .u64 ((b - a : Nat) : Int)))) T.slices_xorshift)) h.size T.slices_xorshift .u64 := ⟨_, push_new⟩
  generalize h.push (.cells (#[.int .u64 0].setIfInBounds 0 (.int .u64 (IntKind.wrap .u64 ((b - a : Nat) : Int)))) T.slices_xorshift) = h1 at f1 c1 ⊢
  have hs : h0.size ≤ h.size := d.fr.1
  have hp : ¬ inBlk p h.size := fun hx => by have := d.own.blk_lt hx; omega
  refine pow_ok (by omega) (by omega) fun m m0 m2 => ⟨_, rfl, ?_⟩
  refine ⟨fun t g => ∃ (k : Nat) (ys : List Int), t = (k : Int) ∧ a ≤ k ∧ k ≤ a + (b - a) / 4 * 2 + 2 ∧ D h0 g p n c ys ∧ Cel g h.size T.slices_xorshift .u64 ∧ PermOn a b ys xs, fun t _ => a + (b - a) / 4 * 2 + 2 - t.toNat, ⟨_, xs, rfl, by omega, by omega, d.on f1, c1, .refl⟩, ?_⟩
  rintro _ g ⟨k, ys, rfl, k1, k2, dy, cy, py⟩
  have ly := dy.len
  by_cases hlt : k ≤ a + (b - a) / 4 * 2 + 1
  · rw [if_pos (decide_eq_true (by omega))]
    refine next_ok cy fun g2 t c2 s2 o2 => ⟨_, rfl, JoinP.of fun J hJ => ?_⟩
    have d2 := dy.touch s2 o2 hs hp
    have go : ∀ x : Nat, x < b - a → J (x : Int) g2 := by
      intro x hx
      subst hJ
      dsimp only
      have w5 : IntKind.wrap .i64 ((a : Int) + (x : Int)) = ((a + x : Nat) : Int) := wS (by omega) (by omega)
      rw [w5]
      refine d2.swap (i := k) (j := a + x) rfl (by omega) rfl (by omega) fun g3 d3 s3 o3 => ?_
      rw [wS (k := k + 1) (by omega) (by omega)]
      have c3 : Cel g3 h.size T.slices_xorshift .u64 := by
        obtain ⟨y, hy⟩ := c2
        exact ⟨y, by rw [o3 _ hp]; exact hy⟩
      exact ⟨⟨k + 1, _, rfl, by omega, by omega, d3, c3, (PermOn.swp (by omega) (by omega) (by omega) (by omega) (by omega)).trans py⟩, by show a + (b - a) / 4 * 2 + 2 - Int.toNat ((k + 1 : Nat) : Int) < a + (b - a) / 4 * 2 + 2 - k; omega⟩
    clear hJ
    have wm : IntKind.wrap .u64 ((m : Int) - 1) = ((m - 1 : Nat) : Int) := by rw [wrap_u64 (by omega) (by omega)]; omega
    rw [wm]
    have hand : (BitVec.ofInt (IntKind.bits .u64) t &&& BitVec.ofInt (IntKind.bits .u64) ((m - 1 : Nat) : Int)).toNat ≤ m - 1 := by
      rw [BitVec.toNat_and]
      refine Nat.le_trans Nat.and_le_right ?_
      rw [BitVec.toNat_ofInt]
      have : (((m - 1 : Nat) : Int) % ((2 ^ (IntKind.bits .u64) : Nat) : Int)) = ((m - 1 : Nat) : Int) := by
        show ((m - 1 : Nat) : Int) % 18446744073709551616 = _
        omega
      rw [this]; omega
    generalize (BitVec.ofInt (IntKind.bits .u64) t &&& BitVec.ofInt (IntKind.bits .u64) ((m - 1 : Nat) : Int)).toNat = o at hand ⊢
    have wo : IntKind.wrap .i64 (IntKind.wrap .u64 (o : Int)) = (o : Int) := by rw [wrap_u64 (by omega) (by omega)]; exact wS rfl (by omega)
    rw [wo]
    by_cases ho : b - a ≤ o
    · rw [if_pos (decide_eq_true (by omega)), wS (k := o - (b - a)) (by omega) (by omega)]
      exact go _ (by omega)
    · rw [if_neg (by simp; omega)]
      exact go _ (by omega)
  · rw [if_neg (by simp; omega)]
    exact hk g ys dy py
end Srt
end Go.Proofs.Ytgccegnmggjkjaa
