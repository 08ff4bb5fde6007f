/-
  What is proved here: 'up' and 'down' of package alarm keep the order of a heap. No condition.
-/
import Derived.Test.YtgccegnmggjkjaaMem
set_option maxRecDepth 100000
namespace Go.Proofs.Ytgccegnmggjkjaa
open Go.Den Go.Heapq
namespace Alarm
variable {h : Heap} {a m cap : Nat} {p : Option Addr} {es : List E} {g : Int → Option Value} {R : Value → Heap → Prop}

theorem par_eq {q : Nat} (hq : q < 1000000) : IntKind.wrap .i64 (Int.tdiv (IntKind.wrap .i64 ((q : Int) - 1)) 2) = (((q - 1) / 2 : Nat) : Int) := by
  rw [wrap_id (n := (q : Int) - 1) (by omega) (by omega)]
  cases q with
  | zero => decide
  | succ n =>
    rw [show ((n + 1 : Nat) : Int) - 1 = (n : Int) by omega, show n + 1 - 1 = n from rfl]
    have : Int.tdiv (n : Int) 2 = ((n / 2 : Nat) : Int) := by
      rw [Int.tdiv_eq_ediv_of_nonneg (by omega)]
      omega
    rw [this]
    exact wrap_id (by omega) (by omega)
theorem kid1_eq {q : Nat} (hq : q < 1000000) : IntKind.wrap .i64 (IntKind.wrap .i64 (2 * (q : Int)) + 1) = ((2 * q + 1 : Nat) : Int) := by
  rw [wrap_id (n := 2 * (q : Int)) (by omega) (by omega), wrap_id (by omega) (by omega)]; omega
theorem kid2_eq {q : Nat} (hq : q < 1000000) : IntKind.wrap .i64 (IntKind.wrap .i64 (2 * (q : Int)) + 2) = ((2 * q + 2 : Nat) : Int) := by
  rw [wrap_id (n := 2 * (q : Int)) (by omega) (by omega), wrap_id (by omega) (by omega)]; omega

/-- two entries change places -/
theorem swap_ok {K : Heap → Prop} (M : Mem h a p cap m es g) (hP : PlaceOk es g) {i j b b' : Nat} (hi : i < es.length) (hj : j < es.length) (hne : i ≠ j)
    (hb : h[b]? = some (.cells #[.int .i64 (at_ es i).1, .int .u64 (at_ es i).2] T.alarm_entry (0, 0))) (hb' : h[b']? = some (.cells #[.int .i64 (at_ es j).1, .int .u64 (at_ es j).2] T.alarm_entry (0, 0)))
    (nb' : ¬ inner p m b')
    (hk : ∀ h' g', Mem h' a p cap m (swapL es i j) g' → PlaceOk (swapL es i j) g' → Fr (inner p m) h h' → K h') :
    onSome (some (⟨b, 0, none⟩ : Addr)) fun a_1 =>
      ∃ (t45_0 : Int), hcell h a_1 = some (.int .i64 t45_0) ∧ ∃ (t45_1 : Int), hcell h (a_1.add 1) = some (.int .u64 t45_1) ∧
      CallsH Try.prog F.alarm_Alarm_put #[.pointer (some ⟨a, 0, none⟩), .int .i64 (j : Int), .agg #[.int .i64 t45_0, .int .u64 t45_1]] h fun v h_4 =>
      v = .tuple #[] ∧
      onSome (some (⟨b', 0, none⟩ : Addr)) fun a_2 =>
      ∃ (t49_0 : Int), hcell h_4 a_2 = some (.int .i64 t49_0) ∧ ∃ (t49_1 : Int), hcell h_4 (a_2.add 1) = some (.int .u64 t49_1) ∧
      CallsH Try.prog F.alarm_Alarm_put #[.pointer (some ⟨a, 0, none⟩), .int .i64 (i : Int), .agg #[.int .i64 t49_0, .int .u64 t49_1]] h_4 fun v_1 h_5 =>
      v_1 = .tuple #[] ∧ K h_5 := by
  refine onSome_some.2 ⟨_, cell_at hb rfl, _, by rw [add_blk]; exact cell_at hb rfl, ?_⟩
  refine put_ok M hj fun h4 M4 f4 => ⟨rfl, onSome_some.2 ?_⟩
  have hb4 := f4.get hb' nb'
  refine ⟨_, cell_at hb4 rfl, _, by rw [add_blk]; exact cell_at hb4 rfl, ?_⟩
  refine put_ok M4 (by rw [List.length_set]; exact hi) fun h5 M5 f5 => ⟨rfl, hk h5 _ M5 (hP.swap hi hj hne) (Fr.tt f4 f5)⟩

/-- what 'up' keeps -/
def upI (h0 : Heap) (a : Nat) (p : Option Addr) (cap m : Nat) (es0 : List E) (i0 : Nat) (i : Int) (h : Heap) : Prop :=
  ∃ es g q, i = ((q : Nat) : Int) ∧ q < es0.length ∧ es.length = es0.length ∧ Mem h a p cap m es g ∧ PlaceOk es g ∧ es.Perm es0 ∧ ExBoth (at_ es) es0.length q ∧
    ((q = i0 ∧ es = es0) ∨ KidsOk (at_ es) es0.length q) ∧ at_ es q = at_ es0 i0 ∧ Fr (inner p m) h0 h

theorem up_ok (M : Mem h a p cap m es g) (hP : PlaceOk es g) {i : Nat} (hi : i < es.length) (hn : es.length < 1000000) (ex : ExBoth (at_ es) es.length i)
    (hk : ∀ h' es' g' q, Mem h' a p cap m es' g' → PlaceOk es' g' → es'.Perm es → es'.length = es.length → q < es.length → at_ es' q = at_ es i → ExDown (at_ es') es.length q → (KidsOk (at_ es) es.length i → HeapO (at_ es') es.length) → Fr (inner p m) h h' → R (.tuple #[]) h') :
    CallsH Try.prog F.alarm_Alarm_up #[.pointer (some ⟨a, 0, none⟩), .int .i64 (i : Int)] h R := by
  refine alarm_Alarm_up.walk ⟨upI h a p cap m es i, fun i _ => i.toNat, ⟨es, g, i, rfl, hi, rfl, M, hP, .refl _, ex, .inl ⟨rfl, rfl⟩, rfl, Fr.refl _ _⟩, ?_⟩
  rintro i1 h1 ⟨es1, g1, q, rfl, hq, hl, M1, P1, pm1, ex1, kd, hat, fr⟩
  rw [par_eq (by omega)]
  refine JoinP.of fun J hJ => ?_
  have hq1 : q < es1.length := by omega
  have hp1 : (q - 1) / 2 < es1.length := by omega
  have stay : ∀ h2, Fr (fun _ => False) h1 h2 → (q = 0 ∨ le (at_ es1 ((q - 1) / 2)) (at_ es1 q)) → J false h2 := by
    intro h2 f hle
    subst hJ
    simp only [Bool.false_eq_true, if_false]
    have hd := up_stay ex1 hle
    refine hk h2 es1 g1 q (M1.calm f) P1 pm1 hl hq hat hd (fun k0 => ?_) (Fr.on fr f)
    rcases kd with ⟨e1, e2⟩ | kd
    · subst e1 e2; exact heap_of_down hd k0
    · exact heap_of_down hd kd
  by_cases h0 : q = 0
  · subst h0
    exact stay h1 (Fr.refl _ _) (.inl rfl)
  · have hgt : (q : Int) > 0 := by omega
    simp only [hgt, decide_true, if_true, Int.toNat_natCast]
    obtain ⟨ad, rfl⟩ := M1.some (by omega)
    refine ⟨_, _, _, M1.hd, ⟨by omega, by omega⟩, onSome_some.2 ⟨_, M1.c0 hq1, _, M1.c1 hq1, _, _, _, M1.hd, ⟨by omega, by omega⟩, onSome_some.2 ⟨_, M1.c0 hp1, _, M1.c1 hp1, ahead_ok fun h2 f => ⟨_, rfl, (M1.calm f).hd, (M1.calm f).hd, ?_⟩⟩⟩⟩
    by_cases hlt : lt (at_ es1 q) (at_ es1 ((q - 1) / 2))
    · rw [show decide (lt ((at_ es1 q).1, (at_ es1 q).2) ((at_ es1 ((q - 1) / 2)).1, (at_ es1 ((q - 1) / 2)).2)) = true from decide_eq_true hlt]
      subst hJ
      simp only [if_true, Int.toNat_natCast]
      have M2 := M1.calm f
      refine JoinP.of fun J1 hJ1 => ?_
      refine ⟨_, _, _, M2.hd, ⟨by omega, by omega⟩, onSome_some.2 ⟨_, M2.c0 hq1, _, M2.c1 hq1, _, _, _, M2.hd, ⟨by omega, by omega⟩, onSome_some.2 ⟨_, M2.c0 hp1, _, M2.c1 hp1, ?_⟩⟩⟩
      refine fork2 (fun h' f' => ?_) (fun b b' h' hb hb' sb sb' f' => ?_)
      · have M' := M2.calm f'
        exact ⟨⟨M'.c0 hp1, M'.c1 hp1, trivial⟩, M'.hd, ⟨M'.c0 hq1, M'.c1 hq1, trivial⟩, M'.hd⟩
      · subst hJ1
        have M3 := M2.calm f'
        refine swap_ok M3 P1 hq1 hp1 (by omega) hb hb' (fun hc => ?_) fun h5 g5 M5 P5 f5 => ⟨⟨swapL es1 q ((q - 1) / 2), g5, (q - 1) / 2, rfl, by omega, by rw [swapL_len]; exact hl, M5, P5, (swapL_perm hq1 hp1).trans pm1, ?_⟩, ?_⟩
        · have := M2.lt (.inr hc); omega
        · have mv := up_move ex1 (by omega) hq rfl hlt
          rw [swapL_fun hq1 hp1]
          refine ⟨mv.1, .inr mv.2, ?_, Fr.tt fr (Fr.no f (Fr.no f' f5))⟩
          rw [← hat]; unfold swapf; rw [if_neg (by omega), if_pos rfl]
        · show Int.toNat (((q - 1) / 2 : Nat) : Int) < Int.toNat (q : Int)
          rw [Int.toNat_natCast, Int.toNat_natCast]; omega
    · rw [show decide (lt ((at_ es1 q).1, (at_ es1 q).2) ((at_ es1 ((q - 1) / 2)).1, (at_ es1 ((q - 1) / 2)).2)) = false from decide_eq_false hlt]
      exact stay h2 f (.inr hlt)

/-- one child is looked at -/
theorem kid_ok {J : Int → Heap → Prop} (M : Mem h a p cap m es g) {b c : Nat} (hb : b < es.length)
    (k1 : es.length ≤ c → J b h) (k2 : c < es.length → lt (at_ es c) (at_ es b) → ∀ h', Fr (fun _ => False) h h' → J c h') (k3 : c < es.length → ¬ lt (at_ es c) (at_ es b) → ∀ h', Fr (fun _ => False) h h' → J b h') :
    JoinP (fun (t43 : Bool) (h_4 : Heap) =>
      JoinP (fun (best_2 : Int) (h_5 : Heap) =>
        J best_2 h_5)
      (fun J_2 =>
        if t43 = true then
          J_2 (c : Int) h_4
        else
          J_2 (b : Int) h_4))
    (fun J_1 =>
      ∃ (t24_p : Option Addr) (t24_l t24_c : Nat), hcell h ⟨a, 0, none⟩ = some (.slice t24_p t24_l t24_c) ∧
      if (decide ((c : Int) < ((t24_l : Nat) : Int))) = true then
        ∃ (t31_p : Option Addr) (t31_l t31_c : Nat), hcell h ⟨a, 0, none⟩ = some (.slice t31_p t31_l t31_c) ∧
        ((0 : Int) ≤ (c : Int) ∧ (c : Int) < ((t31_l : Nat) : Int)) ∧
        onSome t31_p fun a_1 =>
        ∃ (t34_0 : Int), hcell h (a_1.add (Int.toNat (c : Int) * 2)) = some (.int .i64 t34_0) ∧ ∃ (t34_1 : Int), hcell h ((a_1.add (Int.toNat (c : Int) * 2)).add 1) = some (.int .u64 t34_1) ∧
        ∃ (t38_p : Option Addr) (t38_l t38_c : Nat), hcell h ⟨a, 0, none⟩ = some (.slice t38_p t38_l t38_c) ∧
        ((0 : Int) ≤ (b : Int) ∧ (b : Int) < ((t38_l : Nat) : Int)) ∧
        onSome t38_p fun a_2 =>
        ∃ (t41_0 : Int), hcell h (a_2.add (Int.toNat (b : Int) * 2)) = some (.int .i64 t41_0) ∧ ∃ (t41_1 : Int), hcell h ((a_2.add (Int.toNat (b : Int) * 2)).add 1) = some (.int .u64 t41_1) ∧
        CallsH Try.prog F.alarm_ahead #[.agg #[.int .i64 t34_0, .int .u64 t34_1], .agg #[.int .i64 t41_0, .int .u64 t41_1]] h fun v h_6 =>
        ∃ (t42 : Bool), v = .bool t42 ∧
        hcell h_6 ⟨a, 0, none⟩ = some (.slice t38_p t38_l t38_c) ∧
        hcell h_6 ⟨a, 0, none⟩ = some (.slice t31_p t31_l t31_c) ∧
        hcell h_6 ⟨a, 0, none⟩ = some (.slice t24_p t24_l t24_c) ∧
        J_1 t42 h_6
      else
        J_1 false h) := by
  refine JoinP.of fun J1 hJ1 => ⟨_, _, _, M.hd, ?_⟩
  by_cases hc : c < es.length
  · have hc' : (c : Int) < (es.length : Int) := by omega
    simp only [hc', decide_true, if_true, Int.toNat_natCast]
    obtain ⟨ad, rfl⟩ := M.some (by omega)
    refine ⟨_, _, _, M.hd, ⟨by omega, by omega⟩, onSome_some.2 ⟨_, M.c0 hc, _, M.c1 hc, _, _, _, M.hd, ⟨by omega, by omega⟩, onSome_some.2 ⟨_, M.c0 hb, _, M.c1 hb, ahead_ok fun h2 f => ⟨_, rfl, (M.calm f).hd, (M.calm f).hd, (M.calm f).hd, ?_⟩⟩⟩⟩
    subst hJ1
    by_cases hlt : lt (at_ es c) (at_ es b)
    · rw [show decide (lt ((at_ es c).1, (at_ es c).2) ((at_ es b).1, (at_ es b).2)) = true from decide_eq_true hlt]
      simp only [if_true, JoinP]
      exact k2 hc hlt h2 f
    · rw [show decide (lt ((at_ es c).1, (at_ es c).2) ((at_ es b).1, (at_ es b).2)) = false from decide_eq_false hlt]
      simp only [Bool.false_eq_true, if_false, JoinP]
      exact k3 hc hlt h2 f
  · have hc' : ¬ (c : Int) < (es.length : Int) := by omega
    subst hJ1
    simp only [hc', decide_false, Bool.false_eq_true, if_false, JoinP]
    exact k1 (by omega)

def dnI (h0 : Heap) (a : Nat) (p : Option Addr) (cap m : Nat) (es0 : List E) (i : Int) (h : Heap) : Prop :=
  ∃ es g q, i = ((q : Nat) : Int) ∧ q < es0.length ∧ es.length = es0.length ∧ Mem h a p cap m es g ∧ PlaceOk es g ∧ es.Perm es0 ∧ ExDown (at_ es) es0.length q ∧ Fr (inner p m) h0 h
def kidI (h1 : Heap) (es : List E) (q : Nat) (best t : Int) (h : Heap) : Prop :=
  ∃ b k : Nat, best = b ∧ t = k ∧ k ≤ 2 ∧ b < es.length ∧ Fr (fun _ => False) h1 h ∧ (b ≠ q → (b - 1) / 2 = q ∧ 0 < b ∧ lt (at_ es b) (at_ es q)) ∧ ∀ c, 0 < c → c < es.length → c ≤ 2 * q + k → (c - 1) / 2 = q → le (at_ es b) (at_ es c)

theorem down_ok (M : Mem h a p cap m es g) (hP : PlaceOk es g) {i : Nat} (hi : i < es.length) (hn : es.length < 1000000) (ex : ExDown (at_ es) es.length i)
    (hk : ∀ h' es' g', Mem h' a p cap m es' g' → PlaceOk es' g' → es'.Perm es → es'.length = es.length → HeapO (at_ es') es.length → Fr (inner p m) h h' → R (.tuple #[]) h') :
    CallsH Try.prog F.alarm_Alarm_down #[.pointer (some ⟨a, 0, none⟩), .int .i64 (i : Int)] h R := by
  refine alarm_Alarm_down.walk ⟨dnI h a p cap m es, fun i _ => es.length - i.toNat, ⟨es, g, i, rfl, hi, rfl, M, hP, .refl _, ex, Fr.refl _ _⟩, ?_⟩
  rintro i1 h1 ⟨es1, g1, q, rfl, hq, hl, M1, P1, pm1, ex1, fr⟩
  have hq1 : q < es1.length := by omega
  rw [kid1_eq (by omega), kid2_eq (by omega)]
  refine ⟨kidI h1 es1 q, fun _ t _ => 2 - t.toNat, ⟨q, 0, rfl, rfl, by omega, hq1, Fr.refl _ _, fun hne => absurd rfl hne, fun c h1 h2 h3 h4 => by omega⟩, ?_⟩
  rintro best t h2 ⟨b, k, rfl, rfl, hk2, hb, f2, hbq, hall⟩
  have M2 := M1.calm f2
  by_cases hkk : k < 2
  · have hkk' : (k : Int) < 2 := by omega
    simp only [hkk', decide_true, if_true]
    rw [wrap_id (n := (k : Int) + 1) (by omega) (by omega)]
    refine JoinP.of fun J hJ => ⟨⟨by omega, by omega⟩, fun hk0 => ?_, fun hk1 => ?_, trivial⟩
    · obtain rfl : k = 0 := by omega
      refine kid_ok M2 hb (fun hc => ?_) (fun hc hlt h3 f3 => ?_) (fun hc hlt h3 f3 => ?_) <;> subst hJ <;> refine ⟨?_, by simp⟩
      · exact ⟨b, 1, rfl, rfl, by omega, hb, f2, hbq, fun c c1 c2 c3 c4 => by omega⟩
      · refine ⟨2 * q + 1, 1, rfl, rfl, by omega, hc, Fr.tt f2 f3, fun _ => ⟨by omega, by omega, ?_⟩, fun c c1 c2 c3 c4 => ?_⟩
        · by_cases e : b = q
          · rw [← e]; exact e ▸ hlt
          · exact lt_trans hlt (hbq e).2.2
        · have : c = 2 * q + 1 := by omega
          subst this; exact le_refl _
      · refine ⟨b, 1, rfl, rfl, by omega, hb, Fr.tt f2 f3, hbq, fun c c1 c2 c3 c4 => ?_⟩
        have : c = 2 * q + 1 := by omega
        subst this; exact hlt
    · obtain rfl : k = 1 := by omega
      refine kid_ok M2 hb (fun hc => ?_) (fun hc hlt h3 f3 => ?_) (fun hc hlt h3 f3 => ?_) <;> subst hJ <;> refine ⟨?_, by simp⟩
      · exact ⟨b, 2, rfl, rfl, by omega, hb, f2, hbq, fun c c1 c2 c3 c4 => hall c c1 c2 (by omega) c4⟩
      · refine ⟨2 * q + 2, 2, rfl, rfl, by omega, hc, Fr.tt f2 f3, fun _ => ⟨by omega, by omega, ?_⟩, fun c c1 c2 c3 c4 => ?_⟩
        · by_cases e : b = q
          · rw [← e]; exact e ▸ hlt
          · exact lt_trans hlt (hbq e).2.2
        · by_cases e : c = 2 * q + 2
          · subst e; exact le_refl _
          · exact le_trans (le_of_lt hlt) (hall c c1 c2 (by omega) c4)
      · refine ⟨b, 2, rfl, rfl, by omega, hb, Fr.tt f2 f3, hbq, fun c c1 c2 c3 c4 => ?_⟩
        by_cases e : c = 2 * q + 2
        · subst e; exact hlt
        · exact hall c c1 c2 (by omega) c4
  · obtain rfl : k = 2 := by omega
    simp only [show ¬ ((2 : Nat) : Int) < 2 by omega, decide_false, Bool.false_eq_true, if_false]
    by_cases e : b = q
    · subst e
      simp only [bne_self_eq_false, Bool.false_eq_true, if_false]
      refine hk h2 es1 g1 M2 P1 pm1 hl (heap_of_down ex1 fun j j1 j2 j3 => hall j j1 (by omega) (by omega) j3) (Fr.on fr f2)
    · obtain ⟨b1, b2, b3⟩ := hbq e
      have hne : ((b : Int) != (q : Int)) = true := by simp; omega
      simp only [hne, if_true, Int.toNat_natCast]
      obtain ⟨ad, rfl⟩ := M2.some (by omega)
      refine JoinP.of fun J1 hJ1 => ?_
      refine ⟨_, _, _, M2.hd, ⟨by omega, by omega⟩, onSome_some.2 ⟨_, M2.c0 hq1, _, M2.c1 hq1, _, _, _, M2.hd, ⟨by omega, by omega⟩, onSome_some.2 ⟨_, M2.c0 hb, _, M2.c1 hb, ?_⟩⟩⟩
      refine fork2 (fun h' f' => ?_) (fun x x' h' hx hx' sx sx' f' => ?_)
      · have M' := M2.calm f'
        exact ⟨⟨M'.c0 hb, M'.c1 hb, trivial⟩, M'.hd, ⟨M'.c0 hq1, M'.c1 hq1, trivial⟩, M'.hd⟩
      · subst hJ1
        have M3 := M2.calm f'
        refine swap_ok M3 P1 hq1 hb (fun x => e x.symm) hx hx' (fun hc => ?_) fun h5 g5 M5 P5 f5 => ⟨⟨swapL es1 q b, g5, b, rfl, by omega, by rw [swapL_len]; exact hl, M5, P5, (swapL_perm hq1 hb).trans pm1, ?_, Fr.tt fr (Fr.no f2 (Fr.no f' f5))⟩, ?_⟩
        · have := M2.lt (.inr hc); omega
        · rw [swapL_fun hq1 hb]
          exact down_move ex1 b1 b2 (by omega) b3 fun j j1 j2 j3 => hall j j1 (by omega) (by omega) j3
        · show es.length - Int.toNat (b : Int) < es.length - Int.toNat (q : Int)
          rw [Int.toNat_natCast, Int.toNat_natCast]; omega

end Alarm
end Go.Proofs.Ytgccegnmggjkjaa
