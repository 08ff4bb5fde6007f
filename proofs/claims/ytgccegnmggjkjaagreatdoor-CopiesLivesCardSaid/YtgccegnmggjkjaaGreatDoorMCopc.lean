/-
  What is proved here: the parts named below, one behind the other (texts of this work, merged by a program). No condition.
-/
import Derived.Test.YtgccegnmggjkjaaGreatDoorMCopb

/-
  What is proved here: 'up' and 'down' of package alarm keep the order of a heap. No condition.
-/
set_option maxRecDepth 100000
namespace Go.Proofs.YtgccegnmggjkjaaGreatDoor
open Go.Den Go.Heapq
namespace Alarm
variable {h : Heap} {a m cap : Nat} {p : Option Addr} {es : List E} {g : Int → Option Value} {R : Value → Heap → Prop}

theorem par_eq {q : Nat} (hq : q < 1000000) : IntKind.wrap .i64 (Int.tdiv (IntKind.wrap .i64 ((q : Int) - 1)) 2) = (((q - 1) / 2 : Nat) : Int) := by
  rw [wrap_id (n := (q : Int) - 1) (by omega) (by omega)]
  cases q with
  | zero => decide
  | succ n =>
    rw [show ((n + 1 : Nat) : Int) - 1 = (n : Int) by omega, show n + 1 - 1 = n from rfl]
    have : Int.tdiv (n : Int) 2 = ((n / 2 : Nat) : Int) := by
      rw [Int.tdiv_eq_ediv_of_nonneg (by omega)]
      omega
    rw [this]
    exact wrap_id (by omega) (by omega)
theorem kid1_eq {q : Nat} (hq : q < 1000000) : IntKind.wrap .i64 (IntKind.wrap .i64 (2 * (q : Int)) + 1) = ((2 * q + 1 : Nat) : Int) := by
  rw [wrap_id (n := 2 * (q : Int)) (by omega) (by omega), wrap_id (by omega) (by omega)]; omega
theorem kid2_eq {q : Nat} (hq : q < 1000000) : IntKind.wrap .i64 (IntKind.wrap .i64 (2 * (q : Int)) + 2) = ((2 * q + 2 : Nat) : Int) := by
  rw [wrap_id (n := 2 * (q : Int)) (by omega) (by omega), wrap_id (by omega) (by omega)]; omega

/-- two entries change places -/
theorem swap_ok {K : Heap → Prop} (M : Mem h a p cap m es g) (hP : PlaceOk es g) {i j b b' : Nat} (hi : i < es.length) (hj : j < es.length) (hne : i ≠ j)
    (hb : h[b]? = some (.cells #[.int .i64 (at_ es i).1, .int .u64 (at_ es i).2] T.alarm_entry (0, 0))) (hb' : h[b']? = some (.cells #[.int .i64 (at_ es j).1, .int .u64 (at_ es j).2] T.alarm_entry (0, 0)))
    (nb' : ¬ inner p m b')
    (hk : ∀ h' g', Mem h' a p cap m (swapL es i j) g' → PlaceOk (swapL es i j) g' → Fr (inner p m) h h' → K h') :
    onSome (some (⟨b, 0, none⟩ : Addr)) fun a_1 =>
      ∃ (t45_0 : Int), hcell h a_1 = some (.int .i64 t45_0) ∧ ∃ (t45_1 : Int), hcell h (a_1.add 1) = some (.int .u64 t45_1) ∧
      CallsH Tryz.prog F.alarm_Alarm_put #[.pointer (some ⟨a, 0, none⟩), .int .i64 (j : Int), .agg #[.int .i64 t45_0, .int .u64 t45_1]] h fun v h_4 =>
      v = .tuple #[] ∧
      onSome (some (⟨b', 0, none⟩ : Addr)) fun a_2 =>
      ∃ (t49_0 : Int), hcell h_4 a_2 = some (.int .i64 t49_0) ∧ ∃ (t49_1 : Int), hcell h_4 (a_2.add 1) = some (.int .u64 t49_1) ∧
      CallsH Tryz.prog F.alarm_Alarm_put #[.pointer (some ⟨a, 0, none⟩), .int .i64 (i : Int), .agg #[.int .i64 t49_0, .int .u64 t49_1]] h_4 fun v_1 h_5 =>
      v_1 = .tuple #[] ∧ K h_5 := by
  refine onSome_some.2 ⟨_, cell_at hb rfl, _, by rw [add_blk]; exact cell_at hb rfl, ?_⟩
  refine put_ok M hj fun h4 M4 f4 => ⟨rfl, onSome_some.2 ?_⟩
  have hb4 := f4.get hb' nb'
  refine ⟨_, cell_at hb4 rfl, _, by rw [add_blk]; exact cell_at hb4 rfl, ?_⟩
  refine put_ok M4 (by rw [List.length_set]; exact hi) fun h5 M5 f5 => ⟨rfl, hk h5 _ M5 (hP.swap hi hj hne) (Fr.tt f4 f5)⟩

/-- what 'up' keeps -/
def upI (h0 : Heap) (a : Nat) (p : Option Addr) (cap m : Nat) (es0 : List E) (i0 : Nat) (i : Int) (h : Heap) : Prop :=
  ∃ es g q, i = ((q : Nat) : Int) ∧ q < es0.length ∧ es.length = es0.length ∧ Mem h a p cap m es g ∧ PlaceOk es g ∧ es.Perm es0 ∧ ExBoth (at_ es) es0.length q ∧
    ((q = i0 ∧ es = es0) ∨ KidsOk (at_ es) es0.length q) ∧ at_ es q = at_ es0 i0 ∧ Fr (inner p m) h0 h

theorem up_ok (M : Mem h a p cap m es g) (hP : PlaceOk es g) {i : Nat} (hi : i < es.length) (hn : es.length < 1000000) (ex : ExBoth (at_ es) es.length i)
    (hk : ∀ h' es' g' q, Mem h' a p cap m es' g' → PlaceOk es' g' → es'.Perm es → es'.length = es.length → q < es.length → at_ es' q = at_ es i → ExDown (at_ es') es.length q → (KidsOk (at_ es) es.length i → HeapO (at_ es') es.length) → Fr (inner p m) h h' → R (.tuple #[]) h') :
    CallsH Tryz.prog F.alarm_Alarm_up #[.pointer (some ⟨a, 0, none⟩), .int .i64 (i : Int)] h R := by
  refine alarm_Alarm_up.walk ⟨upI h a p cap m es i, fun i _ => i.toNat, ⟨es, g, i, rfl, hi, rfl, M, hP, .refl _, ex, .inl ⟨rfl, rfl⟩, rfl, Fr.refl _ _⟩, ?_⟩
  rintro i1 h1 ⟨es1, g1, q, rfl, hq, hl, M1, P1, pm1, ex1, kd, hat, fr⟩
  rw [par_eq (by omega)]
  refine JoinP.of fun J hJ => ?_
  have hq1 : q < es1.length := by omega
  have hp1 : (q - 1) / 2 < es1.length := by omega
  have stay : ∀ h2, Fr (fun _ => False) h1 h2 → (q = 0 ∨ le (at_ es1 ((q - 1) / 2)) (at_ es1 q)) → J false h2 := by
    intro h2 f hle
    subst hJ
    simp only [Bool.false_eq_true, if_false]
    have hd := up_stay ex1 hle
    refine hk h2 es1 g1 q (M1.calm f) P1 pm1 hl hq hat hd (fun k0 => ?_) (Fr.on fr f)
    rcases kd with ⟨e1, e2⟩ | kd
    · subst e1 e2; exact heap_of_down hd k0
    · exact heap_of_down hd kd
  by_cases h0 : q = 0
  · subst h0
    exact stay h1 (Fr.refl _ _) (.inl rfl)
  · have hgt : (q : Int) > 0 := by omega
    simp only [hgt, decide_true, if_true, Int.toNat_natCast]
    obtain ⟨ad, rfl⟩ := M1.some (by omega)
    refine ⟨_, _, _, M1.hd, ⟨by omega, by omega⟩, onSome_some.2 ⟨_, M1.c0 hq1, _, M1.c1 hq1, _, _, _, M1.hd, ⟨by omega, by omega⟩, onSome_some.2 ⟨_, M1.c0 hp1, _, M1.c1 hp1, ahead_ok fun h2 f => ⟨_, rfl, (M1.calm f).hd, (M1.calm f).hd, ?_⟩⟩⟩⟩
    by_cases hlt : lt (at_ es1 q) (at_ es1 ((q - 1) / 2))
    · rw [show decide (lt ((at_ es1 q).1, (at_ es1 q).2) ((at_ es1 ((q - 1) / 2)).1, (at_ es1 ((q - 1) / 2)).2)) = true from decide_eq_true hlt]
      subst hJ
      simp only [if_true, Int.toNat_natCast]
      have M2 := M1.calm f
      refine JoinP.of fun J1 hJ1 => ?_
      refine ⟨_, _, _, M2.hd, ⟨by omega, by omega⟩, onSome_some.2 ⟨_, M2.c0 hq1, _, M2.c1 hq1, _, _, _, M2.hd, ⟨by omega, by omega⟩, onSome_some.2 ⟨_, M2.c0 hp1, _, M2.c1 hp1, ?_⟩⟩⟩
      refine fork2 (fun h' f' => ?_) (fun b b' h' hb hb' sb sb' f' => ?_)
      · have M' := M2.calm f'
        exact ⟨⟨M'.c0 hp1, M'.c1 hp1, trivial⟩, M'.hd, ⟨M'.c0 hq1, M'.c1 hq1, trivial⟩, M'.hd⟩
      · subst hJ1
        have M3 := M2.calm f'
        refine swap_ok M3 P1 hq1 hp1 (by omega) hb hb' (fun hc => ?_) fun h5 g5 M5 P5 f5 => ⟨⟨swapL es1 q ((q - 1) / 2), g5, (q - 1) / 2, rfl, by omega, by rw [swapL_len]; exact hl, M5, P5, (swapL_perm hq1 hp1).trans pm1, ?_⟩, ?_⟩
        · have := M2.lt (.inr hc); omega
        · have mv := up_move ex1 (by omega) hq rfl hlt
          rw [swapL_fun hq1 hp1]
          refine ⟨mv.1, .inr mv.2, ?_, Fr.tt fr (Fr.no f (Fr.no f' f5))⟩
          rw [← hat]; unfold swapf; rw [if_neg (by omega), if_pos rfl]
        · show Int.toNat (((q - 1) / 2 : Nat) : Int) < Int.toNat (q : Int)
          rw [Int.toNat_natCast, Int.toNat_natCast]; omega
    · rw [show decide (lt ((at_ es1 q).1, (at_ es1 q).2) ((at_ es1 ((q - 1) / 2)).1, (at_ es1 ((q - 1) / 2)).2)) = false from decide_eq_false hlt]
      exact stay h2 f (.inr hlt)

/-- one child is looked at -/
theorem kid_ok {J : Int → Heap → Prop} (M : Mem h a p cap m es g) {b c : Nat} (hb : b < es.length)
    (k1 : es.length ≤ c → J b h) (k2 : c < es.length → lt (at_ es c) (at_ es b) → ∀ h', Fr (fun _ => False) h h' → J c h') (k3 : c < es.length → ¬ lt (at_ es c) (at_ es b) → ∀ h', Fr (fun _ => False) h h' → J b h') :
    JoinP (fun (t43 : Bool) (h_4 : Heap) =>
      JoinP (fun (best_2 : Int) (h_5 : Heap) =>
        J best_2 h_5)
      (fun J_2 =>
        if t43 = true then
          J_2 (c : Int) h_4
        else
          J_2 (b : Int) h_4))
    (fun J_1 =>
      ∃ (t24_p : Option Addr) (t24_l t24_c : Nat), hcell h ⟨a, 0, none⟩ = some (.slice t24_p t24_l t24_c) ∧
      if (decide ((c : Int) < ((t24_l : Nat) : Int))) = true then
        ∃ (t31_p : Option Addr) (t31_l t31_c : Nat), hcell h ⟨a, 0, none⟩ = some (.slice t31_p t31_l t31_c) ∧
        ((0 : Int) ≤ (c : Int) ∧ (c : Int) < ((t31_l : Nat) : Int)) ∧
        onSome t31_p fun a_1 =>
        ∃ (t34_0 : Int), hcell h (a_1.add (Int.toNat (c : Int) * 2)) = some (.int .i64 t34_0) ∧ ∃ (t34_1 : Int), hcell h ((a_1.add (Int.toNat (c : Int) * 2)).add 1) = some (.int .u64 t34_1) ∧
        ∃ (t38_p : Option Addr) (t38_l t38_c : Nat), hcell h ⟨a, 0, none⟩ = some (.slice t38_p t38_l t38_c) ∧
        ((0 : Int) ≤ (b : Int) ∧ (b : Int) < ((t38_l : Nat) : Int)) ∧
        onSome t38_p fun a_2 =>
        ∃ (t41_0 : Int), hcell h (a_2.add (Int.toNat (b : Int) * 2)) = some (.int .i64 t41_0) ∧ ∃ (t41_1 : Int), hcell h ((a_2.add (Int.toNat (b : Int) * 2)).add 1) = some (.int .u64 t41_1) ∧
        CallsH Tryz.prog F.alarm_ahead #[.agg #[.int .i64 t34_0, .int .u64 t34_1], .agg #[.int .i64 t41_0, .int .u64 t41_1]] h fun v h_6 =>
        ∃ (t42 : Bool), v = .bool t42 ∧
        hcell h_6 ⟨a, 0, none⟩ = some (.slice t38_p t38_l t38_c) ∧
        hcell h_6 ⟨a, 0, none⟩ = some (.slice t31_p t31_l t31_c) ∧
        hcell h_6 ⟨a, 0, none⟩ = some (.slice t24_p t24_l t24_c) ∧
        J_1 t42 h_6
      else
        J_1 false h) := by
  refine JoinP.of fun J1 hJ1 => ⟨_, _, _, M.hd, ?_⟩
  by_cases hc : c < es.length
  · have hc' : (c : Int) < (es.length : Int) := by omega
    simp only [hc', decide_true, if_true, Int.toNat_natCast]
    obtain ⟨ad, rfl⟩ := M.some (by omega)
    refine ⟨_, _, _, M.hd, ⟨by omega, by omega⟩, onSome_some.2 ⟨_, M.c0 hc, _, M.c1 hc, _, _, _, M.hd, ⟨by omega, by omega⟩, onSome_some.2 ⟨_, M.c0 hb, _, M.c1 hb, ahead_ok fun h2 f => ⟨_, rfl, (M.calm f).hd, (M.calm f).hd, (M.calm f).hd, ?_⟩⟩⟩⟩
    subst hJ1
    by_cases hlt : lt (at_ es c) (at_ es b)
    · rw [show decide (lt ((at_ es c).1, (at_ es c).2) ((at_ es b).1, (at_ es b).2)) = true from decide_eq_true hlt]
      simp only [if_true, JoinP]
      exact k2 hc hlt h2 f
    · rw [show decide (lt ((at_ es c).1, (at_ es c).2) ((at_ es b).1, (at_ es b).2)) = false from decide_eq_false hlt]
      simp only [Bool.false_eq_true, if_false, JoinP]
      exact k3 hc hlt h2 f
  · have hc' : ¬ (c : Int) < (es.length : Int) := by omega
    subst hJ1
    simp only [hc', decide_false, Bool.false_eq_true, if_false, JoinP]
    exact k1 (by omega)

def dnI (h0 : Heap) (a : Nat) (p : Option Addr) (cap m : Nat) (es0 : List E) (i : Int) (h : Heap) : Prop :=
  ∃ es g q, i = ((q : Nat) : Int) ∧ q < es0.length ∧ es.length = es0.length ∧ Mem h a p cap m es g ∧ PlaceOk es g ∧ es.Perm es0 ∧ ExDown (at_ es) es0.length q ∧ Fr (inner p m) h0 h
def kidI (h1 : Heap) (es : List E) (q : Nat) (best t : Int) (h : Heap) : Prop :=
  ∃ b k : Nat, best = b ∧ t = k ∧ k ≤ 2 ∧ b < es.length ∧ Fr (fun _ => False) h1 h ∧ (b ≠ q → (b - 1) / 2 = q ∧ 0 < b ∧ lt (at_ es b) (at_ es q)) ∧ ∀ c, 0 < c → c < es.length → c ≤ 2 * q + k → (c - 1) / 2 = q → le (at_ es b) (at_ es c)

theorem down_ok (M : Mem h a p cap m es g) (hP : PlaceOk es g) {i : Nat} (hi : i < es.length) (hn : es.length < 1000000) (ex : ExDown (at_ es) es.length i)
    (hk : ∀ h' es' g', Mem h' a p cap m es' g' → PlaceOk es' g' → es'.Perm es → es'.length = es.length → HeapO (at_ es') es.length → Fr (inner p m) h h' → R (.tuple #[]) h') :
    CallsH Tryz.prog F.alarm_Alarm_down #[.pointer (some ⟨a, 0, none⟩), .int .i64 (i : Int)] h R := by
  refine alarm_Alarm_down.walk ⟨dnI h a p cap m es, fun i _ => es.length - i.toNat, ⟨es, g, i, rfl, hi, rfl, M, hP, .refl _, ex, Fr.refl _ _⟩, ?_⟩
  rintro i1 h1 ⟨es1, g1, q, rfl, hq, hl, M1, P1, pm1, ex1, fr⟩
  have hq1 : q < es1.length := by omega
  rw [kid1_eq (by omega), kid2_eq (by omega)]
  refine ⟨kidI h1 es1 q, fun _ t _ => 2 - t.toNat, ⟨q, 0, rfl, rfl, by omega, hq1, Fr.refl _ _, fun hne => absurd rfl hne, fun c h1 h2 h3 h4 => by omega⟩, ?_⟩
  rintro best t h2 ⟨b, k, rfl, rfl, hk2, hb, f2, hbq, hall⟩
  have M2 := M1.calm f2
  by_cases hkk : k < 2
  · have hkk' : (k : Int) < 2 := by omega
    simp only [hkk', decide_true, if_true]
    rw [wrap_id (n := (k : Int) + 1) (by omega) (by omega)]
    refine JoinP.of fun J hJ => ⟨⟨by omega, by omega⟩, fun hk0 => ?_, fun hk1 => ?_, trivial⟩
    · obtain rfl : k = 0 := by omega
      refine kid_ok M2 hb (fun hc => ?_) (fun hc hlt h3 f3 => ?_) (fun hc hlt h3 f3 => ?_) <;> subst hJ <;> refine ⟨?_, by simp⟩
      · exact ⟨b, 1, rfl, rfl, by omega, hb, f2, hbq, fun c c1 c2 c3 c4 => by omega⟩
      · refine ⟨2 * q + 1, 1, rfl, rfl, by omega, hc, Fr.tt f2 f3, fun _ => ⟨by omega, by omega, ?_⟩, fun c c1 c2 c3 c4 => ?_⟩
        · by_cases e : b = q
          · rw [← e]; exact e ▸ hlt
          · exact lt_trans hlt (hbq e).2.2
        · have : c = 2 * q + 1 := by omega
          subst this; exact le_refl _
      · refine ⟨b, 1, rfl, rfl, by omega, hb, Fr.tt f2 f3, hbq, fun c c1 c2 c3 c4 => ?_⟩
        have : c = 2 * q + 1 := by omega
        subst this; exact hlt
    · obtain rfl : k = 1 := by omega
      refine kid_ok M2 hb (fun hc => ?_) (fun hc hlt h3 f3 => ?_) (fun hc hlt h3 f3 => ?_) <;> subst hJ <;> refine ⟨?_, by simp⟩
      · exact ⟨b, 2, rfl, rfl, by omega, hb, f2, hbq, fun c c1 c2 c3 c4 => hall c c1 c2 (by omega) c4⟩
      · refine ⟨2 * q + 2, 2, rfl, rfl, by omega, hc, Fr.tt f2 f3, fun _ => ⟨by omega, by omega, ?_⟩, fun c c1 c2 c3 c4 => ?_⟩
        · by_cases e : b = q
          · rw [← e]; exact e ▸ hlt
          · exact lt_trans hlt (hbq e).2.2
        · by_cases e : c = 2 * q + 2
          · subst e; exact le_refl _
          · exact le_trans (le_of_lt hlt) (hall c c1 c2 (by omega) c4)
      · refine ⟨b, 2, rfl, rfl, by omega, hb, Fr.tt f2 f3, hbq, fun c c1 c2 c3 c4 => ?_⟩
        by_cases e : c = 2 * q + 2
        · subst e; exact hlt
        · exact hall c c1 c2 (by omega) c4
  · obtain rfl : k = 2 := by omega
    simp only [show ¬ ((2 : Nat) : Int) < 2 by omega, decide_false, Bool.false_eq_true, if_false]
    by_cases e : b = q
    · subst e
      simp only [bne_self_eq_false, Bool.false_eq_true, if_false]
      refine hk h2 es1 g1 M2 P1 pm1 hl (heap_of_down ex1 fun j j1 j2 j3 => hall j j1 (by omega) (by omega) j3) (Fr.on fr f2)
    · obtain ⟨b1, b2, b3⟩ := hbq e
      have hne : ((b : Int) != (q : Int)) = true := by simp; omega
      simp only [hne, if_true, Int.toNat_natCast]
      obtain ⟨ad, rfl⟩ := M2.some (by omega)
      refine JoinP.of fun J1 hJ1 => ?_
      refine ⟨_, _, _, M2.hd, ⟨by omega, by omega⟩, onSome_some.2 ⟨_, M2.c0 hq1, _, M2.c1 hq1, _, _, _, M2.hd, ⟨by omega, by omega⟩, onSome_some.2 ⟨_, M2.c0 hb, _, M2.c1 hb, ?_⟩⟩⟩
      refine fork2 (fun h' f' => ?_) (fun x x' h' hx hx' sx sx' f' => ?_)
      · have M' := M2.calm f'
        exact ⟨⟨M'.c0 hb, M'.c1 hb, trivial⟩, M'.hd, ⟨M'.c0 hq1, M'.c1 hq1, trivial⟩, M'.hd⟩
      · subst hJ1
        have M3 := M2.calm f'
        refine swap_ok M3 P1 hq1 hb (fun x => e x.symm) hx hx' (fun hc => ?_) fun h5 g5 M5 P5 f5 => ⟨⟨swapL es1 q b, g5, b, rfl, by omega, by rw [swapL_len]; exact hl, M5, P5, (swapL_perm hq1 hb).trans pm1, ?_, Fr.tt fr (Fr.no f2 (Fr.no f' f5))⟩, ?_⟩
        · have := M2.lt (.inr hc); omega
        · rw [swapL_fun hq1 hb]
          exact down_move ex1 b1 b2 (by omega) b3 fun j j1 j2 j3 => hall j j1 (by omega) (by omega) j3
        · show es.length - Int.toNat (b : Int) < es.length - Int.toNat (q : Int)
          rw [Int.toNat_natCast, Int.toNat_natCast]; omega

end Alarm
end Go.Proofs.YtgccegnmggjkjaaGreatDoor

/-
  What is proved here: plain facts on heaps and lists: an entry is taken out, or put in. No program in sight. No condition.
-/
set_option maxRecDepth 100000
namespace Go.Heapq

theorem take_last {es : List E} {n : Nat} (hn : es.length = n + 1) : es = es.take n ++ [at_ es n] := by
  have h : n < es.length := by omega
  rw [at_get h]
  have := List.take_append_getElem h
  rw [this, List.take_of_length_le (by omega)]
theorem at_take {es : List E} {n i : Nat} (hi : i < n) : at_ (es.take n) i = at_ es i := by
  unfold at_
  rw [List.getD_eq_getElem?_getD, List.getD_eq_getElem?_getD, List.getElem?_take, if_pos hi]
theorem at_append {es : List E} {x : E} {i : Nat} : at_ (es ++ [x]) i = if i < es.length then at_ es i else if i = es.length then x else (0, 0) := by
  unfold at_
  rw [List.getD_eq_getElem?_getD, List.getD_eq_getElem?_getD]
  by_cases h : i < es.length
  · rw [List.getElem?_append_left h, if_pos h]
  · rw [List.getElem?_append_right (by omega), if_neg h]
    by_cases e : i = es.length
    · subst e; simp
    · rw [if_neg e, List.getElem?_eq_none (by simp; omega)]; rfl
theorem mem_keys {es : List E} {k : Int} (h : k ∈ keys es) : ∃ j, j < es.length ∧ (at_ es j).1 = k := by
  obtain ⟨e, he, rfl⟩ := List.mem_map.1 h
  obtain ⟨j, hj⟩ := List.getElem?_of_mem he
  have hl := (List.getElem?_eq_some_iff.1 hj).1
  rw [at_some hl] at hj
  exact ⟨j, hl, congrArg Prod.fst (Option.some.inj hj)⟩
theorem at_mem {es : List E} {j : Nat} (h : j < es.length) : at_ es j ∈ es := by rw [at_get h]; exact List.getElem_mem h
theorem keys_perm {l l' : List E} (h : l.Perm l') : (keys l).Perm (keys l') := h.map _

/-- entry j is gone; the last one stands in its place -/
def cut (es : List E) (n j : Nat) : List E := if j < n then (es.take n).set j (at_ es n) else es.take n
theorem cut_perm {es : List E} {n j : Nat} (hn : es.length = n + 1) (hj : j < es.length) : es.Perm (at_ es j :: cut es n j) := by
  unfold cut
  have hlen : (es.take n).length = n := by rw [List.length_take]; omega
  split
  · rename_i h
    have hT : j < (es.take n).length := by omega
    have e1 : at_ es j = (es.take n)[j] := by rw [← at_take h, at_get hT]
    have p1 : es.Perm (at_ es n :: es.take n) := by
      have : es.Perm (es.take n ++ [at_ es n]) := by rw [← take_last hn]
      exact this.trans (List.perm_append_singleton _ _)
    have p2 : (es.take n).Perm (at_ es j :: ((es.take n).take j ++ (es.take n).drop (j + 1))) := by
      rw [e1]
      have e2 : es.take n = (es.take n).take j ++ (es.take n)[j] :: (es.take n).drop (j + 1) := by rw [← List.drop_eq_getElem_cons hT, List.take_append_drop]
      have e3 : (es.take n).Perm ((es.take n).take j ++ (es.take n)[j] :: (es.take n).drop (j + 1)) := List.Perm.of_eq e2
      exact e3.trans List.perm_middle
    have p3 : ((es.take n).set j (at_ es n)).Perm (at_ es n :: ((es.take n).take j ++ (es.take n).drop (j + 1))) := by
      rw [List.set_eq_take_append_cons_drop, if_pos hT]
      exact List.perm_middle
    exact p1.trans ((p2.cons _).trans ((List.Perm.swap _ _ _).trans (p3.symm.cons _)))
  · have : j = n := by omega
    subst this
    have : es.Perm (es.take j ++ [at_ es j]) := by rw [← take_last hn]
    exact this.trans (List.perm_append_singleton _ _)
theorem cut_drop {es l : List E} {n j : Nat} (hn : es.length = n + 1) (hj : j < es.length) (hd : (keys es).Nodup) (hp : es.Perm l) : (cut es n j).Perm (dropK l (at_ es j).1) := by
  have h1 := cut_perm hn hj
  have hk : (at_ es j).1 ∉ keys (cut es n j) := by
    have := (keys_perm h1).nodup_iff.1 hd
    exact (List.nodup_cons.1 this).1
  have h2 := dropK_perm (h1.symm.trans hp) (at_ es j).1
  have h3 : dropK (at_ es j :: cut es n j) (at_ es j).1 = cut es n j := by
    have : dropK (at_ es j :: cut es n j) (at_ es j).1 = dropK (cut es n j) (at_ es j).1 := by
      unfold dropK; rw [List.filter_cons]; simp
    rw [this, dropK_none hk]
  rw [h3] at h2
  exact h2
theorem cut_len {es : List E} {n j : Nat} (hn : es.length = n + 1) : (cut es n j).length = n := by
  unfold cut
  split
  · rw [List.length_set, List.length_take]; omega
  · rw [List.length_take]; omega
theorem cut_at {es : List E} {n j i : Nat} (hn : es.length = n + 1) (hi : i < n) : at_ (cut es n j) i = if i = j then at_ es n else at_ es i := by
  have hlen : (es.take n).length = n := by rw [List.length_take]; omega
  unfold cut
  split
  · rw [at_set (by omega), at_take hi]
  · rw [at_take hi, if_neg (by omega)]
theorem cut_place {es : List E} {g : Int → Option Value} {n j : Nat} (h : PlaceOk es g) (hn : es.length = n + 1) (hj : j < es.length) :
    PlaceOk (cut es n j) (fun k => if j < n then (if k = (at_ es n).1 then some (.int .i64 j) else if k = (at_ es j).1 then none else g k) else if k = (at_ es j).1 then none else g k) := by
  obtain ⟨h1, h2, h3⟩ := h
  have hp := keys_perm (cut_perm hn hj)
  have hnd := hp.nodup_iff.1 h1
  refine ⟨(List.nodup_cons.1 hnd).2, fun i hi => ?_, fun k hk => ?_⟩
  · rw [cut_len hn] at hi
    rw [cut_at hn hi]
    by_cases e : i = j
    · subst e
      simp [hi]
    · rw [if_neg e]
      have n1 : (at_ es i).1 ≠ (at_ es n).1 := fun x => by have := key_inj h1 (by omega) (by omega) x; omega
      have n2 : (at_ es i).1 ≠ (at_ es j).1 := fun x => e (key_inj h1 (by omega) hj x)
      simp [n1, n2, h2 i (by omega)]
  · have hgo : ∀ k, k ∉ (cut es n j).map (·.1) → k ≠ (at_ es j).1 → g k = none := fun k hk hne => by
      refine h3 k fun hm => ?_
      rcases List.mem_cons.1 (hp.mem_iff.1 hm) with e | e
      · exact hne e
      · exact hk e
    by_cases hjn : j < n
    · have hl : (at_ es n).1 ∈ (cut es n j).map (·.1) := by
        have := at_mem (es := cut es n j) (j := j) (by rw [cut_len hn]; exact hjn)
        rw [cut_at hn hjn, if_pos rfl] at this
        exact List.mem_map_of_mem this
      have n1 : k ≠ (at_ es n).1 := fun e => hk (e ▸ hl)
      by_cases e : k = (at_ es j).1
      · subst e; simp [hjn, n1]
      · simp [hjn, n1, e, hgo k hk e]
    · by_cases e : k = (at_ es j).1
      · subst e; simp [hjn]
      · simp [hjn, e, hgo k hk e]
theorem cut_both {es : List E} {n j : Nat} (hn : es.length = n + 1) (hj : j < n) (hh : HeapO (at_ es) es.length) : ExBoth (at_ (cut es n j)) n j := by
  refine ⟨fun c h1 h2 h3 h4 => ?_, fun h0 c h1 h2 h3 => ?_⟩
  · rw [cut_at hn h2, cut_at hn (by omega), if_neg h3, if_neg h4]
    exact hh c h1 (by omega)
  · rw [cut_at hn h2, cut_at hn (by omega), if_neg (by omega), if_neg (by omega)]
    have := hh c h1 (by omega)
    rw [h3] at this
    exact le_trans (hh j h0 (by omega)) this
theorem cut_heap {es : List E} {n j : Nat} (hn : es.length = n + 1) (hj : ¬ j < n) (hh : HeapO (at_ es) es.length) : HeapO (at_ (cut es n j)) n := fun c h1 h2 => by
  rw [cut_at hn h2, cut_at hn (by omega), if_neg (by omega), if_neg (by omega)]
  exact hh c h1 (by omega)

theorem add_both {es : List E} {x : E} (hh : HeapO (at_ es) es.length) : ExBoth (at_ (es ++ [x])) (es.length + 1) es.length ∧ KidsOk (at_ (es ++ [x])) (es.length + 1) es.length := by
  refine ⟨⟨fun c h1 h2 h3 h4 => ?_, fun h0 c h1 h2 h3 => by omega⟩, fun c h1 h2 h3 => by omega⟩
  rw [at_append, at_append, if_pos (by omega), if_pos (by omega)]
  exact hh c h1 (by omega)
theorem add_place {es : List E} {g : Int → Option Value} {x : E} (h : PlaceOk es g) (hx : x.1 ∉ keys es) : PlaceOk (es ++ [x]) (fun k => if k = x.1 then some (.int .i64 es.length) else g k) := by
  obtain ⟨h1, h2, h3⟩ := h
  refine ⟨?_, fun i hi => ?_, fun k hk => ?_⟩
  · have : ((es ++ [x]).map (·.1)).Perm (x.1 :: es.map (·.1)) := by
      rw [List.map_append]; exact List.perm_append_singleton _ _
    exact this.nodup_iff.2 (List.nodup_cons.2 ⟨hx, h1⟩)
  · rw [List.length_append, List.length_singleton] at hi
    rw [at_append]
    by_cases e : i < es.length
    · rw [if_pos e]
      have : (at_ es i).1 ≠ x.1 := fun q => hx (q ▸ List.mem_map_of_mem (at_mem e))
      simp [this, h2 i e]
    · have : i = es.length := by omega
      subst this; simp
  · rw [List.map_append, List.mem_append] at hk
    have n1 : k ≠ x.1 := fun e => hk (.inr (by simp [e]))
    simp [n1, h3 k (fun hm => hk (.inl hm))]

/-- the time of a key -/
def lookK (l : List E) (k : Int) : Option Int := (l.find? (·.1 == k)).map (·.2)
theorem lookK_none {l : List E} {k : Int} (h : k ∉ keys l) : lookK l k = none := by
  unfold lookK
  rw [List.find?_eq_none.2 (fun e he hq => h (by have : e.1 = k := by simpa using hq
                                                 exact this ▸ List.mem_map_of_mem he))]
  rfl
theorem lookK_some {l : List E} {e : E} (hd : (keys l).Nodup) (he : e ∈ l) : lookK l e.1 = some e.2 := by
  unfold lookK
  induction l with
  | nil => cases he
  | cons x l ih =>
    rw [List.find?_cons]
    by_cases q : x.1 = e.1
    · rcases List.mem_cons.1 he with rfl | hm
      · simp
      · have : x.1 ∈ keys l := by rw [q]; exact List.mem_map_of_mem hm
        exact absurd this (List.nodup_cons.1 hd).1
    · have : (x.1 == e.1) = false := by simp [q]
      rw [this]
      rcases List.mem_cons.1 he with rfl | hm
      · exact absurd rfl q
      · exact ih (List.nodup_cons.1 hd).2 hm
theorem Sorted.head {e : E} {l : List E} (h : Sorted (e :: l)) : dropK (e :: l) e.1 = dropK l e.1 := by
  unfold dropK; rw [List.filter_cons]; simp
theorem dropK_head {e : E} {l : List E} (hd : (keys (e :: l)).Nodup) : dropK (e :: l) e.1 = l := by
  have h1 : dropK (e :: l) e.1 = dropK l e.1 := by unfold dropK; rw [List.filter_cons]; simp
  rw [h1, dropK_none (List.nodup_cons.1 hd).1]
end Go.Heapq

/-
  What is proved here: what the functions of package alarm do to an alarm in memory: it holds a list of entries in the order in which they are due. No condition.
-/
set_option maxRecDepth 100000
namespace Go.Proofs.YtgccegnmggjkjaaGreatDoor
open Go.Den Go.Heapq
namespace Alarm
variable {h : Heap} {a m cap : Nat} {p : Option Addr} {es : List E} {g : Int → Option Value} {R : Value → Heap → Prop} {S : Nat → Prop} {L : List E}

theorem tE : SlTy Tryz.prog T.s_alarm_entry T.alarm_entry 2 16 (.agg #[.int .i64 0, .int .u64 0]) := ⟨by kernel_rfl, by kernel_rfl, rfl⟩
theorem tI : SlTy Tryz.prog T.s_int T.int 1 8 (.int .i64 0) := ⟨by kernel_rfl, by kernel_rfl, rfl⟩

def Good (L : List E) : Prop := ∀ e ∈ L, 1 ≤ e.1 ∧ e.1 ≤ 1099511627776 ∧ 0 ≤ e.2 ∧ e.2 ≤ 1099511627776
/-- a is an alarm that lies in S and holds L -/
def Al (h : Heap) (a : Nat) (S : Nat → Prop) (L : List E) : Prop :=
  ∃ p cap m es g, Mem h a p cap m es g ∧ PlaceOk es g ∧ HeapO (at_ es) es.length ∧ es.Perm L ∧ Sorted L ∧ Good L ∧ ∀ c, S c ↔ foot a p m c
theorem Al.lt (A : Al h a S L) {c : Nat} (hc : S c) : c < h.size := by
  obtain ⟨p, cap, m, es, g, M, _, _, _, _, _, hS⟩ := A
  exact M.lt ((hS c).1 hc)
theorem Al.frame {Q : Nat → Prop} {h' : Heap} (A : Al h a S L) (hf : Fr Q h h') (hn : ∀ c, S c → ¬ Q c) : Al h' a S L := by
  obtain ⟨p, cap, m, es, g, M, P, H, pm, so, gd, hS⟩ := A
  exact ⟨p, cap, m, es, g, M.frame hf fun c hc => hn c ((hS c).2 hc), P, H, pm, so, gd, hS⟩
theorem Al.sorted (A : Al h a S L) : Sorted L := by
  obtain ⟨p, cap, m, es, g, M, P, H, pm, so, gd, hS⟩ := A; exact so
theorem Al.good (A : Al h a S L) : Good L := by
  obtain ⟨p, cap, m, es, g, M, P, H, pm, so, gd, hS⟩ := A; exact gd
theorem Al.nodup (A : Al h a S L) : (keys L).Nodup := by
  obtain ⟨p, cap, m, es, g, M, P, H, pm, so, gd, hS⟩ := A
  exact (keys_perm pm).nodup_iff.1 P.1

/-- an alarm that no call made -/
def Zero (h : Heap) (a : Nat) : Prop := h[a]? = some (.cells #[.slice none 0 0, .map none] T.alarm_Alarm (0, 0))

theorem made_ok (M : Mem h a p cap m es g) (hk : R (.bool true) h) : CallsH Tryz.prog F.alarm_Alarm_made #[.pointer (some ⟨a, 0, none⟩)] h R :=
  alarm_Alarm_made.walk ⟨some m, M.mp, hk⟩
theorem made_zero (Z : Zero h a) (hk : R (.bool false) h) : CallsH Tryz.prog F.alarm_Alarm_made #[.pointer (some ⟨a, 0, none⟩)] h R :=
  alarm_Alarm_made.walk ⟨none, cell_at Z rfl, hk⟩
theorem made_nil (hk : R (.bool false) h) : CallsH Tryz.prog F.alarm_Alarm_made #[.pointer none] h R := alarm_Alarm_made.nil.walk hk

theorem new_ok (hk : ∀ a S h', Al h' a S [] → (∀ c, S c → h.size ≤ c) → Fr (fun _ => False) h h' → R (.pointer (some ⟨a, 0, none⟩)) h') : CallsH Tryz.prog F.alarm_New #[] h R := by
  refine alarm_New.walk ?_
  rintro b h1 rfl rfl b1 h2 rfl rfl
  have f : Fr (fun _ => False) (h.push (.map #[] 0)) ((h.push (.map #[] 0)).push (.cells #[.slice none 0 0, .map (some h.size)] T.alarm_Alarm)) := Fr.push _ _
  refine hk _ (foot (h.push (.map #[] 0)).size none h.size) _ ⟨none, 0, h.size, [], fun _ => none, ⟨push_new, .nil rfl rfl rfl rfl, (MapF.push h).frame f id, ?_⟩, ⟨.nil, ?_, fun _ _ => rfl⟩, ?_, .refl _, .nil, ?_, fun _ => Iff.rfl⟩ ?_ (Fr.tt (Fr.push _ _) f)
  · rintro ⟨_, e, _⟩; cases e
  · intro j hj; simp at hj
  · intro j _ hj; simp at hj
  · intro e he; cases he
  · rintro c (rfl | rfl | ⟨_, e, _⟩)
    · simp
    · exact Nat.le_refl _
    · cases e

theorem len_ok (A : Al h a S L) (hk : R (.int .i64 (L.length : Int)) h) : CallsH Tryz.prog F.alarm_Alarm_Len #[.pointer (some ⟨a, 0, none⟩)] h R := by
  obtain ⟨p, cap, m, es, g, M, P, H, pm, so, gd, hS⟩ := A
  refine alarm_Alarm_Len.walk ⟨_, _, _, M.hd, ?_⟩
  rw [pm.length_eq]; exact hk
theorem len_zero (Z : Zero h a) (hk : R (.int .i64 0) h) : CallsH Tryz.prog F.alarm_Alarm_Len #[.pointer (some ⟨a, 0, none⟩)] h R :=
  alarm_Alarm_Len.walk ⟨_, _, _, cell_at Z rfl, hk⟩
theorem len_nil (hk : R (.int .i64 0) h) : CallsH Tryz.prog F.alarm_Alarm_Len #[.pointer none] h R := alarm_Alarm_Len.nil.walk hk

def hd (L : List E) : E := L.headD (0, 0)
theorem next_ok (A : Al h a S L) (hk : R (.tuple #[.int .i64 (hd L).1, .int .u64 (hd L).2, .bool (!L.isEmpty)]) h) : CallsH Tryz.prog F.alarm_Alarm_Next #[.pointer (some ⟨a, 0, none⟩)] h R := by
  refine alarm_Alarm_Next.walk (len_ok A ⟨_, rfl, ?_⟩)
  obtain ⟨p, cap, m, es, g, M, P, H, pm, so, gd, hS⟩ := A
  cases L with
  | nil => exact hk
  | cons e r =>
    have hl := pm.length_eq
    simp only [List.length_cons] at hl
    have hne : (((e :: r).length : Int) == 0) = false := by simp only [List.length_cons, beq_eq_false_iff_ne]; omega
    simp only [hne, Bool.false_eq_true, if_false]
    obtain ⟨ad, rfl⟩ := M.some (by omega)
    obtain ⟨r', hr⟩ := head_min pm so H (by omega)
    have he : at_ es 0 = e := (List.cons.inj hr).1.symm
    have c0 := M.c0 (i := 0) (by omega)
    have c1 := M.c1 (i := 0) (by omega)
    rw [he] at c0 c1
    refine ⟨_, _, _, M.hd, ⟨by omega, by omega⟩, onSome_some.2 ⟨_, c0, _, _, _, M.hd, ⟨by omega, by omega⟩, onSome_some.2 ⟨_, c1, hk⟩⟩⟩
theorem next_zero (Z : Zero h a) (hk : R (.tuple #[.int .i64 0, .int .u64 0, .bool false]) h) : CallsH Tryz.prog F.alarm_Alarm_Next #[.pointer (some ⟨a, 0, none⟩)] h R :=
  alarm_Alarm_Next.walk (len_zero Z ⟨_, rfl, hk⟩)
theorem next_nil (hk : R (.tuple #[.int .i64 0, .int .u64 0, .bool false]) h) : CallsH Tryz.prog F.alarm_Alarm_Next #[.pointer none] h R :=
  alarm_Alarm_Next.nil.walk (len_nil ⟨_, rfl, hk⟩)


/-- a local entry -/
theorem local1 {t : TypeId} {z0 z1 x0 x1 : Value} {K : Nat → Heap → Prop} (hk : ∀ b h', h'[b]? = some (.cells #[x0, x1] t (0, 0)) → h.size ≤ b → Fr (fun _ => False) h h' → K b h') :
    NewP h (.cells #[z0, z1] t) fun b h2 => StoreP h2 ⟨b, 0, none⟩ x0 fun h3 => StoreP h3 ⟨b, 1, none⟩ x1 fun h4 => K b h4 := by
  rintro b h2 rfl rfl
  refine storeP_blk push_new (by simp) fun h3 c3 s3 k3 => storeP_blk c3 (by simp) fun h4 c4 s4 k4 => hk _ h4 c4 (Nat.le_refl _) ⟨?_, fun c hc _ => ?_⟩
  · rw [s4, s3]; simp
  · rw [k4 c (by omega), k3 c (by omega)]; exact (Fr.push (S := fun _ => False) h _).2 c hc id

theorem drop_ok (A : Al h a S L) (hn : L.length < 1000000) (key : Int)
    (k1 : key ∈ keys L → ∀ h', Al h' a S (dropK L key) → Fr S h h' → R (.int .i64 0) h')
    (k2 : key ∉ keys L → R (.int .i64 4) h) : CallsH Tryz.prog F.alarm_Alarm_Drop #[.pointer (some ⟨a, 0, none⟩), .int .i64 key] h R := by
  obtain ⟨p, cap, m, es, g, M, P, H, pm, so, gd, hS⟩ := A
  have hlen := pm.length_eq
  refine alarm_Alarm_Drop.walk (made_ok M ⟨true, rfl, ?_⟩)
  simp only [Bool.not_true, Bool.false_eq_true, if_false]
  have lk := lookV_map_ok tm M.map key
  by_cases hm : key ∈ keys es
  · have k1 := k1 ((keys_perm pm).mem_iff.1 hm)
    clear k2
    obtain ⟨j, hj, rfl⟩ := mem_keys hm
    obtain ⟨n, hn1⟩ : ∃ n, es.length = n + 1 := ⟨es.length - 1, by omega⟩
    rw [P.2.1 j hj] at lk
    refine ⟨some m, M.mp, (j : Int), true, lk, ?_⟩
    simp only [Bool.not_true, Bool.false_eq_true, if_false]
    obtain ⟨b0, off, rfl⟩ := M.own.some (by rw [enc_len]; omega)
    refine ⟨_, _, _, M.hd, _, _, _, M.hd, ?_⟩
    rw [show IntKind.wrap .i64 ((es.length : Int) - 1) = (n : Int) by rw [wrap_id (by omega) (by omega)]; omega]
    simp only [Int.toNat_natCast]
    refine ⟨⟨by omega, by omega⟩, onSome_some.2 ⟨_, M.c0 (i := n) (by omega), _, M.c1 (i := n) (by omega), local1 fun b h4 hb sb f4 => ?_⟩⟩
    have M4 := M.calm f4
    have hle := M.own.le
    have hsl : slBase (some (⟨b0, off, none⟩ : Addr)) cap 0 2 = some ⟨b0, off, none⟩ := by
      unfold slBase; split
      · rfl
      · simp [add_blk]
    refine ⟨_, _, _, M4.hd, ⟨by omega, by omega⟩, storeP_blk M4.blk (by simp) fun h5 c5 s5 k5 => ?_⟩
    have f5 : Fr (fun c => c = a) h4 h5 := Fr.of_eq s5 k5
    have tl : (es.take n).length = n := by rw [List.length_take]; omega
    have M5 : Mem h5 a (some ⟨b0, off, none⟩) cap m (es.take n) g := by
      refine ⟨?_, ?_, M4.map.frame f5 (fun e => M.am e.symm), M.ne⟩
      · rw [c5, hsl, tl]; rfl
      · have o := (M4.own.frame f5 (fun c hc e => M.ne (e ▸ hc))).sub (l := 0) (u := n) (by omega) (by omega)
        rw [hsl, enc_take, Nat.zero_mul, List.drop_zero] at o
        rw [tl]; exact o
    refine ⟨some m, M5.mp, den_deleteF tm M5.map fun h6 m6 s6 k6 => ⟨rfl, ?_⟩⟩
    have f6 : Fr (fun c => c = m) h5 h6 := Fr.of_eq s6 k6
    have M6 : Mem h6 a (some ⟨b0, off, none⟩) cap m (es.take n) (fun x => if x = (at_ es j).1 then none else g x) :=
      ⟨f6.get M5.blk M.am, M5.own.frame f6 (fun c hc e => M.pm (e ▸ hc)), m6, M.ne⟩
    have fh6 : Fr (foot a (some ⟨b0, off, none⟩) m) h h6 := Fr.no f4 (f5.trans f6 (fun _ _ e => .inl e) (fun _ _ e => .inr (.inl e)))
    have hbn : ∀ c, foot a (some ⟨b0, off, none⟩) m c → b ≠ c := fun c hc e => by have := M.lt hc; omega
    have hb6 := f6.get (f5.get hb (hbn a (.inl rfl))) (hbn m (.inr (.inl rfl)))
    refine JoinP.of fun J hJ => ?_
    have done : ∀ h' es' g', Mem h' a (some ⟨b0, off, none⟩) cap m es' g' → PlaceOk es' g' → HeapO (at_ es') es'.length → es'.Perm (cut es n j) → Fr (foot a (some ⟨b0, off, none⟩) m) h h' → J h' := by
      intro h' es' g' M' P' H' pm' f'
      subst hJ
      exact k1 h' ⟨_, _, _, es', g', M', P', H', pm'.trans (cut_drop hn1 hj P.1 pm), so.drop _, fun e he => gd e (List.mem_filter.1 he).1, hS⟩ (f'.mono fun c _ hc => (hS c).2 hc)
    have pc := cut_place P hn1 hj
    have cl := cut_len (j := j) hn1
    by_cases hjn : j < n
    · have hjn' : (j : Int) < (n : Int) := by omega
      simp only [hjn, if_true] at pc
      simp only [hjn', decide_true, if_true]
      have ecut : (es.take n).set j ((at_ es n).1, (at_ es n).2) = cut es n j := by unfold cut; rw [if_pos hjn]
      refine ⟨_, cell_at hb6 rfl, _, cell_at hb6 rfl, put_ok M6 (by omega) fun h8 M8 f8 => ⟨rfl, ?_⟩⟩
      rw [ecut] at M8
      have ex := cut_both hn1 hjn H
      refine up_ok M8 pc (by omega) (by omega) (by rw [cl]; exact ex) fun h9 es9 g9 q M9 P9 pm9 l9 q9 at9 ex9 _ f9 => ⟨rfl, some m, M9.mp, ?_⟩
      have nin : ¬ inner (some ⟨b0, off, none⟩) m b := fun hc => hbn b (.inr hc) rfl
      have hb9 := f9.get (f8.get hb6 nin) nin
      have lk9 := lookV_map tm M9.map (at_ es n).1
      have e9 : at_ es9 q = at_ es n := by rw [at9, cut_at hn1 hjn, if_pos rfl]
      have g9' := P9.2.1 q (by omega)
      rw [e9] at g9'
      rw [g9'] at lk9
      refine ⟨_, cell_at hb9 rfl, (q : Int), lk9, ?_⟩
      rw [← l9] at ex9
      refine down_ok M9 P9 (by omega) (by omega) ex9 fun h10 es10 g10 M10 P10 pm10 l10 H10 f10 => ⟨rfl, cell_at (f10.get hb9 nin) rfl, M10.mp, ?_⟩
      rw [← l10] at H10
      exact done h10 es10 g10 M10 P10 H10 (pm10.trans pm9) (fh6.trans (Fr.tt f8 (Fr.tt f9 f10)) (fun _ _ => id) (fun _ _ hc => .inr hc))
    · have hjn' : ¬ (j : Int) < (n : Int) := by omega
      simp only [hjn, if_false] at pc
      simp only [hjn', decide_false, Bool.false_eq_true, if_false]
      have ecut : es.take n = cut es n j := by unfold cut; rw [if_neg hjn]
      rw [ecut] at M6
      have H' := cut_heap hn1 hjn H
      exact done h6 _ _ M6 pc (by rw [cl]; exact H') (.refl _) fh6
  · rw [P.2.2 key hm] at lk
    exact ⟨some m, M.mp, 0, false, lk, k2 fun hx => hm ((keys_perm pm).mem_iff.2 hx)⟩
theorem drop_nil (key : Int) (hk : R (.int .i64 6) h) : CallsH Tryz.prog F.alarm_Alarm_Drop #[.pointer none, .int .i64 key] h R :=
  alarm_Alarm_Drop.nil.walk (made_nil ⟨false, rfl, hk⟩)

/-- may this be set? -/
def may (key t : Int) : Bool := decide (1 ≤ key) && decide (key ≤ 1099511627776) && decide (t ≤ 1099511627776)
theorem may_iff {key t : Int} : may key t = true ↔ 1 ≤ key ∧ key ≤ 1099511627776 ∧ t ≤ 1099511627776 := by simp [may, and_assoc]
def setL (L : List E) (key t : Int) : List E := insertS (dropK L key) (key, t)
theorem dropK_len (L : List E) (key : Int) : (dropK L key).length ≤ L.length := List.length_filter_le _ _
theorem setL_len (L : List E) (key t : Int) : (setL L key t).length ≤ L.length + 1 := by
  have := (insertS_perm (dropK L key) (key, t)).length_eq
  have := dropK_len L key
  unfold setL
  simp only [List.length_cons] at *
  omega

theorem set_ok (A : Al h a S L) (hn : L.length < 999999) (key t : Int) (ht : 0 ≤ t)
    (k1 : may key t = true → ∀ h' S', Al h' a S' (setL L key t) → (∀ c, S' c → S c ∨ h.size ≤ c) → Fr S h h' → R (.int .i64 0) h')
    (k2 : may key t = false → R (.int .i64 1) h) : CallsH Tryz.prog F.alarm_Alarm_Set #[.pointer (some ⟨a, 0, none⟩), .int .i64 key, .int .u64 t] h R := by
  have A0 := A
  obtain ⟨p, cap, m, es, g, M, -, -, -, -, -, -⟩ := A
  refine alarm_Alarm_Set.walk (made_ok M ⟨true, rfl, ?_⟩)
  clear M
  simp only [Bool.not_true, Bool.false_eq_true, if_false]
  refine JoinP.of fun J hJ => ?_
  have no : may key t = false → J true h := fun hm => by subst hJ; exact k2 hm
  by_cases h1 : key < 1
  · simp only [h1, decide_true, if_true]
    exact no (by simp [may, show ¬ 1 ≤ key by omega])
  simp only [h1, decide_false, Bool.false_eq_true, if_false]
  by_cases h2 : key > 1099511627776
  · simp only [h2, decide_true, if_true]
    exact no (by simp [may, show ¬ key ≤ 1099511627776 by omega])
  simp only [h2, decide_false, Bool.false_eq_true, if_false]
  by_cases h3 : t > 1099511627776
  · simp only [h3, decide_true]
    exact no (by simp [may, show ¬ t ≤ 1099511627776 by omega])
  simp only [h3, decide_false]
  clear no k2
  have k1 := k1 (may_iff.2 ⟨by omega, by omega, by omega⟩)
  subst hJ
  simp only [Bool.false_eq_true, if_false]
  -- behind the drop
  have rest : ∀ h1 e, Al h1 a S (dropK L key) → Fr S h h1 → (∃ (t25 : Int), Value.int .i64 e = .int .i64 t25 ∧
        ∃ (t30_p : Option Addr) (t30_l t30_c : Nat), hcell h1 ⟨a, 0, none⟩ = some (.slice t30_p t30_l t30_c) ∧
        NewP h1 (.cells #[.int .i64 0, .int .u64 0] T.alarm_entry) fun b h_4 =>
        denSem Tryz.prog (Builtin.append_ #[T.s_alarm_entry, T.s_alarm_entry] T.s_alarm_entry #[.slice t30_p t30_l t30_c, .slice (some ⟨b, 0, none⟩) 1 1]) h_4 fun v_2 h_5 =>
        ∃ (t33_p : Option Addr) (t33_l t33_c : Nat), v_2 = .slice t33_p t33_l t33_c ∧
        StoreP h_5 ⟨a, 0, none⟩ (.slice t33_p t33_l t33_c) fun h_6 =>
        ∃ (t39_p : Option Addr) (t39_l t39_c : Nat), hcell h_6 ⟨a, 0, none⟩ = some (.slice t39_p t39_l t39_c) ∧
        CallsH Tryz.prog F.alarm_Alarm_put #[.pointer (some ⟨a, 0, none⟩), .int .i64 (IntKind.wrap .i64 (((t39_l : Nat) : Int) - 1)), .agg #[.int .i64 key, .int .u64 t]] h_6 fun v_3 h_7 =>
        v_3 = .tuple #[] ∧
        CallsH Tryz.prog F.alarm_Alarm_up #[.pointer (some ⟨a, 0, none⟩), .int .i64 (IntKind.wrap .i64 (((t39_l : Nat) : Int) - 1))] h_7 fun v_4 h_8 =>
        v_4 = .tuple #[] ∧
        R (.int .i64 0) h_8) := by
    intro h1 e A1 f1
    refine ⟨e, rfl, ?_⟩
    have kn := dropK_keys L key
    have dl := dropK_len L key
    obtain ⟨p, cap, m, es, g, M, P, H, pm, so, gd, hS⟩ := A1
    have hlen := pm.length_eq
    refine ⟨_, _, _, M.hd, ?_⟩
    rintro b h4 rfl rfl
    have fp : Fr (fun _ => False) h1 (h1.push (.cells #[.int .i64 0, .int .u64 0] T.alarm_entry)) := Fr.push _ _
    have row : Row (h1.push (.cells #[.int .i64 0, .int .u64 0] T.alarm_entry)) (some ⟨h1.size, 0, none⟩) (enc [(0, 0)]) := .inr ⟨_, rfl, heldL_blk push_new fun j v hj => by rw [Nat.zero_add]; simpa [enc] using hj⟩
    have sz4 : h1.size ≤ (h1.push (.cells #[.int .i64 0, .int .u64 0] T.alarm_entry)).size := fp.1
    have M4 := M.calm fp
    refine den_append tE (eT := T.alarm_entry) (by kernel_rfl) M4.own row rfl (enc_one _) (by omega) (by omega) fun p' cap' h5 o5 _ f5 gr => ⟨_, _, _, rfl, ?_⟩
    rw [← enc_append] at o5
    have b5 := f5.get M4.blk M.ne
    have ne' : ¬ inBlk p' a := fun hc => by
      rcases gr a hc with hx | hx
      · exact M.ne hx
      · have := lt_of_get M4.blk; omega
    have pm' : ¬ inBlk p' m := fun hc => by
      rcases gr m hc with hx | hx
      · exact M.pm hx
      · have := M4.map.lt; omega
    refine storeP_blk b5 (by simp) fun h6 c6 s6 k6 => ?_
    have f6 : Fr (fun c => c = a) h5 h6 := Fr.of_eq s6 k6
    have M6 : Mem h6 a p' cap' m (es ++ [(0, 0)]) g := by
      refine ⟨?_, ?_, (M4.map.frame f5 M.pm).frame f6 (fun e => M.am e.symm), ne'⟩
      · rw [c6, List.length_append]; rfl
      · rw [List.length_append]
        exact o5.frame f6 (fun c hc e => ne' (e ▸ hc))
    refine ⟨_, _, _, M6.hd, ?_⟩
    have ew : IntKind.wrap .i64 ((((es ++ [((0, 0) : E)]).length : Nat) : Int) - 1) = (es.length : Int) := by
      rw [List.length_append, List.length_singleton, wrap_id (by omega) (by omega)]; omega
    rw [ew]
    refine put_ok M6 (by rw [List.length_append, List.length_singleton]; omega) fun h7 M7 f7 => ⟨rfl, ?_⟩
    have es7 : (es ++ [((0, 0) : E)]).set es.length (key, t) = es ++ [(key, t)] := by
      rw [List.set_append_right _ _ (Nat.le_refl _)]; simp
    rw [es7] at M7
    have kn' : key ∉ keys es := fun hx => kn ((keys_perm pm).mem_iff.1 hx)
    have P7 := add_place (x := (key, t)) P kn'
    obtain ⟨ex, kd⟩ := add_both (x := (key, t)) H
    have l7 : (es ++ [(key, t)]).length = es.length + 1 := by simp
    rw [← l7] at ex kd
    refine up_ok M7 P7 (by omega) (by omega) ex fun h8 es8 g8 q M8 P8 pm8 l8 _ _ _ H8 f8 => ⟨rfl, ?_⟩
    have H8 := H8 kd
    rw [← l8] at H8
    have gf : ∀ c, foot a p' m c → S c ∨ h.size ≤ c := by
      rintro c (rfl | rfl | hc)
      · exact .inl ((hS _).2 (.inl rfl))
      · exact .inl ((hS _).2 (.inr (.inl rfl)))
      · rcases gr c hc with hx | hx
        · exact .inl ((hS _).2 (.inr (.inr hx)))
        · have := f1.1; exact .inr (by omega)
    refine k1 h8 (foot a p' m) ⟨p', cap', m, es8, g8, M8, P8, H8, ?_, so.insert _ kn, ?_, fun _ => Iff.rfl⟩ gf ?_
    · exact pm8.trans ((List.perm_append_singleton _ _).trans ((pm.cons _).trans (insertS_perm _ _).symm))
    · intro e he
      rcases List.mem_cons.1 ((insertS_perm _ _).mem_iff.1 he) with rfl | hx
      · exact ⟨by simp only; omega, by simp only; omega, ht, by simp only; omega⟩
      · exact gd e hx
    · have in_S : ∀ c, c < h1.size → foot a p' m c → S c := fun c hc hx => by
        rcases hx with rfl | rfl | hx
        · exact (hS _).2 (.inl rfl)
        · exact (hS _).2 (.inr (.inl rfl))
        · rcases gr c hx with hy | hy
          · exact (hS _).2 (.inr (.inr hy))
          · omega
      have g1 : Fr S h1 h5 := Fr.no fp (f5.mono fun c _ hc => (hS c).2 (.inr (.inr hc)))
      have g2 : Fr S h1 h6 := g1.trans f6 (fun _ _ => id) (fun c _ e => (hS c).2 (.inl e))
      have g3 : Fr S h1 h8 := g2.trans (Fr.tt f7 f8) (fun _ _ => id) (fun c hc hx => in_S c hc (.inr hx))
      exact Fr.tt f1 g3
  refine drop_ok A0 (by omega) key (fun hm h1 A1 f1 => rest h1 0 A1 f1) (fun hm => ?_)
  refine rest h 4 ?_ (Fr.refl _ _)
  rw [dropK_none hm]
  exact A0
theorem set_zero (Z : Zero h a) (key t : Int) (hk : R (.int .i64 6) h) : CallsH Tryz.prog F.alarm_Alarm_Set #[.pointer (some ⟨a, 0, none⟩), .int .i64 key, .int .u64 t] h R :=
  alarm_Alarm_Set.walk (made_zero Z ⟨false, rfl, hk⟩)
theorem set_nil (key t : Int) (hk : R (.int .i64 6) h) : CallsH Tryz.prog F.alarm_Alarm_Set #[.pointer none, .int .i64 key, .int .u64 t] h R :=
  alarm_Alarm_Set.nil.walk (made_nil ⟨false, rfl, hk⟩)

end Alarm
end Go.Proofs.YtgccegnmggjkjaaGreatDoor

/-
  What is proved here: 'Ring' and 'All' of package alarm tell the keys in the order in which they are due; the law's fixed calls. No condition.
-/
set_option maxRecDepth 100000
namespace Go.Proofs.YtgccegnmggjkjaaGreatDoor
open Go.Den Go.Heapq
namespace Alarm
variable {h : Heap} {a m cap : Nat} {p : Option Addr} {es : List E} {g : Int → Option Value} {R : Value → Heap → Prop} {S : Nat → Prop} {L : List E}

def isDue (now : Int) (e : E) : Bool := decide (e.2 ≤ now)
def due (L : List E) (now : Int) : List E := L.takeWhile (isDue now)
def rest (L : List E) (now : Int) : List E := L.dropWhile (isDue now)
/-- keys as cells -/
def kc (L : List E) : List Value := (keys L).map (.int .i64 ·)
theorem kc_len : (kc L).length = L.length := by simp [kc, keys]
theorem due_split {D T : List E} {now : Int} (hd : ∀ e ∈ D, isDue now e = true) (ht : ∀ e r, T = e :: r → isDue now e = false) : due (D ++ T) now = D ∧ rest (D ++ T) now = T := by
  unfold due rest
  induction D with
  | nil =>
    cases T with
    | nil => exact ⟨rfl, rfl⟩
    | cons e r => simp [List.takeWhile, List.dropWhile, ht e r rfl]
  | cons d D ih =>
    have h1 := hd d List.mem_cons_self
    obtain ⟨i1, i2⟩ := ih fun e he => hd e (List.mem_cons_of_mem _ he)
    simp only [List.cons_append, List.takeWhile_cons, List.dropWhile_cons, h1, if_true]
    exact ⟨by rw [i1], i2⟩

def ringI (h0 : Heap) (a : Nat) (S : Nat → Prop) (L : List E) (now : Int) (out : Option Addr) (l c : Nat) (key t : Int) (is : Bool) (h : Heap) : Prop :=
  ∃ D T, L = D ++ T ∧ (∀ e ∈ D, isDue now e = true) ∧ Al h a S T ∧ key = (hd T).1 ∧ t = (hd T).2 ∧ is = !T.isEmpty ∧ l = D.length ∧ Own h out l c 1 (kc D) ∧ (∀ x, inBlk out x → h0.size ≤ x) ∧ Fr S h0 h

theorem ring_ok (A : Al h a S L) (hn : L.length < 999999) (now : Int)
    (hk : ∀ h' p' cap', Al h' a S (rest L now) → Own h' p' (due L now).length cap' 1 (kc (due L now)) → (∀ c, inBlk p' c → h.size ≤ c) → Fr S h h' → R (.slice p' (due L now).length cap') h') :
    CallsH Tryz.prog F.alarm_Alarm_Ring #[.pointer (some ⟨a, 0, none⟩), .int .u64 now] h R := by
  refine alarm_Alarm_Ring.walk (next_ok A ⟨_, _, _, rfl, ?_⟩)
  refine ⟨ringI h a S L now, fun _ l _ _ _ _ _ => L.length - l, ⟨[], L, rfl, (fun _ he => by cases he), A, rfl, rfl, rfl, rfl, .nil rfl rfl rfl rfl, (fun c ⟨_, e, _⟩ => by cases e), Fr.refl _ _⟩, ?_⟩
  rintro out l c key t is h2 ⟨D, U, eL, hD, A2, rfl, rfl, rfl, rfl, o2, ob, f2⟩
  refine JoinP.of fun J hJ => ?_
  have stop : (∀ e r, U = e :: r → isDue now e = false) → J false h2 := fun ht => by
    subst hJ
    simp only [Bool.false_eq_true, if_false]
    obtain ⟨e1, e2⟩ := due_split hD ht
    rw [← eL] at e1 e2
    rw [← e1]
    rw [← e1] at o2
    exact hk h2 out c (by rw [e2]; exact A2) o2 ob f2
  cases U with
  | nil => exact stop (fun e r x => by cases x)
  | cons e U =>
    simp only [List.isEmpty_cons, Bool.not_false, if_true]
    by_cases hdue : e.2 ≤ now
    · rw [show decide ((hd (e :: U)).2 ≤ now) = true from decide_eq_true hdue]
      subst hJ
      simp only [if_true]
      rintro b h4 rfl rfl
      have hlen : L.length = D.length + (U.length + 1) := by rw [eL]; simp
      have fp : Fr (fun _ => False) h2 (h2.push (.cells #[.int .i64 (hd (e :: U)).1] T.int)) := Fr.push _ _
      have row : Row (h2.push (.cells #[.int .i64 (hd (e :: U)).1] T.int)) (some ⟨h2.size, 0, none⟩) (kc [e]) := .inr ⟨_, rfl, heldL_blk push_new fun j v hj => by rw [Nat.zero_add]; simpa [kc, keys, hd] using hj⟩
      have sz : h2.size ≤ (h2.push (.cells #[.int .i64 (hd (e :: U)).1] T.int)).size := fp.1
      refine den_append tI (eT := T.int) (by kernel_rfl) (o2.frame fp fun _ _ => id) row rfl (fun v hv => by simp [kc, keys] at hv; subst hv; rfl) (by omega) (by omega) fun p' cap' h5 o5 _ f5 gr => ⟨_, _, _, rfl, ?_⟩
      have ekc : kc D ++ kc [e] = kc (D ++ [e]) := by simp [kc, keys]
      rw [ekc] at o5
      have hSlt : ∀ {c}, S c → c < h.size := fun hc => A.lt hc
      have A5 := (A2.frame fp fun _ _ => id).frame f5 (fun c hc hx => by have := ob c hx; have := hSlt hc; omega)
      have ob5 : ∀ c, inBlk p' c → h.size ≤ c := fun c hc => by
        rcases gr c hc with hx | hx
        · exact ob c hx
        · have := f2.1; omega
      have f25 : Fr S h h5 := f2.trans (Fr.no fp f5) (fun _ _ => id) (fun c hc hx => by have := ob c hx; omega)
      refine drop_ok A5 (by simp; omega) _ (fun _ h6 A6 f6 => ⟨_, rfl, ?_⟩) (fun hno => absurd (by exact List.mem_cons_self) hno)
      rw [show dropK (e :: U) (hd (e :: U)).1 = U from dropK_head A5.nodup] at A6
      refine next_ok A6 ⟨_, _, _, rfl, ⟨D ++ [e], U, by rw [eL]; simp, ?_, A6, rfl, rfl, rfl, by simp, ?_, ob5, Fr.tt f25 f6⟩, ?_⟩
      · intro x hx
        rcases List.mem_append.1 hx with hx | hx
        · exact hD x hx
        · simp at hx; subst hx; exact decide_eq_true hdue
      · exact o5.frame f6 fun c hc hx => by have := ob5 c hc; have := hSlt hx; omega
      · show L.length - (D.length + 1) < L.length - D.length
        omega
    · rw [show decide ((hd (e :: U)).2 ≤ now) = false from decide_eq_false hdue]
      exact stop fun e' r x => by cases x; exact decide_eq_false hdue
theorem ring_zero (Z : Zero h a) (now : Int) (hk : R (.slice none 0 0) h) : CallsH Tryz.prog F.alarm_Alarm_Ring #[.pointer (some ⟨a, 0, none⟩), .int .u64 now] h R := by
  refine alarm_Alarm_Ring.walk (next_zero Z ⟨_, _, _, rfl, ?_⟩)
  refine ⟨fun p l c _ _ is h' => p = none ∧ l = 0 ∧ c = 0 ∧ is = false ∧ h' = h, fun _ _ _ _ _ _ _ => 0, ⟨rfl, rfl, rfl, rfl, rfl⟩, ?_⟩
  rintro _ _ _ _ _ _ _ ⟨rfl, rfl, rfl, rfl, rfl⟩
  simp only [Bool.false_eq_true, if_false, JoinP]
  exact hk

theorem due_all (hg : Good L) : due L 1099511627776 = L ∧ rest L 1099511627776 = [] := by
  have := due_split (D := L) (T := []) (now := 1099511627776) (fun e he => decide_eq_true (hg e he).2.2.2) (fun e r x => by cases x)
  rwa [List.append_nil] at this

theorem key_at {p : Option Addr} {l c : Nat} (o : Own h p l c 1 (kc L)) {i : Nat} (hi : i < L.length) : ∃ ad, p = some ad ∧ hcell h (ad.add (i * 1)) = some (.int .i64 (at_ L i).1) := by
  have hc : (kc L)[i]? = some (.int .i64 (at_ L i).1) := by simp [kc, keys, at_, hi]
  obtain ⟨b, off, rfl⟩ := o.some (by rw [kc_len]; omega)
  exact ⟨_, rfl, by rw [Nat.mul_one]; exact o.cell hc⟩

end Alarm
end Go.Proofs.YtgccegnmggjkjaaGreatDoor

/-
  Printed by a program of this work (vc.py): the verification conditions of functions, and that each is enough for the call. No condition.
-/
set_option maxRecDepth 100000
set_option maxHeartbeats 4000000
namespace Go.Proofs.YtgccegnmggjkjaaGreatDoor
open Go.Den
def copies_New.vc  (h : Heap) (R : Value → Heap → Prop) : Prop :=
  NewP h (.map #[] 0) fun b h_1 =>
  CallsH Tryz.prog F.alarm_New #[] h_1 fun v h_2 =>
  ∃ (t2 : Option Addr), v = .pointer t2 ∧
  CallsH Tryz.prog F.alarm_New #[] h_2 fun v_1 h_3 =>
  ∃ (t3 : Option Addr), v_1 = .pointer t3 ∧
  NewP h_3 (.cells #[.map (some b), .int .i64 1, .int .i64 0, .int .i64 0, .int .i64 0, .pointer t2, .pointer t3] T.copies_Table) fun b_1 h_4 =>
  R (.pointer (some ⟨b_1, 0, none⟩)) h_4
theorem copies_New.den_eq  (h : Heap) (R : Value → Heap → Prop) : copies_New.vc h R = den Tryz.prog Tryz.f9.ntmps (.seq .leaf (.seq .leaf .leaf)) none (bodyOf Tryz.f9) (retK Tryz.prog Tryz.f9.results R) (argEnv []) h := by kernel_rfl
theorem copies_New.walk  {h : Heap} {R : Value → Heap → Prop} (hv : copies_New.vc h R) : CallsH Tryz.prog F.copies_New #[] h R :=
  callsH_of_body _ Tryz.func9 rfl rfl (Eq.mp (copies_New.den_eq h R) hv)

def copies_Table_made.vc (t : Nat) (h : Heap) (R : Value → Heap → Prop) : Prop :=
  ∃ (t9 : Option Nat), hcell h ⟨t, 0, none⟩ = some (.map t9) ∧
  R (.bool (!t9.isNone)) h
theorem copies_Table_made.den_eq (t : Nat) (h : Heap) (R : Value → Heap → Prop) : copies_Table_made.vc t h R = den Tryz.prog Tryz.f69.ntmps (.seq .leaf (.seq .leaf .leaf)) none (bodyOf Tryz.f69) (retK Tryz.prog Tryz.f69.results R) (argEnv [.pointer (some ⟨t, 0, none⟩)]) h := by kernel_rfl
theorem copies_Table_made.walk {t : Nat} {h : Heap} {R : Value → Heap → Prop} (hv : copies_Table_made.vc t h R) : CallsH Tryz.prog F.copies_Table_made #[.pointer (some ⟨t, 0, none⟩)] h R :=
  callsH_of_body _ Tryz.func69 rfl rfl (Eq.mp (copies_Table_made.den_eq t h R) hv)

def copies_Table_made.nil.vc  (h : Heap) (R : Value → Heap → Prop) : Prop :=
  R (.bool false) h
theorem copies_Table_made.nil.den_eq  (h : Heap) (R : Value → Heap → Prop) : copies_Table_made.nil.vc h R = den Tryz.prog Tryz.f69.ntmps (.seq .leaf (.seq .leaf .leaf)) none (bodyOf Tryz.f69) (retK Tryz.prog Tryz.f69.results R) (argEnv [.pointer none]) h := by kernel_rfl
theorem copies_Table_made.nil.walk  {h : Heap} {R : Value → Heap → Prop} (hv : copies_Table_made.nil.vc h R) : CallsH Tryz.prog F.copies_Table_made #[.pointer none] h R :=
  callsH_of_body _ Tryz.func69 rfl rfl (Eq.mp (copies_Table_made.nil.den_eq h R) hv)

def copies_Table_numbers.vc (t : Nat) (h : Heap) (R : Value → Heap → Prop) : Prop :=
  CallsH Tryz.prog F.copies_Table_made #[.pointer (some ⟨t, 0, none⟩)] h fun v h_1 =>
  ∃ (t6 : Bool), v = .bool t6 ∧
  JoinP (fun (out_p : Option Addr) (out_l out_c : Nat) (h_2 : Heap) =>
    CallsH Tryz.prog F.slices_Sort_s_int_int #[.slice out_p out_l out_c] h_2 fun v_1 h_3 =>
    v_1 = .tuple #[] ∧
    R (.slice out_p out_l out_c) h_3)
  (fun J =>
    if t6 = true then
      ∃ (t10 : Option Nat), hcell h_1 ⟨t, 0, none⟩ = some (.map t10) ∧
      denSem Tryz.prog (Instr.range T.m_int_p_copies_Copy (.map t10)) h_1 fun v_2 h_4 =>
      ∃ (it : Nat), v_2 = .pointer (some ⟨it, 0, none⟩) ∧
      ∃ (I : Option Addr → Nat → Nat → Heap → Prop) (mu : Option Addr → Nat → Nat → Heap → Nat), I none 0 0 h_4 ∧ ∀ (out_p_1 : Option Addr) (out_l_1 out_c_1 : Nat) (h_5 : Heap), I out_p_1 out_l_1 out_c_1 h_5 →
        denSem Tryz.prog (Instr.next (.pointer (some ⟨it, 0, none⟩)) false T.tup_) h_5 fun v_3 h_6 =>
        (v_3 = .tuple #[.bool false] ∧
          J out_p_1 out_l_1 out_c_1 h_6) ∨
        (  ∃ (t12_k t12_v : Value), v_3 = .tuple #[.bool true, t12_k, t12_v] ∧
          denSem Tryz.prog (Instr.entry (.pointer (some ⟨it, 0, none⟩))) h_6 fun v_4 h_7 =>
          ∃ (t14_k t14_v : Value), v_4 = .tuple #[t14_k, t14_v] ∧
          ∃ (t15 : Int), t14_k = .int .i64 t15 ∧
          NewP h_7 (.cells #[.int .i64 t15] T.int) fun b h_8 =>
          denSem Tryz.prog (Builtin.append_ #[T.s_int, T.s_int] T.s_int #[.slice out_p_1 out_l_1 out_c_1, .slice (some ⟨b, 0, none⟩) 1 1]) h_8 fun v_5 h_9 =>
          ∃ (t19_p : Option Addr) (t19_l t19_c : Nat), v_5 = .slice t19_p t19_l t19_c ∧
          (I t19_p t19_l t19_c h_9 ∧ mu t19_p t19_l t19_c h_9 < mu out_p_1 out_l_1 out_c_1 h_5))
    else
      J none 0 0 h_1)
theorem copies_Table_numbers.den_eq (t : Nat) (h : Heap) (R : Value → Heap → Prop) : copies_Table_numbers.vc t h R = den Tryz.prog Tryz.f77.ntmps (.seq .leaf (.seq .leaf (.seq (.seq .leaf (.join [(3, .one (.slice))] (.cond (.seq .leaf (.block (.loop [(3, .one (.slice))] (.seq .leaf (.seq (.cond .leaf .leaf) (.block (.seq (.typed [(15, .one (.int .i64))]) .leaf))))))) .leaf))) (.seq .leaf (.seq .leaf .leaf))))) none (bodyOf Tryz.f77) (retK Tryz.prog Tryz.f77.results R) (argEnv [.pointer (some ⟨t, 0, none⟩)]) h := by kernel_rfl
theorem copies_Table_numbers.walk {t : Nat} {h : Heap} {R : Value → Heap → Prop} (hv : copies_Table_numbers.vc t h R) : CallsH Tryz.prog F.copies_Table_numbers #[.pointer (some ⟨t, 0, none⟩)] h R :=
  callsH_of_body _ Tryz.func77 rfl rfl (Eq.mp (copies_Table_numbers.den_eq t h R) hv)

def copies_Table_numbers.nil.vc  (h : Heap) (R : Value → Heap → Prop) : Prop :=
  CallsH Tryz.prog F.copies_Table_made #[.pointer none] h fun v h_1 =>
  ∃ (t6 : Bool), v = .bool t6 ∧
  JoinP (fun (out_p : Option Addr) (out_l out_c : Nat) (h_2 : Heap) =>
    CallsH Tryz.prog F.slices_Sort_s_int_int #[.slice out_p out_l out_c] h_2 fun v_1 h_3 =>
    v_1 = .tuple #[] ∧
    R (.slice out_p out_l out_c) h_3)
  (fun J =>
    if t6 = true then
      False
    else
      J none 0 0 h_1)
theorem copies_Table_numbers.nil.den_eq  (h : Heap) (R : Value → Heap → Prop) : copies_Table_numbers.nil.vc h R = den Tryz.prog Tryz.f77.ntmps (.seq .leaf (.seq .leaf (.seq (.seq .leaf (.join [(3, .one (.slice))] (.cond (.seq .leaf (.block (.loop [(3, .one (.slice))] (.seq .leaf (.seq (.cond .leaf .leaf) (.block (.seq (.typed [(15, .one (.int .i64))]) .leaf))))))) .leaf))) (.seq .leaf (.seq .leaf .leaf))))) none (bodyOf Tryz.f77) (retK Tryz.prog Tryz.f77.results R) (argEnv [.pointer none]) h := by kernel_rfl
theorem copies_Table_numbers.nil.walk  {h : Heap} {R : Value → Heap → Prop} (hv : copies_Table_numbers.nil.vc h R) : CallsH Tryz.prog F.copies_Table_numbers #[.pointer none] h R :=
  callsH_of_body _ Tryz.func77 rfl rfl (Eq.mp (copies_Table_numbers.nil.den_eq h R) hv)

def copies_Table_of_1.vc (n : Int) (c0 : Nat) (c1 : Nat) (h : Heap) (R : Value → Heap → Prop) : Prop :=
  ∃ (t5 : Option Addr), hcell h ⟨c0, 0, none⟩ = some (.pointer t5) ∧
  onSome t5 fun a =>
  ∃ (t8 : Option Nat), hcell h a = some (.map t8) ∧
  ∃ (t10 : Option Addr), LookV Tryz.prog T.m_int_p_copies_Copy (.map t8) (.int .i64 n) false h (.pointer t10) ∧
  onSome t10 fun a_1 =>
  eid_Eid.LD h (a_1.add 1) fun t13_0 t13_1 t13_2 t13_3 t13_4 =>
  eid_Eid.LD h ⟨c1, 0, none⟩ fun t14_0 t14_1 t14_2 t14_3 t14_4 =>
  ∃ (eq : Bool), EqV Tryz.prog T.eid_Eid (.agg #[.bool t13_0, .int .u64 t13_1, .int .u64 t13_2, .string t13_3, .string t13_4]) (.agg #[.bool t14_0, .int .u64 t14_1, .int .u64 t14_2, .string t14_3, .string t14_4]) eq ∧
  R (.bool (!eq)) h
theorem copies_Table_of_1.den_eq (n : Int) (c0 : Nat) (c1 : Nat) (h : Heap) (R : Value → Heap → Prop) : copies_Table_of_1.vc n c0 c1 h R = den Tryz.prog Tryz.f144.ntmps (.seq .leaf (.seq (.plan (.op 0 (.op 1 (.op 2 (.op 3 (.op 4 (.op 5 (.op 6 (.op 7 (.op 8 (.op 9 (.op 10 (.op 11 .done))))))))))))) .leaf)) none (bodyOf Tryz.f144) (retK Tryz.prog Tryz.f144.results R) (argEnv [.int .i64 n, .pointer (some ⟨c0, 0, none⟩), .pointer (some ⟨c1, 0, none⟩)]) h := by kernel_rfl
theorem copies_Table_of_1.walk {n : Int} {c0 : Nat} {c1 : Nat} {h : Heap} {R : Value → Heap → Prop} (hv : copies_Table_of_1.vc n c0 c1 h R) : CallsH Tryz.prog F.copies_Table_of_1 #[.int .i64 n, .pointer (some ⟨c0, 0, none⟩), .pointer (some ⟨c1, 0, none⟩)] h R :=
  callsH_of_body _ Tryz.func144 rfl rfl (Eq.mp (copies_Table_of_1.den_eq n c0 c1 h R) hv)

def slices_DeleteFunc_s_int_int.of.vc (s_p : Option Addr) (s_l s_c : Nat) (del_c : Nat) (del_c_1 : Nat) (h : Heap) (R : Value → Heap → Prop) : Prop :=
  CallsH Tryz.prog F.slices_IndexFunc_s_int_int #[.slice s_p s_l s_c, .func (.func F.copies_Table_of_1) #[] #[.pointer (some ⟨del_c, 0, none⟩), .pointer (some ⟨del_c_1, 0, none⟩)]] h fun v h_1 =>
  ∃ (t10 : Int), v = .int .i64 t10 ∧
  if (t10 == (-1)) = true then
    R (.slice s_p s_l s_c) h_1
  else
    ∃ (I : Int → Int → Heap → Prop) (mu : Int → Int → Heap → Nat), I t10 (IntKind.wrap .i64 (t10 + 1)) h_1 ∧ ∀ (i : Int) (j : Int) (h_2 : Heap), I i j h_2 →
      if (decide (j < ((s_l : Nat) : Int))) = true then
        JoinP (fun (i_1 : Int) (h_3 : Heap) =>
          (I i_1 (IntKind.wrap .i64 (j + 1)) h_3 ∧ mu i_1 (IntKind.wrap .i64 (j + 1)) h_3 < mu i j h_2))
        (fun J =>
          ((0 : Int) ≤ j ∧ j < ((s_l : Nat) : Int)) ∧
          onSome s_p fun a =>
          ∃ (t25 : Int), hcell h_2 (a.add (Int.toNat j * 1)) = some (.int .i64 t25) ∧
          CallsH Tryz.prog F.copies_Table_of_1 #[.int .i64 t25, .pointer (some ⟨del_c, 0, none⟩), .pointer (some ⟨del_c_1, 0, none⟩)] h_2 fun v_1 h_4 =>
          ∃ (t28 : Bool), v_1 = .bool t28 ∧
          JoinP (fun (i_2 : Int) (h_5 : Heap) =>
            J i_2 h_5)
          (fun J_1 =>
            if (!t28) = true then
              ((0 : Int) ≤ i ∧ i < ((s_l : Nat) : Int)) ∧
              onSome s_p fun a_1 =>
              StoreP h_4 (a_1.add (Int.toNat i * 1)) (.int .i64 t25) fun h_6 =>
              J_1 (IntKind.wrap .i64 (i + 1)) h_6
            else
              J_1 i h_4))
      else
        ((0 : Int) ≤ i ∧ i ≤ ((s_l : Nat) : Int)) ∧ 
        denSem Tryz.prog (Builtin.clear_ #[T.s_int] T.tup_ #[.slice (slBase s_p s_c (Int.toNat i) 1) (s_l - (Int.toNat i)) (s_c - (Int.toNat i))]) h_2 fun v_2 h_7 =>
        v_2 = .tuple #[] ∧
        ((0 : Int) ≤ i ∧ i ≤ ((s_c : Nat) : Int)) ∧ 
        R (.slice (slBase s_p s_c 0 1) ((Int.toNat i) - 0) (s_c - 0)) h_7
theorem slices_DeleteFunc_s_int_int.of.den_eq (s_p : Option Addr) (s_l s_c : Nat) (del_c : Nat) (del_c_1 : Nat) (h : Heap) (R : Value → Heap → Prop) : slices_DeleteFunc_s_int_int.of.vc s_p s_l s_c del_c del_c_1 h R = den Tryz.prog Tryz.f143.ntmps (.seq .leaf (.seq .leaf (.seq (.seq .leaf (.cond (.seq .leaf .leaf) .leaf)) (.seq (.seq .leaf (.block (.loop [(5, .one (.int .i64)), (6, .one (.int .i64))] (.seq (.seq .leaf (.cond .leaf .leaf)) (.seq (.join [(5, .one (.int .i64))] (.block (.seq .leaf (.seq .leaf (.join [(5, .one (.int .i64))] (.cond (.seq .leaf .leaf) .leaf)))))) .leaf))))) (.seq .leaf (.seq .leaf .leaf)))))) none (bodyOf Tryz.f143) (retK Tryz.prog Tryz.f143.results R) (argEnv [.slice s_p s_l s_c, .func (.func F.copies_Table_of_1) #[] #[.pointer (some ⟨del_c, 0, none⟩), .pointer (some ⟨del_c_1, 0, none⟩)]]) h := by kernel_rfl
theorem slices_DeleteFunc_s_int_int.of.walk {s_p : Option Addr} {s_l s_c : Nat} {del_c : Nat} {del_c_1 : Nat} {h : Heap} {R : Value → Heap → Prop} (hv : slices_DeleteFunc_s_int_int.of.vc s_p s_l s_c del_c del_c_1 h R) : CallsH Tryz.prog F.slices_DeleteFunc_s_int_int #[.slice s_p s_l s_c, .func (.func F.copies_Table_of_1) #[] #[.pointer (some ⟨del_c, 0, none⟩), .pointer (some ⟨del_c_1, 0, none⟩)]] h R :=
  callsH_of_body _ Tryz.func143 rfl rfl (Eq.mp (slices_DeleteFunc_s_int_int.of.den_eq s_p s_l s_c del_c del_c_1 h R) hv)

def slices_IndexFunc_s_int_int.of.vc (s_p : Option Addr) (s_l s_c : Nat) (f_c : Nat) (f_c_1 : Nat) (h : Heap) (R : Value → Heap → Prop) : Prop :=
  ∃ (I : Int → Heap → Prop) (mu : Int → Heap → Nat), I 0 h ∧ ∀ (t8 : Int) (h_1 : Heap), I t8 h_1 →
    if (decide (t8 < ((s_l : Nat) : Int))) = true then
      ((0 : Int) ≤ t8 ∧ t8 < ((s_l : Nat) : Int)) ∧
      onSome s_p fun a =>
      ∃ (t15 : Int), hcell h_1 (a.add (Int.toNat t8 * 1)) = some (.int .i64 t15) ∧
      CallsH Tryz.prog F.copies_Table_of_1 #[.int .i64 t15, .pointer (some ⟨f_c, 0, none⟩), .pointer (some ⟨f_c_1, 0, none⟩)] h_1 fun v h_2 =>
      ∃ (t16 : Bool), v = .bool t16 ∧
      if t16 = true then
        R (.int .i64 t8) h_2
      else
        (I (IntKind.wrap .i64 (t8 + 1)) h_2 ∧ mu (IntKind.wrap .i64 (t8 + 1)) h_2 < mu t8 h_1)
    else
      R (.int .i64 (-1)) h_1
theorem slices_IndexFunc_s_int_int.of.den_eq (s_p : Option Addr) (s_l s_c : Nat) (f_c : Nat) (f_c_1 : Nat) (h : Heap) (R : Value → Heap → Prop) : slices_IndexFunc_s_int_int.of.vc s_p s_l s_c f_c f_c_1 h R = den Tryz.prog Tryz.f186.ntmps (.seq .leaf (.seq (.seq .leaf (.block (.loop [(8, .one (.int .i64))] (.seq .leaf (.seq (.cond .leaf .leaf) (.seq (.block (.seq .leaf (.seq .leaf (.cond (.seq .leaf .leaf) .leaf)))) .leaf)))))) (.seq .leaf .leaf))) none (bodyOf Tryz.f186) (retK Tryz.prog Tryz.f186.results R) (argEnv [.slice s_p s_l s_c, .func (.func F.copies_Table_of_1) #[] #[.pointer (some ⟨f_c, 0, none⟩), .pointer (some ⟨f_c_1, 0, none⟩)]]) h := by kernel_rfl
theorem slices_IndexFunc_s_int_int.of.walk {s_p : Option Addr} {s_l s_c : Nat} {f_c : Nat} {f_c_1 : Nat} {h : Heap} {R : Value → Heap → Prop} (hv : slices_IndexFunc_s_int_int.of.vc s_p s_l s_c f_c f_c_1 h R) : CallsH Tryz.prog F.slices_IndexFunc_s_int_int #[.slice s_p s_l s_c, .func (.func F.copies_Table_of_1) #[] #[.pointer (some ⟨f_c, 0, none⟩), .pointer (some ⟨f_c_1, 0, none⟩)]] h R :=
  callsH_of_body _ Tryz.func186 rfl rfl (Eq.mp (slices_IndexFunc_s_int_int.of.den_eq s_p s_l s_c f_c f_c_1 h R) hv)

def copies_Table_of.vc (t : Nat) (endpoint_0 : Bool) (endpoint_1 : Int) (endpoint_2 : Int) (endpoint_3 : ByteArray) (endpoint_4 : ByteArray) (h : Heap) (R : Value → Heap → Prop) : Prop :=
  NewP h (.cells #[.pointer (some ⟨t, 0, none⟩)] T.p_copies_Table) fun b h_1 =>
  NewP h_1 (.cells #[.bool endpoint_0, .int .u64 endpoint_1, .int .u64 endpoint_2, .string endpoint_3, .string endpoint_4] T.eid_Eid) fun b_1 h_2 =>
  ∃ (t5 : Option Addr), hcell h_2 ⟨b, 0, none⟩ = some (.pointer t5) ∧
  CallsH Tryz.prog F.copies_Table_numbers #[.pointer t5] h_2 fun v h_3 =>
  ∃ (t6_p : Option Addr) (t6_l t6_c : Nat), v = .slice t6_p t6_l t6_c ∧
  CallsH Tryz.prog F.slices_DeleteFunc_s_int_int #[.slice t6_p t6_l t6_c, .func (.func F.copies_Table_of_1) #[] #[.pointer (some ⟨b, 0, none⟩), .pointer (some ⟨b_1, 0, none⟩)]] h_3 fun v_1 h_4 =>
  ∃ (t8_p : Option Addr) (t8_l t8_c : Nat), v_1 = .slice t8_p t8_l t8_c ∧
  R (.slice t8_p t8_l t8_c) h_4
theorem copies_Table_of.den_eq (t : Nat) (endpoint_0 : Bool) (endpoint_1 : Int) (endpoint_2 : Int) (endpoint_3 : ByteArray) (endpoint_4 : ByteArray) (h : Heap) (R : Value → Heap → Prop) : copies_Table_of.vc t endpoint_0 endpoint_1 endpoint_2 endpoint_3 endpoint_4 h R = den Tryz.prog Tryz.f67.ntmps (.seq .leaf (.seq .leaf .leaf)) none (bodyOf Tryz.f67) (retK Tryz.prog Tryz.f67.results R) (argEnv [.pointer (some ⟨t, 0, none⟩), .agg #[.bool endpoint_0, .int .u64 endpoint_1, .int .u64 endpoint_2, .string endpoint_3, .string endpoint_4]]) h := by kernel_rfl
theorem copies_Table_of.walk {t : Nat} {endpoint_0 : Bool} {endpoint_1 : Int} {endpoint_2 : Int} {endpoint_3 : ByteArray} {endpoint_4 : ByteArray} {h : Heap} {R : Value → Heap → Prop} (hv : copies_Table_of.vc t endpoint_0 endpoint_1 endpoint_2 endpoint_3 endpoint_4 h R) : CallsH Tryz.prog F.copies_Table_of #[.pointer (some ⟨t, 0, none⟩), .agg #[.bool endpoint_0, .int .u64 endpoint_1, .int .u64 endpoint_2, .string endpoint_3, .string endpoint_4]] h R :=
  callsH_of_body _ Tryz.func67 rfl rfl (Eq.mp (copies_Table_of.den_eq t endpoint_0 endpoint_1 endpoint_2 endpoint_3 endpoint_4 h R) hv)

def copies_Table_of.nil.vc (endpoint_0 : Bool) (endpoint_1 : Int) (endpoint_2 : Int) (endpoint_3 : ByteArray) (endpoint_4 : ByteArray) (h : Heap) (R : Value → Heap → Prop) : Prop :=
  NewP h (.cells #[.pointer none] T.p_copies_Table) fun b h_1 =>
  NewP h_1 (.cells #[.bool endpoint_0, .int .u64 endpoint_1, .int .u64 endpoint_2, .string endpoint_3, .string endpoint_4] T.eid_Eid) fun b_1 h_2 =>
  ∃ (t5 : Option Addr), hcell h_2 ⟨b, 0, none⟩ = some (.pointer t5) ∧
  CallsH Tryz.prog F.copies_Table_numbers #[.pointer t5] h_2 fun v h_3 =>
  ∃ (t6_p : Option Addr) (t6_l t6_c : Nat), v = .slice t6_p t6_l t6_c ∧
  CallsH Tryz.prog F.slices_DeleteFunc_s_int_int #[.slice t6_p t6_l t6_c, .func (.func F.copies_Table_of_1) #[] #[.pointer (some ⟨b, 0, none⟩), .pointer (some ⟨b_1, 0, none⟩)]] h_3 fun v_1 h_4 =>
  ∃ (t8_p : Option Addr) (t8_l t8_c : Nat), v_1 = .slice t8_p t8_l t8_c ∧
  R (.slice t8_p t8_l t8_c) h_4
theorem copies_Table_of.nil.den_eq (endpoint_0 : Bool) (endpoint_1 : Int) (endpoint_2 : Int) (endpoint_3 : ByteArray) (endpoint_4 : ByteArray) (h : Heap) (R : Value → Heap → Prop) : copies_Table_of.nil.vc endpoint_0 endpoint_1 endpoint_2 endpoint_3 endpoint_4 h R = den Tryz.prog Tryz.f67.ntmps (.seq .leaf (.seq .leaf .leaf)) none (bodyOf Tryz.f67) (retK Tryz.prog Tryz.f67.results R) (argEnv [.pointer none, .agg #[.bool endpoint_0, .int .u64 endpoint_1, .int .u64 endpoint_2, .string endpoint_3, .string endpoint_4]]) h := by kernel_rfl
theorem copies_Table_of.nil.walk {endpoint_0 : Bool} {endpoint_1 : Int} {endpoint_2 : Int} {endpoint_3 : ByteArray} {endpoint_4 : ByteArray} {h : Heap} {R : Value → Heap → Prop} (hv : copies_Table_of.nil.vc endpoint_0 endpoint_1 endpoint_2 endpoint_3 endpoint_4 h R) : CallsH Tryz.prog F.copies_Table_of #[.pointer none, .agg #[.bool endpoint_0, .int .u64 endpoint_1, .int .u64 endpoint_2, .string endpoint_3, .string endpoint_4]] h R :=
  callsH_of_body _ Tryz.func67 rfl rfl (Eq.mp (copies_Table_of.nil.den_eq endpoint_0 endpoint_1 endpoint_2 endpoint_3 endpoint_4 h R) hv)

def copies_Table_Ready.vc (t : Nat) (endpoint_0 : Bool) (endpoint_1 : Int) (endpoint_2 : Int) (endpoint_3 : ByteArray) (endpoint_4 : ByteArray) (h : Heap) (R : Value → Heap → Prop) : Prop :=
  NewP h (.cells #[.bool endpoint_0, .int .u64 endpoint_1, .int .u64 endpoint_2, .string endpoint_3, .string endpoint_4] T.eid_Eid) fun b h_1 =>
  eid_Eid.LD h_1 ⟨b, 0, none⟩ fun t9_0 t9_1 t9_2 t9_3 t9_4 =>
  CallsH Tryz.prog F.copies_Table_of #[.pointer (some ⟨t, 0, none⟩), .agg #[.bool t9_0, .int .u64 t9_1, .int .u64 t9_2, .string t9_3, .string t9_4]] h_1 fun v h_2 =>
  ∃ (t10_p : Option Addr) (t10_l t10_c : Nat), v = .slice t10_p t10_l t10_c ∧
  ∃ (I : Int → Int → Heap → Prop) (mu : Int → Int → Heap → Nat), I 0 0 h_2 ∧ ∀ (n : Int) (t12 : Int) (h_3 : Heap), I n t12 h_3 →
    if (decide (t12 < ((t10_l : Nat) : Int))) = true then
      JoinP (fun (n_1 : Int) (h_4 : Heap) =>
        (I n_1 (IntKind.wrap .i64 (t12 + 1)) h_4 ∧ mu n_1 (IntKind.wrap .i64 (t12 + 1)) h_4 < mu n t12 h_3))
      (fun J =>
        ((0 : Int) ≤ t12 ∧ t12 < ((t10_l : Nat) : Int)) ∧
        onSome t10_p fun a =>
        ∃ (t15 : Int), hcell h_3 (a.add (Int.toNat t12 * 1)) = some (.int .i64 t15) ∧
        ∃ (t19 : Option Nat), hcell h_3 ⟨t, 0, none⟩ = some (.map t19) ∧
        ∃ (t21 : Option Addr), LookV Tryz.prog T.m_int_p_copies_Copy (.map t19) (.int .i64 t15) false h_3 (.pointer t21) ∧
        onSome t21 fun a_1 =>
        ∃ (t24 : Int), hcell h_3 (a_1.add 8) = some (.int .i64 t24) ∧
        JoinP (fun (n_2 : Int) (h_5 : Heap) =>
          J n_2 h_5)
        (fun J_1 =>
          if (t24 == 0) = true then
            J_1 (IntKind.wrap .i64 (n + 1)) h_3
          else
            J_1 n h_3))
    else
      R (.int .i64 n) h_3
theorem copies_Table_Ready.den_eq (t : Nat) (endpoint_0 : Bool) (endpoint_1 : Int) (endpoint_2 : Int) (endpoint_3 : ByteArray) (endpoint_4 : ByteArray) (h : Heap) (R : Value → Heap → Prop) : copies_Table_Ready.vc t endpoint_0 endpoint_1 endpoint_2 endpoint_3 endpoint_4 h R = den Tryz.prog Tryz.f14.ntmps (.seq .leaf (.seq .leaf (.seq (.seq .leaf (.block (.loop [(5, .one (.int .i64)), (12, .one (.int .i64))] (.seq .leaf (.seq (.cond .leaf .leaf) (.seq (.join [(5, .one (.int .i64))] (.block (.seq .leaf (.seq .leaf (.join [(5, .one (.int .i64))] (.cond .leaf .leaf)))))) .leaf)))))) (.seq .leaf .leaf)))) none (bodyOf Tryz.f14) (retK Tryz.prog Tryz.f14.results R) (argEnv [.pointer (some ⟨t, 0, none⟩), .agg #[.bool endpoint_0, .int .u64 endpoint_1, .int .u64 endpoint_2, .string endpoint_3, .string endpoint_4]]) h := by kernel_rfl
theorem copies_Table_Ready.walk {t : Nat} {endpoint_0 : Bool} {endpoint_1 : Int} {endpoint_2 : Int} {endpoint_3 : ByteArray} {endpoint_4 : ByteArray} {h : Heap} {R : Value → Heap → Prop} (hv : copies_Table_Ready.vc t endpoint_0 endpoint_1 endpoint_2 endpoint_3 endpoint_4 h R) : CallsH Tryz.prog F.copies_Table_Ready #[.pointer (some ⟨t, 0, none⟩), .agg #[.bool endpoint_0, .int .u64 endpoint_1, .int .u64 endpoint_2, .string endpoint_3, .string endpoint_4]] h R :=
  callsH_of_body _ Tryz.func14 rfl rfl (Eq.mp (copies_Table_Ready.den_eq t endpoint_0 endpoint_1 endpoint_2 endpoint_3 endpoint_4 h R) hv)

def copies_Table_Ready.nil.vc (endpoint_0 : Bool) (endpoint_1 : Int) (endpoint_2 : Int) (endpoint_3 : ByteArray) (endpoint_4 : ByteArray) (h : Heap) (R : Value → Heap → Prop) : Prop :=
  NewP h (.cells #[.bool endpoint_0, .int .u64 endpoint_1, .int .u64 endpoint_2, .string endpoint_3, .string endpoint_4] T.eid_Eid) fun b h_1 =>
  eid_Eid.LD h_1 ⟨b, 0, none⟩ fun t9_0 t9_1 t9_2 t9_3 t9_4 =>
  CallsH Tryz.prog F.copies_Table_of #[.pointer none, .agg #[.bool t9_0, .int .u64 t9_1, .int .u64 t9_2, .string t9_3, .string t9_4]] h_1 fun v h_2 =>
  ∃ (t10_p : Option Addr) (t10_l t10_c : Nat), v = .slice t10_p t10_l t10_c ∧
  ∃ (I : Int → Int → Heap → Prop) (mu : Int → Int → Heap → Nat), I 0 0 h_2 ∧ ∀ (n : Int) (t12 : Int) (h_3 : Heap), I n t12 h_3 →
    if (decide (t12 < ((t10_l : Nat) : Int))) = true then
      JoinP (fun (n_1 : Int) (h_4 : Heap) =>
        (I n_1 (IntKind.wrap .i64 (t12 + 1)) h_4 ∧ mu n_1 (IntKind.wrap .i64 (t12 + 1)) h_4 < mu n t12 h_3))
      (fun J =>
        ((0 : Int) ≤ t12 ∧ t12 < ((t10_l : Nat) : Int)) ∧
        onSome t10_p fun a =>
        ∃ (t15 : Int), hcell h_3 (a.add (Int.toNat t12 * 1)) = some (.int .i64 t15) ∧
        False)
    else
      R (.int .i64 n) h_3
theorem copies_Table_Ready.nil.den_eq (endpoint_0 : Bool) (endpoint_1 : Int) (endpoint_2 : Int) (endpoint_3 : ByteArray) (endpoint_4 : ByteArray) (h : Heap) (R : Value → Heap → Prop) : copies_Table_Ready.nil.vc endpoint_0 endpoint_1 endpoint_2 endpoint_3 endpoint_4 h R = den Tryz.prog Tryz.f14.ntmps (.seq .leaf (.seq .leaf (.seq (.seq .leaf (.block (.loop [(5, .one (.int .i64)), (12, .one (.int .i64))] (.seq .leaf (.seq (.cond .leaf .leaf) (.seq (.join [(5, .one (.int .i64))] (.block (.seq .leaf (.seq .leaf (.join [(5, .one (.int .i64))] (.cond .leaf .leaf)))))) .leaf)))))) (.seq .leaf .leaf)))) none (bodyOf Tryz.f14) (retK Tryz.prog Tryz.f14.results R) (argEnv [.pointer none, .agg #[.bool endpoint_0, .int .u64 endpoint_1, .int .u64 endpoint_2, .string endpoint_3, .string endpoint_4]]) h := by kernel_rfl
theorem copies_Table_Ready.nil.walk {endpoint_0 : Bool} {endpoint_1 : Int} {endpoint_2 : Int} {endpoint_3 : ByteArray} {endpoint_4 : ByteArray} {h : Heap} {R : Value → Heap → Prop} (hv : copies_Table_Ready.nil.vc endpoint_0 endpoint_1 endpoint_2 endpoint_3 endpoint_4 h R) : CallsH Tryz.prog F.copies_Table_Ready #[.pointer none, .agg #[.bool endpoint_0, .int .u64 endpoint_1, .int .u64 endpoint_2, .string endpoint_3, .string endpoint_4]] h R :=
  callsH_of_body _ Tryz.func14 rfl rfl (Eq.mp (copies_Table_Ready.nil.den_eq endpoint_0 endpoint_1 endpoint_2 endpoint_3 endpoint_4 h R) hv)

def copies_Table_Counts.vc (t : Nat) (h : Heap) (R : Value → Heap → Prop) : Prop :=
  NewP h (.cells #[.int .i64 0, .int .i64 0, .int .i64 0, .int .i64 0, .int .i64 0, .int .i64 0] T.a6_int) fun b h_1 =>
  CallsH Tryz.prog F.copies_Table_made #[.pointer (some ⟨t, 0, none⟩)] h_1 fun v h_2 =>
  ∃ (t5 : Bool), v = .bool t5 ∧
  if (!t5) = true then
    a6_int.ST h_2 ⟨b, 0, none⟩ 0 0 0 0 0 0 fun h_3 =>
    a6_int.LD h_3 ⟨b, 0, none⟩ fun r_0 r_1 r_2 r_3 r_4 r_5 =>
    R (.agg #[.int .i64 r_0, .int .i64 r_1, .int .i64 r_2, .int .i64 r_3, .int .i64 r_4, .int .i64 r_5]) h_3
  else
    ∃ (t11 : Option Addr), hcell h_2 ⟨t, 6, none⟩ = some (.pointer t11) ∧
    CallsH Tryz.prog F.alarm_Alarm_Len #[.pointer t11] h_2 fun v_1 h_4 =>
    ∃ (t12 : Int), v_1 = .int .i64 t12 ∧
    ∃ (t16 : Int), hcell h_4 ⟨t, 1, none⟩ = some (.int .i64 t16) ∧
    ∃ (t21 : Option Nat), hcell h_4 ⟨t, 0, none⟩ = some (.map t21) ∧
    ∃ t22 : Int, LenV Tryz.prog #[T.m_int_p_copies_Copy] T.int (.map t21) h_4 (.int .i64 t22) ∧
    ∃ (t29 : Int), hcell h_4 ⟨t, 2, none⟩ = some (.int .i64 t29) ∧
    ∃ (t33 : Int), hcell h_4 ⟨t, 3, none⟩ = some (.int .i64 t33) ∧
    ∃ (t37 : Int), hcell h_4 ⟨t, 4, none⟩ = some (.int .i64 t37) ∧
    a6_int.ST h_4 ⟨b, 0, none⟩ (IntKind.wrap .i64 (t16 - 1)) (IntKind.wrap .i64 (t22 - t12)) t12 t29 t33 t37 fun h_5 =>
    a6_int.LD h_5 ⟨b, 0, none⟩ fun r_0_1 r_1_1 r_2_1 r_3_1 r_4_1 r_5_1 =>
    R (.agg #[.int .i64 r_0_1, .int .i64 r_1_1, .int .i64 r_2_1, .int .i64 r_3_1, .int .i64 r_4_1, .int .i64 r_5_1]) h_5
theorem copies_Table_Counts.den_eq (t : Nat) (h : Heap) (R : Value → Heap → Prop) : copies_Table_Counts.vc t h R = den Tryz.prog Tryz.f28.ntmps (.seq .leaf (.seq (.seq .leaf (.cond (.seq .leaf .leaf) .leaf)) (.seq .leaf (.seq (.plan (.op 0 (.op 1 (.op 2 (.op 3 (.op 4 (.op 5 (.op 6 (.op 7 (.op 8 (.op 9 (.op 10 (.op 11 (.op 12 (.op 13 (.op 14 (.op 15 (.op 16 (.op 17 (.op 18 (.op 19 (.op 20 (.op 21 (.op 22 (.op 23 (.op 24 (.op 25 (.op 26 .done)))))))))))))))))))))))))))) .leaf)))) none (bodyOf Tryz.f28) (retK Tryz.prog Tryz.f28.results R) (argEnv [.pointer (some ⟨t, 0, none⟩)]) h := by kernel_rfl
theorem copies_Table_Counts.walk {t : Nat} {h : Heap} {R : Value → Heap → Prop} (hv : copies_Table_Counts.vc t h R) : CallsH Tryz.prog F.copies_Table_Counts #[.pointer (some ⟨t, 0, none⟩)] h R :=
  callsH_of_body _ Tryz.func28 rfl rfl (Eq.mp (copies_Table_Counts.den_eq t h R) hv)

def copies_Table_Counts.nil.vc  (h : Heap) (R : Value → Heap → Prop) : Prop :=
  NewP h (.cells #[.int .i64 0, .int .i64 0, .int .i64 0, .int .i64 0, .int .i64 0, .int .i64 0] T.a6_int) fun b h_1 =>
  CallsH Tryz.prog F.copies_Table_made #[.pointer none] h_1 fun v h_2 =>
  ∃ (t5 : Bool), v = .bool t5 ∧
  if (!t5) = true then
    a6_int.ST h_2 ⟨b, 0, none⟩ 0 0 0 0 0 0 fun h_3 =>
    a6_int.LD h_3 ⟨b, 0, none⟩ fun r_0 r_1 r_2 r_3 r_4 r_5 =>
    R (.agg #[.int .i64 r_0, .int .i64 r_1, .int .i64 r_2, .int .i64 r_3, .int .i64 r_4, .int .i64 r_5]) h_3
  else
    False
theorem copies_Table_Counts.nil.den_eq  (h : Heap) (R : Value → Heap → Prop) : copies_Table_Counts.nil.vc h R = den Tryz.prog Tryz.f28.ntmps (.seq .leaf (.seq (.seq .leaf (.cond (.seq .leaf .leaf) .leaf)) (.seq .leaf (.seq (.plan (.op 0 (.op 1 (.op 2 (.op 3 (.op 4 (.op 5 (.op 6 (.op 7 (.op 8 (.op 9 (.op 10 (.op 11 (.op 12 (.op 13 (.op 14 (.op 15 (.op 16 (.op 17 (.op 18 (.op 19 (.op 20 (.op 21 (.op 22 (.op 23 (.op 24 (.op 25 (.op 26 .done)))))))))))))))))))))))))))) .leaf)))) none (bodyOf Tryz.f28) (retK Tryz.prog Tryz.f28.results R) (argEnv [.pointer none]) h := by kernel_rfl
theorem copies_Table_Counts.nil.walk  {h : Heap} {R : Value → Heap → Prop} (hv : copies_Table_Counts.nil.vc h R) : CallsH Tryz.prog F.copies_Table_Counts #[.pointer none] h R :=
  callsH_of_body _ Tryz.func28 rfl rfl (Eq.mp (copies_Table_Counts.nil.den_eq h R) hv)

def copies_isCopy.vc (endpoint_0 : Bool) (endpoint_1 : Int) (endpoint_2 : Int) (endpoint_3 : ByteArray) (endpoint_4 : ByteArray) (data_p : Option Addr) (data_l data_c : Nat) (v_until : Int) (h : Heap) (R : Value → Heap → Prop) : Prop :=
  NewP h (.cells #[.bool endpoint_0, .int .u64 endpoint_1, .int .u64 endpoint_2, .string endpoint_3, .string endpoint_4] T.eid_Eid) fun b h_1 =>
  eid_Eid.LD h_1 ⟨b, 0, none⟩ fun t7_0 t7_1 t7_2 t7_3 t7_4 =>
  CallsH Tryz.prog F.eid_Right #[.agg #[.bool t7_0, .int .u64 t7_1, .int .u64 t7_2, .string t7_3, .string t7_4]] h_1 fun v h_2 =>
  ∃ (t8 : Bool), v = .bool t8 ∧
  if t8 = true then
    eid_Eid.LD h_2 ⟨b, 0, none⟩ fun t10_0 t10_1 t10_2 t10_3 t10_4 =>
    ∃ (eq : Bool), EqV Tryz.prog T.eid_Eid (.agg #[.bool t10_0, .int .u64 t10_1, .int .u64 t10_2, .string t10_3, .string t10_4]) (.agg #[.bool false, .int .u64 0, .int .u64 0, .string (⟨#[]⟩ : ByteArray), .string (⟨#[]⟩ : ByteArray)]) eq ∧
    if (!eq) = true then
      if (decide (((data_l : Nat) : Int) ≥ 1)) = true then
        if (decide (((data_l : Nat) : Int) ≤ 600)) = true then
          R (.bool (decide (v_until ≤ 1099511627776))) h_2
        else
          R (.bool false) h_2
      else
        R (.bool false) h_2
    else
      R (.bool false) h_2
  else
    R (.bool false) h_2
theorem copies_isCopy.den_eq (endpoint_0 : Bool) (endpoint_1 : Int) (endpoint_2 : Int) (endpoint_3 : ByteArray) (endpoint_4 : ByteArray) (data_p : Option Addr) (data_l data_c : Nat) (v_until : Int) (h : Heap) (R : Value → Heap → Prop) : copies_isCopy.vc endpoint_0 endpoint_1 endpoint_2 endpoint_3 endpoint_4 data_p data_l data_c v_until h R = den Tryz.prog Tryz.f70.ntmps (.seq .leaf (.seq .leaf .leaf)) none (bodyOf Tryz.f70) (retK Tryz.prog Tryz.f70.results R) (argEnv [.agg #[.bool endpoint_0, .int .u64 endpoint_1, .int .u64 endpoint_2, .string endpoint_3, .string endpoint_4], .slice data_p data_l data_c, .int .u64 v_until]) h := by kernel_rfl
theorem copies_isCopy.walk {endpoint_0 : Bool} {endpoint_1 : Int} {endpoint_2 : Int} {endpoint_3 : ByteArray} {endpoint_4 : ByteArray} {data_p : Option Addr} {data_l data_c : Nat} {v_until : Int} {h : Heap} {R : Value → Heap → Prop} (hv : copies_isCopy.vc endpoint_0 endpoint_1 endpoint_2 endpoint_3 endpoint_4 data_p data_l data_c v_until h R) : CallsH Tryz.prog F.copies_isCopy #[.agg #[.bool endpoint_0, .int .u64 endpoint_1, .int .u64 endpoint_2, .string endpoint_3, .string endpoint_4], .slice data_p data_l data_c, .int .u64 v_until] h R :=
  callsH_of_body _ Tryz.func70 rfl rfl (Eq.mp (copies_isCopy.den_eq endpoint_0 endpoint_1 endpoint_2 endpoint_3 endpoint_4 data_p data_l data_c v_until h R) hv)

def copies_Table_Add.vc (t : Nat) (endpoint_0 : Bool) (endpoint_1 : Int) (endpoint_2 : Int) (endpoint_3 : ByteArray) (endpoint_4 : ByteArray) (data_p : Option Addr) (data_l data_c : Nat) (v_until : Int) (h : Heap) (R : Value → Heap → Prop) : Prop :=
  NewP h (.cells #[.bool endpoint_0, .int .u64 endpoint_1, .int .u64 endpoint_2, .string endpoint_3, .string endpoint_4] T.eid_Eid) fun b h_1 =>
  CallsH Tryz.prog F.copies_Table_made #[.pointer (some ⟨t, 0, none⟩)] h_1 fun v h_2 =>
  ∃ (t13 : Bool), v = .bool t13 ∧
  if (!t13) = true then
    R (.tuple #[.int .i64 0, .int .i64 6]) h_2
  else
    eid_Eid.LD h_2 ⟨b, 0, none⟩ fun t16_0 t16_1 t16_2 t16_3 t16_4 =>
    CallsH Tryz.prog F.copies_isCopy #[.agg #[.bool t16_0, .int .u64 t16_1, .int .u64 t16_2, .string t16_3, .string t16_4], .slice data_p data_l data_c, .int .u64 v_until] h_2 fun v_1 h_3 =>
    ∃ (t19 : Bool), v_1 = .bool t19 ∧
    if (!t19) = true then
      R (.tuple #[.int .i64 0, .int .i64 1]) h_3
    else
      eid_Eid.LD h_3 ⟨b, 0, none⟩ fun t23_0 t23_1 t23_2 t23_3 t23_4 =>
      CallsH Tryz.prog F.copies_Table_of #[.pointer (some ⟨t, 0, none⟩), .agg #[.bool t23_0, .int .u64 t23_1, .int .u64 t23_2, .string t23_3, .string t23_4]] h_3 fun v_2 h_4 =>
      ∃ (t24_p : Option Addr) (t24_l t24_c : Nat), v_2 = .slice t24_p t24_l t24_c ∧
      if (decide (((t24_l : Nat) : Int) ≥ 16)) = true then
        R (.tuple #[.int .i64 0, .int .i64 15]) h_4
      else
        ∃ (t30 : Int), hcell h_4 ⟨t, 1, none⟩ = some (.int .i64 t30) ∧
        ∃ (t34 : Int), hcell h_4 ⟨t, 1, none⟩ = some (.int .i64 t34) ∧
        StoreP h_4 ⟨t, 1, none⟩ (.int .i64 (IntKind.wrap .i64 (t34 + 1))) fun h_5 =>
        ∃ (t41 : Option Nat), hcell h_5 ⟨t, 0, none⟩ = some (.map t41) ∧
        eid_Eid.LD h_5 ⟨b, 0, none⟩ fun t44_0 t44_1 t44_2 t44_3 t44_4 =>
        CallsH Tryz.prog F.slices_Clone_s_byte_byte #[.slice data_p data_l data_c] h_5 fun v_3 h_6 =>
        ∃ (t46_p : Option Addr) (t46_l t46_c : Nat), v_3 = .slice t46_p t46_l t46_c ∧
        heldL ⟨b, 0, none⟩ [.bool t44_0, .int .u64 t44_1, .int .u64 t44_2, .string t44_3, .string t44_4] 0 h_6 ∧
        hcell h_6 ⟨t, 0, none⟩ = some (.map t41) ∧
        NewP h_6 (.cells #[.int .i64 t30, .bool t44_0, .int .u64 t44_1, .int .u64 t44_2, .string t44_3, .string t44_4, .slice t46_p t46_l t46_c, .int .u64 v_until, .int .i64 0, .int .u64 0] T.copies_Copy) fun b_1 h_7 =>
        heldL ⟨b, 0, none⟩ [.bool t44_0, .int .u64 t44_1, .int .u64 t44_2, .string t44_3, .string t44_4] 0 h_7 ∧
        hcell h_7 ⟨t, 0, none⟩ = some (.map t41) ∧
        denSem Tryz.prog (Instr.mapUpdate T.m_int_p_copies_Copy (.map t41) (.int .i64 t30) (.pointer (some ⟨b_1, 0, none⟩))) h_7 fun _ h_8 =>
        ∃ (t53 : Option Addr), hcell h_8 ⟨t, 5, none⟩ = some (.pointer t53) ∧
        CallsH Tryz.prog F.alarm_Alarm_Set #[.pointer t53, .int .i64 t30, .int .u64 v_until] h_8 fun v_4 h_9 =>
        ∃ (t56 : Int), v_4 = .int .i64 t56 ∧
        R (.tuple #[.int .i64 t30, .int .i64 0]) h_9
theorem copies_Table_Add.den_eq (t : Nat) (endpoint_0 : Bool) (endpoint_1 : Int) (endpoint_2 : Int) (endpoint_3 : ByteArray) (endpoint_4 : ByteArray) (data_p : Option Addr) (data_l data_c : Nat) (v_until : Int) (h : Heap) (R : Value → Heap → Prop) : copies_Table_Add.vc t endpoint_0 endpoint_1 endpoint_2 endpoint_3 endpoint_4 data_p data_l data_c v_until h R = den Tryz.prog Tryz.f17.ntmps (.seq .leaf (.seq (.block (.seq .leaf (.cond (.seq .leaf .leaf) (.seq .leaf (.cond (.seq .leaf .leaf) (.seq .leaf (.cond (.seq .leaf .leaf) .leaf))))))) (.seq .leaf (.seq .leaf (.seq (.plan (.op 0 (.op 1 (.op 2 (.op 3 (.op 4 (.op 5 (.op 6 (.op 7 (.op 9 (.op 8 (.op 10 (.op 11 (.op 12 .done)))))))))))))) (.seq .leaf (.seq .leaf .leaf))))))) none (bodyOf Tryz.f17) (retK Tryz.prog Tryz.f17.results R) (argEnv [.pointer (some ⟨t, 0, none⟩), .agg #[.bool endpoint_0, .int .u64 endpoint_1, .int .u64 endpoint_2, .string endpoint_3, .string endpoint_4], .slice data_p data_l data_c, .int .u64 v_until]) h := by kernel_rfl
theorem copies_Table_Add.walk {t : Nat} {endpoint_0 : Bool} {endpoint_1 : Int} {endpoint_2 : Int} {endpoint_3 : ByteArray} {endpoint_4 : ByteArray} {data_p : Option Addr} {data_l data_c : Nat} {v_until : Int} {h : Heap} {R : Value → Heap → Prop} (hv : copies_Table_Add.vc t endpoint_0 endpoint_1 endpoint_2 endpoint_3 endpoint_4 data_p data_l data_c v_until h R) : CallsH Tryz.prog F.copies_Table_Add #[.pointer (some ⟨t, 0, none⟩), .agg #[.bool endpoint_0, .int .u64 endpoint_1, .int .u64 endpoint_2, .string endpoint_3, .string endpoint_4], .slice data_p data_l data_c, .int .u64 v_until] h R :=
  callsH_of_body _ Tryz.func17 rfl rfl (Eq.mp (copies_Table_Add.den_eq t endpoint_0 endpoint_1 endpoint_2 endpoint_3 endpoint_4 data_p data_l data_c v_until h R) hv)

def copies_Table_Add.nil.vc (endpoint_0 : Bool) (endpoint_1 : Int) (endpoint_2 : Int) (endpoint_3 : ByteArray) (endpoint_4 : ByteArray) (data_p : Option Addr) (data_l data_c : Nat) (v_until : Int) (h : Heap) (R : Value → Heap → Prop) : Prop :=
  NewP h (.cells #[.bool endpoint_0, .int .u64 endpoint_1, .int .u64 endpoint_2, .string endpoint_3, .string endpoint_4] T.eid_Eid) fun b h_1 =>
  CallsH Tryz.prog F.copies_Table_made #[.pointer none] h_1 fun v h_2 =>
  ∃ (t13 : Bool), v = .bool t13 ∧
  if (!t13) = true then
    R (.tuple #[.int .i64 0, .int .i64 6]) h_2
  else
    eid_Eid.LD h_2 ⟨b, 0, none⟩ fun t16_0 t16_1 t16_2 t16_3 t16_4 =>
    CallsH Tryz.prog F.copies_isCopy #[.agg #[.bool t16_0, .int .u64 t16_1, .int .u64 t16_2, .string t16_3, .string t16_4], .slice data_p data_l data_c, .int .u64 v_until] h_2 fun v_1 h_3 =>
    ∃ (t19 : Bool), v_1 = .bool t19 ∧
    if (!t19) = true then
      R (.tuple #[.int .i64 0, .int .i64 1]) h_3
    else
      eid_Eid.LD h_3 ⟨b, 0, none⟩ fun t23_0 t23_1 t23_2 t23_3 t23_4 =>
      CallsH Tryz.prog F.copies_Table_of #[.pointer none, .agg #[.bool t23_0, .int .u64 t23_1, .int .u64 t23_2, .string t23_3, .string t23_4]] h_3 fun v_2 h_4 =>
      ∃ (t24_p : Option Addr) (t24_l t24_c : Nat), v_2 = .slice t24_p t24_l t24_c ∧
      if (decide (((t24_l : Nat) : Int) ≥ 16)) = true then
        R (.tuple #[.int .i64 0, .int .i64 15]) h_4
      else
        False
theorem copies_Table_Add.nil.den_eq (endpoint_0 : Bool) (endpoint_1 : Int) (endpoint_2 : Int) (endpoint_3 : ByteArray) (endpoint_4 : ByteArray) (data_p : Option Addr) (data_l data_c : Nat) (v_until : Int) (h : Heap) (R : Value → Heap → Prop) : copies_Table_Add.nil.vc endpoint_0 endpoint_1 endpoint_2 endpoint_3 endpoint_4 data_p data_l data_c v_until h R = den Tryz.prog Tryz.f17.ntmps (.seq .leaf (.seq (.block (.seq .leaf (.cond (.seq .leaf .leaf) (.seq .leaf (.cond (.seq .leaf .leaf) (.seq .leaf (.cond (.seq .leaf .leaf) .leaf))))))) (.seq .leaf (.seq .leaf (.seq (.plan (.op 0 (.op 1 (.op 2 (.op 3 (.op 4 (.op 5 (.op 6 (.op 7 (.op 9 (.op 8 (.op 10 (.op 11 (.op 12 .done)))))))))))))) (.seq .leaf (.seq .leaf .leaf))))))) none (bodyOf Tryz.f17) (retK Tryz.prog Tryz.f17.results R) (argEnv [.pointer none, .agg #[.bool endpoint_0, .int .u64 endpoint_1, .int .u64 endpoint_2, .string endpoint_3, .string endpoint_4], .slice data_p data_l data_c, .int .u64 v_until]) h := by kernel_rfl
theorem copies_Table_Add.nil.walk {endpoint_0 : Bool} {endpoint_1 : Int} {endpoint_2 : Int} {endpoint_3 : ByteArray} {endpoint_4 : ByteArray} {data_p : Option Addr} {data_l data_c : Nat} {v_until : Int} {h : Heap} {R : Value → Heap → Prop} (hv : copies_Table_Add.nil.vc endpoint_0 endpoint_1 endpoint_2 endpoint_3 endpoint_4 data_p data_l data_c v_until h R) : CallsH Tryz.prog F.copies_Table_Add #[.pointer none, .agg #[.bool endpoint_0, .int .u64 endpoint_1, .int .u64 endpoint_2, .string endpoint_3, .string endpoint_4], .slice data_p data_l data_c, .int .u64 v_until] h R :=
  callsH_of_body _ Tryz.func17 rfl rfl (Eq.mp (copies_Table_Add.nil.den_eq endpoint_0 endpoint_1 endpoint_2 endpoint_3 endpoint_4 data_p data_l data_c v_until h R) hv)

def copies_isSession.vc (n : Int) (h : Heap) (R : Value → Heap → Prop) : Prop :=
  if (decide (n ≥ 1)) = true then
    R (.bool (decide (n ≤ 1099511627776))) h
  else
    R (.bool false) h
theorem copies_isSession.den_eq (n : Int) (h : Heap) (R : Value → Heap → Prop) : copies_isSession.vc n h R = den Tryz.prog Tryz.f73.ntmps (.seq .leaf (.seq .leaf .leaf)) none (bodyOf Tryz.f73) (retK Tryz.prog Tryz.f73.results R) (argEnv [.int .i64 n]) h := by kernel_rfl
theorem copies_isSession.walk {n : Int} {h : Heap} {R : Value → Heap → Prop} (hv : copies_isSession.vc n h R) : CallsH Tryz.prog F.copies_isSession #[.int .i64 n] h R :=
  callsH_of_body _ Tryz.func73 rfl rfl (Eq.mp (copies_isSession.den_eq n h R) hv)

def copies_Table_Lease.vc (t : Nat) (endpoint_0 : Bool) (endpoint_1 : Int) (endpoint_2 : Int) (endpoint_3 : ByteArray) (endpoint_4 : ByteArray) (session : Int) (deadline : Int) (h : Heap) (R : Value → Heap → Prop) : Prop :=
  NewP h (.cells #[.bool endpoint_0, .int .u64 endpoint_1, .int .u64 endpoint_2, .string endpoint_3, .string endpoint_4] T.eid_Eid) fun b h_1 =>
  NewP h_1 (.cells #[.int .i64 0, .bool false, .int .u64 0, .int .u64 0, .string (⟨#[]⟩ : ByteArray), .string (⟨#[]⟩ : ByteArray), .slice none 0 0, .int .u64 0, .int .i64 0, .int .u64 0] T.copies_Copy) fun b_1 h_2 =>
  CallsH Tryz.prog F.copies_Table_made #[.pointer (some ⟨t, 0, none⟩)] h_2 fun v h_3 =>
  ∃ (t16 : Bool), v = .bool t16 ∧
  if (!t16) = true then
    copies_Copy.ST h_3 ⟨b_1, 0, none⟩ 0 false 0 0 (⟨#[]⟩ : ByteArray) (⟨#[]⟩ : ByteArray) none 0 0 0 0 0 fun h_4 =>
    copies_Copy.LD h_4 ⟨b_1, 0, none⟩ fun r_0 r_1 r_2 r_3 r_4 r_5 r_6_p r_6_l r_6_c r_7 r_8 r_9 =>
    R (.tuple #[.agg #[.int .i64 r_0, .bool r_1, .int .u64 r_2, .int .u64 r_3, .string r_4, .string r_5, .slice r_6_p r_6_l r_6_c, .int .u64 r_7, .int .i64 r_8, .int .u64 r_9], .int .i64 6]) h_4
  else
    JoinP (fun (t19 : Bool) (h_5 : Heap) =>
      if t19 = true then
        copies_Copy.ST h_5 ⟨b_1, 0, none⟩ 0 false 0 0 (⟨#[]⟩ : ByteArray) (⟨#[]⟩ : ByteArray) none 0 0 0 0 0 fun h_6 =>
        copies_Copy.LD h_6 ⟨b_1, 0, none⟩ fun r_0_1 r_1_1 r_2_1 r_3_1 r_4_1 r_5_1 r_6_p_1 r_6_l_1 r_6_c_1 r_7_1 r_8_1 r_9_1 =>
        R (.tuple #[.agg #[.int .i64 r_0_1, .bool r_1_1, .int .u64 r_2_1, .int .u64 r_3_1, .string r_4_1, .string r_5_1, .slice r_6_p_1 r_6_l_1 r_6_c_1, .int .u64 r_7_1, .int .i64 r_8_1, .int .u64 r_9_1], .int .i64 1]) h_6
      else
        eid_Eid.LD h_5 ⟨b, 0, none⟩ fun t29_0 t29_1 t29_2 t29_3 t29_4 =>
        CallsH Tryz.prog F.copies_Table_of #[.pointer (some ⟨t, 0, none⟩), .agg #[.bool t29_0, .int .u64 t29_1, .int .u64 t29_2, .string t29_3, .string t29_4]] h_5 fun v_1 h_7 =>
        ∃ (t30_p : Option Addr) (t30_l t30_c : Nat), v_1 = .slice t30_p t30_l t30_c ∧
        ∃ (I : Int → Heap → Prop) (mu : Int → Heap → Nat), I 0 h_7 ∧ ∀ (t32 : Int) (h_8 : Heap), I t32 h_8 →
          if (decide (t32 < ((t30_l : Nat) : Int))) = true then
            ((0 : Int) ≤ t32 ∧ t32 < ((t30_l : Nat) : Int)) ∧
            onSome t30_p fun a =>
            ∃ (t35 : Int), hcell h_8 (a.add (Int.toNat t32 * 1)) = some (.int .i64 t35) ∧
            ∃ (t39 : Option Nat), hcell h_8 ⟨t, 0, none⟩ = some (.map t39) ∧
            ∃ (t41 : Option Addr), LookV Tryz.prog T.m_int_p_copies_Copy (.map t39) (.int .i64 t35) false h_8 (.pointer t41) ∧
            onSome t41 fun a_1 =>
            ∃ (t45 : Int), hcell h_8 (a_1.add 8) = some (.int .i64 t45) ∧
            if (t45 == 0) = true then
              onSome t41 fun a_2 =>
              StoreP h_8 (a_2.add 8) (.int .i64 session) fun h_9 =>
              onSome t41 fun a_3 =>
              StoreP h_9 (a_3.add 9) (.int .u64 deadline) fun h_10 =>
              ∃ (t58 : Option Addr), hcell h_10 ⟨t, 6, none⟩ = some (.pointer t58) ∧
              CallsH Tryz.prog F.alarm_Alarm_Set #[.pointer t58, .int .i64 t35, .int .u64 deadline] h_10 fun v_2 h_11 =>
              ∃ (t61 : Int), v_2 = .int .i64 t61 ∧
              onSome t41 fun a_4 =>
              copies_Copy.LD h_11 a_4 fun t64_0 t64_1 t64_2 t64_3 t64_4 t64_5 t64_6_p t64_6_l t64_6_c t64_7 t64_8 t64_9 =>
              NewP h_11 (.cells #[.int .i64 0, .bool false, .int .u64 0, .int .u64 0, .string (⟨#[]⟩ : ByteArray), .string (⟨#[]⟩ : ByteArray), .slice none 0 0, .int .u64 0, .int .i64 0, .int .u64 0] T.copies_Copy) fun b_2 h_12 =>
              copies_Copy.ST h_12 ⟨b_2, 0, none⟩ t64_0 t64_1 t64_2 t64_3 t64_4 t64_5 t64_6_p t64_6_l t64_6_c t64_7 t64_8 t64_9 fun h_13 =>
              onSome t41 fun a_5 =>
              ∃ (t68_p : Option Addr) (t68_l t68_c : Nat), hcell h_13 (a_5.add 6) = some (.slice t68_p t68_l t68_c) ∧
              CallsH Tryz.prog F.slices_Clone_s_byte_byte #[.slice t68_p t68_l t68_c] h_13 fun v_3 h_14 =>
              ∃ (t69_p : Option Addr) (t69_l t69_c : Nat), v_3 = .slice t69_p t69_l t69_c ∧
              StoreP h_14 ⟨b_2, 6, none⟩ (.slice t69_p t69_l t69_c) fun h_15 =>
              copies_Copy.LD h_15 ⟨b_2, 0, none⟩ fun t71_0 t71_1 t71_2 t71_3 t71_4 t71_5 t71_6_p t71_6_l t71_6_c t71_7 t71_8 t71_9 =>
              copies_Copy.ST h_15 ⟨b_1, 0, none⟩ t71_0 t71_1 t71_2 t71_3 t71_4 t71_5 t71_6_p t71_6_l t71_6_c t71_7 t71_8 t71_9 fun h_16 =>
              copies_Copy.LD h_16 ⟨b_1, 0, none⟩ fun r_0_2 r_1_2 r_2_2 r_3_2 r_4_2 r_5_2 r_6_p_2 r_6_l_2 r_6_c_2 r_7_2 r_8_2 r_9_2 =>
              R (.tuple #[.agg #[.int .i64 r_0_2, .bool r_1_2, .int .u64 r_2_2, .int .u64 r_3_2, .string r_4_2, .string r_5_2, .slice r_6_p_2 r_6_l_2 r_6_c_2, .int .u64 r_7_2, .int .i64 r_8_2, .int .u64 r_9_2], .int .i64 0]) h_16
            else
              (I (IntKind.wrap .i64 (t32 + 1)) h_8 ∧ mu (IntKind.wrap .i64 (t32 + 1)) h_8 < mu t32 h_8)
          else
            copies_Copy.ST h_8 ⟨b_1, 0, none⟩ 0 false 0 0 (⟨#[]⟩ : ByteArray) (⟨#[]⟩ : ByteArray) none 0 0 0 0 0 fun h_17 =>
            copies_Copy.LD h_17 ⟨b_1, 0, none⟩ fun r_0_3 r_1_3 r_2_3 r_3_3 r_4_3 r_5_3 r_6_p_3 r_6_l_3 r_6_c_3 r_7_3 r_8_3 r_9_3 =>
            R (.tuple #[.agg #[.int .i64 r_0_3, .bool r_1_3, .int .u64 r_2_3, .int .u64 r_3_3, .string r_4_3, .string r_5_3, .slice r_6_p_3 r_6_l_3 r_6_c_3, .int .u64 r_7_3, .int .i64 r_8_3, .int .u64 r_9_3], .int .i64 4]) h_17)
    (fun J =>
      CallsH Tryz.prog F.copies_isSession #[.int .i64 session] h_3 fun v_4 h_18 =>
      ∃ (t21 : Bool), v_4 = .bool t21 ∧
      if (!t21) = true then
        J true h_18
      else
        J (decide (deadline > 1099511627776)) h_18)
theorem copies_Table_Lease.den_eq (t : Nat) (endpoint_0 : Bool) (endpoint_1 : Int) (endpoint_2 : Int) (endpoint_3 : ByteArray) (endpoint_4 : ByteArray) (session : Int) (deadline : Int) (h : Heap) (R : Value → Heap → Prop) : copies_Table_Lease.vc t endpoint_0 endpoint_1 endpoint_2 endpoint_3 endpoint_4 session deadline h R = den Tryz.prog Tryz.f19.ntmps (.seq .leaf (.seq (.block (.seq .leaf (.cond (.seq .leaf .leaf) (.seq (.join [(19, .one (.bool))] .leaf) (.cond (.seq .leaf .leaf) .leaf))))) (.seq (.seq .leaf (.block (.loop [(32, .one (.int .i64))] (.seq .leaf (.seq (.cond .leaf .leaf) (.seq (.block (.seq .leaf (.seq .leaf (.seq .leaf (.cond (.seq .leaf (.seq .leaf (.seq .leaf (.seq .leaf (.seq .leaf .leaf))))) .leaf))))) .leaf)))))) (.seq .leaf .leaf)))) none (bodyOf Tryz.f19) (retK Tryz.prog Tryz.f19.results R) (argEnv [.pointer (some ⟨t, 0, none⟩), .agg #[.bool endpoint_0, .int .u64 endpoint_1, .int .u64 endpoint_2, .string endpoint_3, .string endpoint_4], .int .i64 session, .int .u64 deadline]) h := by kernel_rfl
theorem copies_Table_Lease.walk {t : Nat} {endpoint_0 : Bool} {endpoint_1 : Int} {endpoint_2 : Int} {endpoint_3 : ByteArray} {endpoint_4 : ByteArray} {session : Int} {deadline : Int} {h : Heap} {R : Value → Heap → Prop} (hv : copies_Table_Lease.vc t endpoint_0 endpoint_1 endpoint_2 endpoint_3 endpoint_4 session deadline h R) : CallsH Tryz.prog F.copies_Table_Lease #[.pointer (some ⟨t, 0, none⟩), .agg #[.bool endpoint_0, .int .u64 endpoint_1, .int .u64 endpoint_2, .string endpoint_3, .string endpoint_4], .int .i64 session, .int .u64 deadline] h R :=
  callsH_of_body _ Tryz.func19 rfl rfl (Eq.mp (copies_Table_Lease.den_eq t endpoint_0 endpoint_1 endpoint_2 endpoint_3 endpoint_4 session deadline h R) hv)

def copies_Table_Lease.nil.vc (endpoint_0 : Bool) (endpoint_1 : Int) (endpoint_2 : Int) (endpoint_3 : ByteArray) (endpoint_4 : ByteArray) (session : Int) (deadline : Int) (h : Heap) (R : Value → Heap → Prop) : Prop :=
  NewP h (.cells #[.bool endpoint_0, .int .u64 endpoint_1, .int .u64 endpoint_2, .string endpoint_3, .string endpoint_4] T.eid_Eid) fun b h_1 =>
  NewP h_1 (.cells #[.int .i64 0, .bool false, .int .u64 0, .int .u64 0, .string (⟨#[]⟩ : ByteArray), .string (⟨#[]⟩ : ByteArray), .slice none 0 0, .int .u64 0, .int .i64 0, .int .u64 0] T.copies_Copy) fun b_1 h_2 =>
  CallsH Tryz.prog F.copies_Table_made #[.pointer none] h_2 fun v h_3 =>
  ∃ (t16 : Bool), v = .bool t16 ∧
  if (!t16) = true then
    copies_Copy.ST h_3 ⟨b_1, 0, none⟩ 0 false 0 0 (⟨#[]⟩ : ByteArray) (⟨#[]⟩ : ByteArray) none 0 0 0 0 0 fun h_4 =>
    copies_Copy.LD h_4 ⟨b_1, 0, none⟩ fun r_0 r_1 r_2 r_3 r_4 r_5 r_6_p r_6_l r_6_c r_7 r_8 r_9 =>
    R (.tuple #[.agg #[.int .i64 r_0, .bool r_1, .int .u64 r_2, .int .u64 r_3, .string r_4, .string r_5, .slice r_6_p r_6_l r_6_c, .int .u64 r_7, .int .i64 r_8, .int .u64 r_9], .int .i64 6]) h_4
  else
    JoinP (fun (t19 : Bool) (h_5 : Heap) =>
      if t19 = true then
        copies_Copy.ST h_5 ⟨b_1, 0, none⟩ 0 false 0 0 (⟨#[]⟩ : ByteArray) (⟨#[]⟩ : ByteArray) none 0 0 0 0 0 fun h_6 =>
        copies_Copy.LD h_6 ⟨b_1, 0, none⟩ fun r_0_1 r_1_1 r_2_1 r_3_1 r_4_1 r_5_1 r_6_p_1 r_6_l_1 r_6_c_1 r_7_1 r_8_1 r_9_1 =>
        R (.tuple #[.agg #[.int .i64 r_0_1, .bool r_1_1, .int .u64 r_2_1, .int .u64 r_3_1, .string r_4_1, .string r_5_1, .slice r_6_p_1 r_6_l_1 r_6_c_1, .int .u64 r_7_1, .int .i64 r_8_1, .int .u64 r_9_1], .int .i64 1]) h_6
      else
        eid_Eid.LD h_5 ⟨b, 0, none⟩ fun t29_0 t29_1 t29_2 t29_3 t29_4 =>
        CallsH Tryz.prog F.copies_Table_of #[.pointer none, .agg #[.bool t29_0, .int .u64 t29_1, .int .u64 t29_2, .string t29_3, .string t29_4]] h_5 fun v_1 h_7 =>
        ∃ (t30_p : Option Addr) (t30_l t30_c : Nat), v_1 = .slice t30_p t30_l t30_c ∧
        ∃ (I : Int → Heap → Prop) (mu : Int → Heap → Nat), I 0 h_7 ∧ ∀ (t32 : Int) (h_8 : Heap), I t32 h_8 →
          if (decide (t32 < ((t30_l : Nat) : Int))) = true then
            ((0 : Int) ≤ t32 ∧ t32 < ((t30_l : Nat) : Int)) ∧
            onSome t30_p fun a =>
            ∃ (t35 : Int), hcell h_8 (a.add (Int.toNat t32 * 1)) = some (.int .i64 t35) ∧
            False
          else
            copies_Copy.ST h_8 ⟨b_1, 0, none⟩ 0 false 0 0 (⟨#[]⟩ : ByteArray) (⟨#[]⟩ : ByteArray) none 0 0 0 0 0 fun h_9 =>
            copies_Copy.LD h_9 ⟨b_1, 0, none⟩ fun r_0_2 r_1_2 r_2_2 r_3_2 r_4_2 r_5_2 r_6_p_2 r_6_l_2 r_6_c_2 r_7_2 r_8_2 r_9_2 =>
            R (.tuple #[.agg #[.int .i64 r_0_2, .bool r_1_2, .int .u64 r_2_2, .int .u64 r_3_2, .string r_4_2, .string r_5_2, .slice r_6_p_2 r_6_l_2 r_6_c_2, .int .u64 r_7_2, .int .i64 r_8_2, .int .u64 r_9_2], .int .i64 4]) h_9)
    (fun J =>
      CallsH Tryz.prog F.copies_isSession #[.int .i64 session] h_3 fun v_2 h_10 =>
      ∃ (t21 : Bool), v_2 = .bool t21 ∧
      if (!t21) = true then
        J true h_10
      else
        J (decide (deadline > 1099511627776)) h_10)
theorem copies_Table_Lease.nil.den_eq (endpoint_0 : Bool) (endpoint_1 : Int) (endpoint_2 : Int) (endpoint_3 : ByteArray) (endpoint_4 : ByteArray) (session : Int) (deadline : Int) (h : Heap) (R : Value → Heap → Prop) : copies_Table_Lease.nil.vc endpoint_0 endpoint_1 endpoint_2 endpoint_3 endpoint_4 session deadline h R = den Tryz.prog Tryz.f19.ntmps (.seq .leaf (.seq (.block (.seq .leaf (.cond (.seq .leaf .leaf) (.seq (.join [(19, .one (.bool))] .leaf) (.cond (.seq .leaf .leaf) .leaf))))) (.seq (.seq .leaf (.block (.loop [(32, .one (.int .i64))] (.seq .leaf (.seq (.cond .leaf .leaf) (.seq (.block (.seq .leaf (.seq .leaf (.seq .leaf (.cond (.seq .leaf (.seq .leaf (.seq .leaf (.seq .leaf (.seq .leaf .leaf))))) .leaf))))) .leaf)))))) (.seq .leaf .leaf)))) none (bodyOf Tryz.f19) (retK Tryz.prog Tryz.f19.results R) (argEnv [.pointer none, .agg #[.bool endpoint_0, .int .u64 endpoint_1, .int .u64 endpoint_2, .string endpoint_3, .string endpoint_4], .int .i64 session, .int .u64 deadline]) h := by kernel_rfl
theorem copies_Table_Lease.nil.walk {endpoint_0 : Bool} {endpoint_1 : Int} {endpoint_2 : Int} {endpoint_3 : ByteArray} {endpoint_4 : ByteArray} {session : Int} {deadline : Int} {h : Heap} {R : Value → Heap → Prop} (hv : copies_Table_Lease.nil.vc endpoint_0 endpoint_1 endpoint_2 endpoint_3 endpoint_4 session deadline h R) : CallsH Tryz.prog F.copies_Table_Lease #[.pointer none, .agg #[.bool endpoint_0, .int .u64 endpoint_1, .int .u64 endpoint_2, .string endpoint_3, .string endpoint_4], .int .i64 session, .int .u64 deadline] h R :=
  callsH_of_body _ Tryz.func19 rfl rfl (Eq.mp (copies_Table_Lease.nil.den_eq endpoint_0 endpoint_1 endpoint_2 endpoint_3 endpoint_4 session deadline h R) hv)

def copies_Table_find.vc (t : Nat) (num : Int) (session : Int) (h : Heap) (R : Value → Heap → Prop) : Prop :=
  CallsH Tryz.prog F.copies_Table_made #[.pointer (some ⟨t, 0, none⟩)] h fun v h_1 =>
  ∃ (t10 : Bool), v = .bool t10 ∧
  if (!t10) = true then
    R (.tuple #[.pointer none, .int .i64 6]) h_1
  else
    ∃ (t16 : Option Nat), hcell h_1 ⟨t, 0, none⟩ = some (.map t16) ∧
    ∃ (t18 : Option Addr), LookV Tryz.prog T.m_int_p_copies_Copy (.map t16) (.int .i64 num) false h_1 (.pointer t18) ∧
    if t18.isNone = true then
      R (.tuple #[.pointer none, .int .i64 4]) h_1
    else
      JoinP (fun (t20 : Bool) (h_2 : Heap) =>
        if t20 = true then
          R (.tuple #[.pointer none, .int .i64 14]) h_2
        else
          ∃ (t47 : Option Nat), hcell h_2 ⟨t, 0, none⟩ = some (.map t47) ∧
          ∃ (t49 : Option Addr), LookV Tryz.prog T.m_int_p_copies_Copy (.map t47) (.int .i64 num) false h_2 (.pointer t49) ∧
          R (.tuple #[.pointer t49, .int .i64 0]) h_2)
      (fun J =>
        ∃ (t24 : Option Nat), hcell h_1 ⟨t, 0, none⟩ = some (.map t24) ∧
        ∃ (t26 : Option Addr), LookV Tryz.prog T.m_int_p_copies_Copy (.map t24) (.int .i64 num) false h_1 (.pointer t26) ∧
        onSome t26 fun a =>
        ∃ (t29 : Int), hcell h_1 (a.add 8) = some (.int .i64 t29) ∧
        if (t29 == 0) = true then
          J true h_1
        else
          ∃ (t35 : Option Nat), hcell h_1 ⟨t, 0, none⟩ = some (.map t35) ∧
          ∃ (t37 : Option Addr), LookV Tryz.prog T.m_int_p_copies_Copy (.map t35) (.int .i64 num) false h_1 (.pointer t37) ∧
          onSome t37 fun a_1 =>
          ∃ (t40 : Int), hcell h_1 (a_1.add 8) = some (.int .i64 t40) ∧
          J (t40 != session) h_1)
theorem copies_Table_find.den_eq (t : Nat) (num : Int) (session : Int) (h : Heap) (R : Value → Heap → Prop) : copies_Table_find.vc t num session h R = den Tryz.prog Tryz.f83.ntmps (.seq .leaf (.seq (.block (.seq .leaf (.cond (.seq .leaf .leaf) (.seq .leaf (.cond (.seq .leaf .leaf) (.seq (.join [(20, .one (.bool))] .leaf) (.cond (.seq .leaf .leaf) .leaf))))))) (.seq .leaf .leaf))) none (bodyOf Tryz.f83) (retK Tryz.prog Tryz.f83.results R) (argEnv [.pointer (some ⟨t, 0, none⟩), .int .i64 num, .int .i64 session]) h := by kernel_rfl
theorem copies_Table_find.walk {t : Nat} {num : Int} {session : Int} {h : Heap} {R : Value → Heap → Prop} (hv : copies_Table_find.vc t num session h R) : CallsH Tryz.prog F.copies_Table_find #[.pointer (some ⟨t, 0, none⟩), .int .i64 num, .int .i64 session] h R :=
  callsH_of_body _ Tryz.func83 rfl rfl (Eq.mp (copies_Table_find.den_eq t num session h R) hv)

def copies_Table_find.nil.vc (num : Int) (session : Int) (h : Heap) (R : Value → Heap → Prop) : Prop :=
  CallsH Tryz.prog F.copies_Table_made #[.pointer none] h fun v h_1 =>
  ∃ (t10 : Bool), v = .bool t10 ∧
  if (!t10) = true then
    R (.tuple #[.pointer none, .int .i64 6]) h_1
  else
    False
theorem copies_Table_find.nil.den_eq (num : Int) (session : Int) (h : Heap) (R : Value → Heap → Prop) : copies_Table_find.nil.vc num session h R = den Tryz.prog Tryz.f83.ntmps (.seq .leaf (.seq (.block (.seq .leaf (.cond (.seq .leaf .leaf) (.seq .leaf (.cond (.seq .leaf .leaf) (.seq (.join [(20, .one (.bool))] .leaf) (.cond (.seq .leaf .leaf) .leaf))))))) (.seq .leaf .leaf))) none (bodyOf Tryz.f83) (retK Tryz.prog Tryz.f83.results R) (argEnv [.pointer none, .int .i64 num, .int .i64 session]) h := by kernel_rfl
theorem copies_Table_find.nil.walk {num : Int} {session : Int} {h : Heap} {R : Value → Heap → Prop} (hv : copies_Table_find.nil.vc num session h R) : CallsH Tryz.prog F.copies_Table_find #[.pointer none, .int .i64 num, .int .i64 session] h R :=
  callsH_of_body _ Tryz.func83 rfl rfl (Eq.mp (copies_Table_find.nil.den_eq num session h R) hv)

def copies_Table_free.vc (t : Nat) (n : Int) (h : Heap) (R : Value → Heap → Prop) : Prop :=
  ∃ (t7 : Option Addr), hcell h ⟨t, 6, none⟩ = some (.pointer t7) ∧
  CallsH Tryz.prog F.alarm_Alarm_Drop #[.pointer t7, .int .i64 n] h fun v h_1 =>
  ∃ (t9 : Int), v = .int .i64 t9 ∧
  ∃ (t13 : Option Nat), hcell h_1 ⟨t, 0, none⟩ = some (.map t13) ∧
  ∃ (t15 : Option Addr), LookV Tryz.prog T.m_int_p_copies_Copy (.map t13) (.int .i64 n) false h_1 (.pointer t15) ∧
  ∃ (t19 : Option Nat), hcell h_1 ⟨t, 0, none⟩ = some (.map t19) ∧
  ∃ (t21 : Option Addr), LookV Tryz.prog T.m_int_p_copies_Copy (.map t19) (.int .i64 n) false h_1 (.pointer t21) ∧
  onSome t15 fun a =>
  StoreP h_1 (a.add 8) (.int .i64 0) fun h_2 =>
  onSome t21 fun a_1 =>
  StoreP h_2 (a_1.add 9) (.int .u64 0) fun h_3 =>
  R (.tuple #[]) h_3
theorem copies_Table_free.den_eq (t : Nat) (n : Int) (h : Heap) (R : Value → Heap → Prop) : copies_Table_free.vc t n h R = den Tryz.prog Tryz.f85.ntmps (.seq .leaf (.plan (.op 0 (.op 1 (.op 2 (.op 3 (.op 4 (.op 5 (.op 6 (.op 7 (.op 8 (.op 9 (.op 10 (.op 11 (.op 12 (.op 13 (.op 14 (.op 15 (.op 16 (.op 17 .done)))))))))))))))))))) none (bodyOf Tryz.f85) (retK Tryz.prog Tryz.f85.results R) (argEnv [.pointer (some ⟨t, 0, none⟩), .int .i64 n]) h := by kernel_rfl
theorem copies_Table_free.walk {t : Nat} {n : Int} {h : Heap} {R : Value → Heap → Prop} (hv : copies_Table_free.vc t n h R) : CallsH Tryz.prog F.copies_Table_free #[.pointer (some ⟨t, 0, none⟩), .int .i64 n] h R :=
  callsH_of_body _ Tryz.func85 rfl rfl (Eq.mp (copies_Table_free.den_eq t n h R) hv)

def copies_Table_remove.vc (t : Nat) (n : Int) (h : Heap) (R : Value → Heap → Prop) : Prop :=
  ∃ (t7 : Option Addr), hcell h ⟨t, 6, none⟩ = some (.pointer t7) ∧
  CallsH Tryz.prog F.alarm_Alarm_Drop #[.pointer t7, .int .i64 n] h fun v h_1 =>
  ∃ (t9 : Int), v = .int .i64 t9 ∧
  ∃ (t13 : Option Addr), hcell h_1 ⟨t, 5, none⟩ = some (.pointer t13) ∧
  CallsH Tryz.prog F.alarm_Alarm_Drop #[.pointer t13, .int .i64 n] h_1 fun v_1 h_2 =>
  ∃ (t15 : Int), v_1 = .int .i64 t15 ∧
  ∃ (t19 : Option Nat), hcell h_2 ⟨t, 0, none⟩ = some (.map t19) ∧
  denSem Tryz.prog (Builtin.delete_ #[T.m_int_p_copies_Copy, T.int] T.tup_ #[.map t19, .int .i64 n]) h_2 fun v_2 h_3 =>
  v_2 = .tuple #[] ∧
  R (.tuple #[]) h_3
theorem copies_Table_remove.den_eq (t : Nat) (n : Int) (h : Heap) (R : Value → Heap → Prop) : copies_Table_remove.vc t n h R = den Tryz.prog Tryz.f84.ntmps (.seq .leaf (.seq .leaf .leaf)) none (bodyOf Tryz.f84) (retK Tryz.prog Tryz.f84.results R) (argEnv [.pointer (some ⟨t, 0, none⟩), .int .i64 n]) h := by kernel_rfl
theorem copies_Table_remove.walk {t : Nat} {n : Int} {h : Heap} {R : Value → Heap → Prop} (hv : copies_Table_remove.vc t n h R) : CallsH Tryz.prog F.copies_Table_remove #[.pointer (some ⟨t, 0, none⟩), .int .i64 n] h R :=
  callsH_of_body _ Tryz.func84 rfl rfl (Eq.mp (copies_Table_remove.den_eq t n h R) hv)

def copies_Table_Ack.vc (t : Nat) (num : Int) (session : Int) (h : Heap) (R : Value → Heap → Prop) : Prop :=
  CallsH Tryz.prog F.copies_Table_find #[.pointer (some ⟨t, 0, none⟩), .int .i64 num, .int .i64 session] h fun v h_1 =>
  ∃ (t13_0 : Option Addr), ∃ (t13_1 : Int), v = .tuple #[.pointer t13_0, .int .i64 t13_1] ∧
  JoinP (fun (h_2 : Heap) =>
    R (.int .i64 t13_1) h_2)
  (fun J =>
    if (t13_1 == 0) = true then
      CallsH Tryz.prog F.copies_Table_remove #[.pointer (some ⟨t, 0, none⟩), .int .i64 num] h_1 fun v_1 h_3 =>
      v_1 = .tuple #[] ∧
      ∃ (t24 : Int), hcell h_3 ⟨t, 2, none⟩ = some (.int .i64 t24) ∧
      StoreP h_3 ⟨t, 2, none⟩ (.int .i64 (IntKind.wrap .i64 (t24 + 1))) fun h_4 =>
      J h_4
    else
      J h_1)
theorem copies_Table_Ack.den_eq (t : Nat) (num : Int) (session : Int) (h : Heap) (R : Value → Heap → Prop) : copies_Table_Ack.vc t num session h R = den Tryz.prog Tryz.f23.ntmps (.seq .leaf (.seq .leaf (.seq (.seq .leaf (.join [] (.cond (.seq .leaf .leaf) .leaf))) (.seq .leaf .leaf)))) none (bodyOf Tryz.f23) (retK Tryz.prog Tryz.f23.results R) (argEnv [.pointer (some ⟨t, 0, none⟩), .int .i64 num, .int .i64 session]) h := by kernel_rfl
theorem copies_Table_Ack.walk {t : Nat} {num : Int} {session : Int} {h : Heap} {R : Value → Heap → Prop} (hv : copies_Table_Ack.vc t num session h R) : CallsH Tryz.prog F.copies_Table_Ack #[.pointer (some ⟨t, 0, none⟩), .int .i64 num, .int .i64 session] h R :=
  callsH_of_body _ Tryz.func23 rfl rfl (Eq.mp (copies_Table_Ack.den_eq t num session h R) hv)

def copies_Table_Ack.nil.vc (num : Int) (session : Int) (h : Heap) (R : Value → Heap → Prop) : Prop :=
  CallsH Tryz.prog F.copies_Table_find #[.pointer none, .int .i64 num, .int .i64 session] h fun v h_1 =>
  ∃ (t13_0 : Option Addr), ∃ (t13_1 : Int), v = .tuple #[.pointer t13_0, .int .i64 t13_1] ∧
  JoinP (fun (h_2 : Heap) =>
    R (.int .i64 t13_1) h_2)
  (fun J =>
    if (t13_1 == 0) = true then
      CallsH Tryz.prog F.copies_Table_remove #[.pointer none, .int .i64 num] h_1 fun v_1 h_3 =>
      v_1 = .tuple #[] ∧
      False
    else
      J h_1)
theorem copies_Table_Ack.nil.den_eq (num : Int) (session : Int) (h : Heap) (R : Value → Heap → Prop) : copies_Table_Ack.nil.vc num session h R = den Tryz.prog Tryz.f23.ntmps (.seq .leaf (.seq .leaf (.seq (.seq .leaf (.join [] (.cond (.seq .leaf .leaf) .leaf))) (.seq .leaf .leaf)))) none (bodyOf Tryz.f23) (retK Tryz.prog Tryz.f23.results R) (argEnv [.pointer none, .int .i64 num, .int .i64 session]) h := by kernel_rfl
theorem copies_Table_Ack.nil.walk {num : Int} {session : Int} {h : Heap} {R : Value → Heap → Prop} (hv : copies_Table_Ack.nil.vc num session h R) : CallsH Tryz.prog F.copies_Table_Ack #[.pointer none, .int .i64 num, .int .i64 session] h R :=
  callsH_of_body _ Tryz.func23 rfl rfl (Eq.mp (copies_Table_Ack.nil.den_eq num session h R) hv)

def copies_Table_Release.vc (t : Nat) (num : Int) (session : Int) (h : Heap) (R : Value → Heap → Prop) : Prop :=
  CallsH Tryz.prog F.copies_Table_find #[.pointer (some ⟨t, 0, none⟩), .int .i64 num, .int .i64 session] h fun v h_1 =>
  ∃ (t13_0 : Option Addr), ∃ (t13_1 : Int), v = .tuple #[.pointer t13_0, .int .i64 t13_1] ∧
  JoinP (fun (h_2 : Heap) =>
    R (.int .i64 t13_1) h_2)
  (fun J =>
    if (t13_1 == 0) = true then
      CallsH Tryz.prog F.copies_Table_free #[.pointer (some ⟨t, 0, none⟩), .int .i64 num] h_1 fun v_1 h_3 =>
      v_1 = .tuple #[] ∧
      J h_3
    else
      J h_1)
theorem copies_Table_Release.den_eq (t : Nat) (num : Int) (session : Int) (h : Heap) (R : Value → Heap → Prop) : copies_Table_Release.vc t num session h R = den Tryz.prog Tryz.f24.ntmps (.seq .leaf (.seq .leaf (.seq (.seq .leaf (.join [] (.cond .leaf .leaf))) (.seq .leaf .leaf)))) none (bodyOf Tryz.f24) (retK Tryz.prog Tryz.f24.results R) (argEnv [.pointer (some ⟨t, 0, none⟩), .int .i64 num, .int .i64 session]) h := by kernel_rfl
theorem copies_Table_Release.walk {t : Nat} {num : Int} {session : Int} {h : Heap} {R : Value → Heap → Prop} (hv : copies_Table_Release.vc t num session h R) : CallsH Tryz.prog F.copies_Table_Release #[.pointer (some ⟨t, 0, none⟩), .int .i64 num, .int .i64 session] h R :=
  callsH_of_body _ Tryz.func24 rfl rfl (Eq.mp (copies_Table_Release.den_eq t num session h R) hv)

def copies_Table_Release.nil.vc (num : Int) (session : Int) (h : Heap) (R : Value → Heap → Prop) : Prop :=
  CallsH Tryz.prog F.copies_Table_find #[.pointer none, .int .i64 num, .int .i64 session] h fun v h_1 =>
  ∃ (t13_0 : Option Addr), ∃ (t13_1 : Int), v = .tuple #[.pointer t13_0, .int .i64 t13_1] ∧
  JoinP (fun (h_2 : Heap) =>
    R (.int .i64 t13_1) h_2)
  (fun J =>
    if (t13_1 == 0) = true then
      CallsH Tryz.prog F.copies_Table_free #[.pointer none, .int .i64 num] h_1 fun v_1 h_3 =>
      v_1 = .tuple #[] ∧
      J h_3
    else
      J h_1)
theorem copies_Table_Release.nil.den_eq (num : Int) (session : Int) (h : Heap) (R : Value → Heap → Prop) : copies_Table_Release.nil.vc num session h R = den Tryz.prog Tryz.f24.ntmps (.seq .leaf (.seq .leaf (.seq (.seq .leaf (.join [] (.cond .leaf .leaf))) (.seq .leaf .leaf)))) none (bodyOf Tryz.f24) (retK Tryz.prog Tryz.f24.results R) (argEnv [.pointer none, .int .i64 num, .int .i64 session]) h := by kernel_rfl
theorem copies_Table_Release.nil.walk {num : Int} {session : Int} {h : Heap} {R : Value → Heap → Prop} (hv : copies_Table_Release.nil.vc num session h R) : CallsH Tryz.prog F.copies_Table_Release #[.pointer none, .int .i64 num, .int .i64 session] h R :=
  callsH_of_body _ Tryz.func24 rfl rfl (Eq.mp (copies_Table_Release.nil.den_eq num session h R) hv)

def copies_Table_Pass.vc (t : Nat) (now : Int) (h : Heap) (R : Value → Heap → Prop) : Prop :=
  CallsH Tryz.prog F.copies_Table_made #[.pointer (some ⟨t, 0, none⟩)] h fun v h_1 =>
  ∃ (t11 : Bool), v = .bool t11 ∧
  if (!t11) = true then
    R (.slice none 0 0) h_1
  else
    ∃ (t16 : Option Addr), hcell h_1 ⟨t, 5, none⟩ = some (.pointer t16) ∧
    CallsH Tryz.prog F.alarm_Alarm_Ring #[.pointer t16, .int .u64 now] h_1 fun v_1 h_2 =>
    ∃ (t18_p : Option Addr) (t18_l t18_c : Nat), v_1 = .slice t18_p t18_l t18_c ∧
    ∃ (I : Int → Heap → Prop) (mu : Int → Heap → Nat), I 0 h_2 ∧ ∀ (t21 : Int) (h_3 : Heap), I t21 h_3 →
      if (decide (t21 < ((t18_l : Nat) : Int))) = true then
        ((0 : Int) ≤ t21 ∧ t21 < ((t18_l : Nat) : Int)) ∧
        onSome t18_p fun a =>
        ∃ (t24 : Int), hcell h_3 (a.add (Int.toNat t21 * 1)) = some (.int .i64 t24) ∧
        CallsH Tryz.prog F.copies_Table_remove #[.pointer (some ⟨t, 0, none⟩), .int .i64 t24] h_3 fun v_2 h_4 =>
        v_2 = .tuple #[] ∧
        ∃ (t31 : Int), hcell h_4 ⟨t, 3, none⟩ = some (.int .i64 t31) ∧
        StoreP h_4 ⟨t, 3, none⟩ (.int .i64 (IntKind.wrap .i64 (t31 + 1))) fun h_5 =>
        (I (IntKind.wrap .i64 (t21 + 1)) h_5 ∧ mu (IntKind.wrap .i64 (t21 + 1)) h_5 < mu t21 h_3)
      else
        ∃ (t39 : Option Addr), hcell h_3 ⟨t, 6, none⟩ = some (.pointer t39) ∧
        CallsH Tryz.prog F.alarm_Alarm_Ring #[.pointer t39, .int .u64 now] h_3 fun v_3 h_6 =>
        ∃ (t41_p : Option Addr) (t41_l t41_c : Nat), v_3 = .slice t41_p t41_l t41_c ∧
        ∃ (I_1 : Int → Heap → Prop) (mu_1 : Int → Heap → Nat), I_1 0 h_6 ∧ ∀ (t43 : Int) (h_7 : Heap), I_1 t43 h_7 →
          if (decide (t43 < ((t41_l : Nat) : Int))) = true then
            ((0 : Int) ≤ t43 ∧ t43 < ((t41_l : Nat) : Int)) ∧
            onSome t41_p fun a_1 =>
            ∃ (t46 : Int), hcell h_7 (a_1.add (Int.toNat t43 * 1)) = some (.int .i64 t46) ∧
            CallsH Tryz.prog F.copies_Table_free #[.pointer (some ⟨t, 0, none⟩), .int .i64 t46] h_7 fun v_4 h_8 =>
            v_4 = .tuple #[] ∧
            (I_1 (IntKind.wrap .i64 (t43 + 1)) h_8 ∧ mu_1 (IntKind.wrap .i64 (t43 + 1)) h_8 < mu_1 t43 h_7)
          else
            R (.slice t18_p t18_l t18_c) h_7
theorem copies_Table_Pass.den_eq (t : Nat) (now : Int) (h : Heap) (R : Value → Heap → Prop) : copies_Table_Pass.vc t now h R = den Tryz.prog Tryz.f25.ntmps (.seq .leaf (.seq (.seq .leaf (.cond (.seq .leaf .leaf) .leaf)) (.seq .leaf (.seq (.seq .leaf (.block (.loop [(21, .one (.int .i64))] (.seq .leaf (.seq (.cond .leaf .leaf) (.seq (.block (.seq .leaf (.seq .leaf .leaf))) .leaf)))))) (.seq (.seq .leaf (.block (.loop [(43, .one (.int .i64))] (.seq .leaf (.seq (.cond .leaf .leaf) (.seq (.block (.seq .leaf .leaf)) .leaf)))))) (.seq .leaf .leaf)))))) none (bodyOf Tryz.f25) (retK Tryz.prog Tryz.f25.results R) (argEnv [.pointer (some ⟨t, 0, none⟩), .int .u64 now]) h := by kernel_rfl
theorem copies_Table_Pass.walk {t : Nat} {now : Int} {h : Heap} {R : Value → Heap → Prop} (hv : copies_Table_Pass.vc t now h R) : CallsH Tryz.prog F.copies_Table_Pass #[.pointer (some ⟨t, 0, none⟩), .int .u64 now] h R :=
  callsH_of_body _ Tryz.func25 rfl rfl (Eq.mp (copies_Table_Pass.den_eq t now h R) hv)

def copies_Table_Pass.nil.vc (now : Int) (h : Heap) (R : Value → Heap → Prop) : Prop :=
  CallsH Tryz.prog F.copies_Table_made #[.pointer none] h fun v h_1 =>
  ∃ (t11 : Bool), v = .bool t11 ∧
  if (!t11) = true then
    R (.slice none 0 0) h_1
  else
    False
theorem copies_Table_Pass.nil.den_eq (now : Int) (h : Heap) (R : Value → Heap → Prop) : copies_Table_Pass.nil.vc now h R = den Tryz.prog Tryz.f25.ntmps (.seq .leaf (.seq (.seq .leaf (.cond (.seq .leaf .leaf) .leaf)) (.seq .leaf (.seq (.seq .leaf (.block (.loop [(21, .one (.int .i64))] (.seq .leaf (.seq (.cond .leaf .leaf) (.seq (.block (.seq .leaf (.seq .leaf .leaf))) .leaf)))))) (.seq (.seq .leaf (.block (.loop [(43, .one (.int .i64))] (.seq .leaf (.seq (.cond .leaf .leaf) (.seq (.block (.seq .leaf .leaf)) .leaf)))))) (.seq .leaf .leaf)))))) none (bodyOf Tryz.f25) (retK Tryz.prog Tryz.f25.results R) (argEnv [.pointer none, .int .u64 now]) h := by kernel_rfl
theorem copies_Table_Pass.nil.walk {now : Int} {h : Heap} {R : Value → Heap → Prop} (hv : copies_Table_Pass.nil.vc now h R) : CallsH Tryz.prog F.copies_Table_Pass #[.pointer none, .int .u64 now] h R :=
  callsH_of_body _ Tryz.func25 rfl rfl (Eq.mp (copies_Table_Pass.nil.den_eq now h R) hv)

def copies_Table_Drop.vc (t : Nat) (endpoint_0 : Bool) (endpoint_1 : Int) (endpoint_2 : Int) (endpoint_3 : ByteArray) (endpoint_4 : ByteArray) (h : Heap) (R : Value → Heap → Prop) : Prop :=
  NewP h (.cells #[.bool endpoint_0, .int .u64 endpoint_1, .int .u64 endpoint_2, .string endpoint_3, .string endpoint_4] T.eid_Eid) fun b h_1 =>
  eid_Eid.LD h_1 ⟨b, 0, none⟩ fun t9_0 t9_1 t9_2 t9_3 t9_4 =>
  CallsH Tryz.prog F.copies_Table_of #[.pointer (some ⟨t, 0, none⟩), .agg #[.bool t9_0, .int .u64 t9_1, .int .u64 t9_2, .string t9_3, .string t9_4]] h_1 fun v h_2 =>
  ∃ (t10_p : Option Addr) (t10_l t10_c : Nat), v = .slice t10_p t10_l t10_c ∧
  ∃ (I : Int → Heap → Prop) (mu : Int → Heap → Nat), I 0 h_2 ∧ ∀ (t13 : Int) (h_3 : Heap), I t13 h_3 →
    if (decide (t13 < ((t10_l : Nat) : Int))) = true then
      ((0 : Int) ≤ t13 ∧ t13 < ((t10_l : Nat) : Int)) ∧
      onSome t10_p fun a =>
      ∃ (t16 : Int), hcell h_3 (a.add (Int.toNat t13 * 1)) = some (.int .i64 t16) ∧
      CallsH Tryz.prog F.copies_Table_remove #[.pointer (some ⟨t, 0, none⟩), .int .i64 t16] h_3 fun v_1 h_4 =>
      v_1 = .tuple #[] ∧
      ∃ (t23 : Int), hcell h_4 ⟨t, 4, none⟩ = some (.int .i64 t23) ∧
      StoreP h_4 ⟨t, 4, none⟩ (.int .i64 (IntKind.wrap .i64 (t23 + 1))) fun h_5 =>
      (I (IntKind.wrap .i64 (t13 + 1)) h_5 ∧ mu (IntKind.wrap .i64 (t13 + 1)) h_5 < mu t13 h_3)
    else
      R (.slice t10_p t10_l t10_c) h_3
theorem copies_Table_Drop.den_eq (t : Nat) (endpoint_0 : Bool) (endpoint_1 : Int) (endpoint_2 : Int) (endpoint_3 : ByteArray) (endpoint_4 : ByteArray) (h : Heap) (R : Value → Heap → Prop) : copies_Table_Drop.vc t endpoint_0 endpoint_1 endpoint_2 endpoint_3 endpoint_4 h R = den Tryz.prog Tryz.f26.ntmps (.seq .leaf (.seq .leaf (.seq (.seq .leaf (.block (.loop [(13, .one (.int .i64))] (.seq .leaf (.seq (.cond .leaf .leaf) (.seq (.block (.seq .leaf (.seq .leaf .leaf))) .leaf)))))) (.seq .leaf .leaf)))) none (bodyOf Tryz.f26) (retK Tryz.prog Tryz.f26.results R) (argEnv [.pointer (some ⟨t, 0, none⟩), .agg #[.bool endpoint_0, .int .u64 endpoint_1, .int .u64 endpoint_2, .string endpoint_3, .string endpoint_4]]) h := by kernel_rfl
theorem copies_Table_Drop.walk {t : Nat} {endpoint_0 : Bool} {endpoint_1 : Int} {endpoint_2 : Int} {endpoint_3 : ByteArray} {endpoint_4 : ByteArray} {h : Heap} {R : Value → Heap → Prop} (hv : copies_Table_Drop.vc t endpoint_0 endpoint_1 endpoint_2 endpoint_3 endpoint_4 h R) : CallsH Tryz.prog F.copies_Table_Drop #[.pointer (some ⟨t, 0, none⟩), .agg #[.bool endpoint_0, .int .u64 endpoint_1, .int .u64 endpoint_2, .string endpoint_3, .string endpoint_4]] h R :=
  callsH_of_body _ Tryz.func26 rfl rfl (Eq.mp (copies_Table_Drop.den_eq t endpoint_0 endpoint_1 endpoint_2 endpoint_3 endpoint_4 h R) hv)

def copies_Table_Drop.nil.vc (endpoint_0 : Bool) (endpoint_1 : Int) (endpoint_2 : Int) (endpoint_3 : ByteArray) (endpoint_4 : ByteArray) (h : Heap) (R : Value → Heap → Prop) : Prop :=
  NewP h (.cells #[.bool endpoint_0, .int .u64 endpoint_1, .int .u64 endpoint_2, .string endpoint_3, .string endpoint_4] T.eid_Eid) fun b h_1 =>
  eid_Eid.LD h_1 ⟨b, 0, none⟩ fun t9_0 t9_1 t9_2 t9_3 t9_4 =>
  CallsH Tryz.prog F.copies_Table_of #[.pointer none, .agg #[.bool t9_0, .int .u64 t9_1, .int .u64 t9_2, .string t9_3, .string t9_4]] h_1 fun v h_2 =>
  ∃ (t10_p : Option Addr) (t10_l t10_c : Nat), v = .slice t10_p t10_l t10_c ∧
  ∃ (I : Int → Heap → Prop) (mu : Int → Heap → Nat), I 0 h_2 ∧ ∀ (t13 : Int) (h_3 : Heap), I t13 h_3 →
    if (decide (t13 < ((t10_l : Nat) : Int))) = true then
      ((0 : Int) ≤ t13 ∧ t13 < ((t10_l : Nat) : Int)) ∧
      onSome t10_p fun a =>
      ∃ (t16 : Int), hcell h_3 (a.add (Int.toNat t13 * 1)) = some (.int .i64 t16) ∧
      CallsH Tryz.prog F.copies_Table_remove #[.pointer none, .int .i64 t16] h_3 fun v_1 h_4 =>
      v_1 = .tuple #[] ∧
      False
    else
      R (.slice t10_p t10_l t10_c) h_3
theorem copies_Table_Drop.nil.den_eq (endpoint_0 : Bool) (endpoint_1 : Int) (endpoint_2 : Int) (endpoint_3 : ByteArray) (endpoint_4 : ByteArray) (h : Heap) (R : Value → Heap → Prop) : copies_Table_Drop.nil.vc endpoint_0 endpoint_1 endpoint_2 endpoint_3 endpoint_4 h R = den Tryz.prog Tryz.f26.ntmps (.seq .leaf (.seq .leaf (.seq (.seq .leaf (.block (.loop [(13, .one (.int .i64))] (.seq .leaf (.seq (.cond .leaf .leaf) (.seq (.block (.seq .leaf (.seq .leaf .leaf))) .leaf)))))) (.seq .leaf .leaf)))) none (bodyOf Tryz.f26) (retK Tryz.prog Tryz.f26.results R) (argEnv [.pointer none, .agg #[.bool endpoint_0, .int .u64 endpoint_1, .int .u64 endpoint_2, .string endpoint_3, .string endpoint_4]]) h := by kernel_rfl
theorem copies_Table_Drop.nil.walk {endpoint_0 : Bool} {endpoint_1 : Int} {endpoint_2 : Int} {endpoint_3 : ByteArray} {endpoint_4 : ByteArray} {h : Heap} {R : Value → Heap → Prop} (hv : copies_Table_Drop.nil.vc endpoint_0 endpoint_1 endpoint_2 endpoint_3 endpoint_4 h R) : CallsH Tryz.prog F.copies_Table_Drop #[.pointer none, .agg #[.bool endpoint_0, .int .u64 endpoint_1, .int .u64 endpoint_2, .string endpoint_3, .string endpoint_4]] h R :=
  callsH_of_body _ Tryz.func26 rfl rfl (Eq.mp (copies_Table_Drop.nil.den_eq endpoint_0 endpoint_1 endpoint_2 endpoint_3 endpoint_4 h R) hv)

def copies_Table_All.vc (t : Nat) (h : Heap) (R : Value → Heap → Prop) : Prop :=
  CallsH Tryz.prog F.copies_Table_numbers #[.pointer (some ⟨t, 0, none⟩)] h fun v h_1 =>
  ∃ (t8_p : Option Addr) (t8_l t8_c : Nat), v = .slice t8_p t8_l t8_c ∧
  ∃ (I : Option Addr → Nat → Nat → Int → Heap → Prop) (mu : Option Addr → Nat → Nat → Int → Heap → Nat), I none 0 0 0 h_1 ∧ ∀ (out_p : Option Addr) (out_l out_c : Nat) (t10 : Int) (h_2 : Heap), I out_p out_l out_c t10 h_2 →
    if (decide (t10 < ((t8_l : Nat) : Int))) = true then
      ((0 : Int) ≤ t10 ∧ t10 < ((t8_l : Nat) : Int)) ∧
      onSome t8_p fun a =>
      ∃ (t13 : Int), hcell h_2 (a.add (Int.toNat t10 * 1)) = some (.int .i64 t13) ∧
      ∃ (t17 : Option Nat), hcell h_2 ⟨t, 0, none⟩ = some (.map t17) ∧
      ∃ (t19 : Option Addr), LookV Tryz.prog T.m_int_p_copies_Copy (.map t17) (.int .i64 t13) false h_2 (.pointer t19) ∧
      onSome t19 fun a_1 =>
      copies_Copy.LD h_2 a_1 fun t21_0 t21_1 t21_2 t21_3 t21_4 t21_5 t21_6_p t21_6_l t21_6_c t21_7 t21_8 t21_9 =>
      NewP h_2 (.cells #[.int .i64 0, .bool false, .int .u64 0, .int .u64 0, .string (⟨#[]⟩ : ByteArray), .string (⟨#[]⟩ : ByteArray), .slice none 0 0, .int .u64 0, .int .i64 0, .int .u64 0] T.copies_Copy) fun b h_3 =>
      copies_Copy.ST h_3 ⟨b, 0, none⟩ t21_0 t21_1 t21_2 t21_3 t21_4 t21_5 t21_6_p t21_6_l t21_6_c t21_7 t21_8 t21_9 fun h_4 =>
      ∃ (t23_p : Option Addr) (t23_l t23_c : Nat), hcell h_4 ⟨b, 6, none⟩ = some (.slice t23_p t23_l t23_c) ∧
      CallsH Tryz.prog F.slices_Clone_s_byte_byte #[.slice t23_p t23_l t23_c] h_4 fun v_1 h_5 =>
      ∃ (t24_p : Option Addr) (t24_l t24_c : Nat), v_1 = .slice t24_p t24_l t24_c ∧
      StoreP h_5 ⟨b, 6, none⟩ (.slice t24_p t24_l t24_c) fun h_6 =>
      copies_Copy.LD h_6 ⟨b, 0, none⟩ fun t27_0 t27_1 t27_2 t27_3 t27_4 t27_5 t27_6_p t27_6_l t27_6_c t27_7 t27_8 t27_9 =>
      NewP h_6 (.cells #[.int .i64 t27_0, .bool t27_1, .int .u64 t27_2, .int .u64 t27_3, .string t27_4, .string t27_5, .slice t27_6_p t27_6_l t27_6_c, .int .u64 t27_7, .int .i64 t27_8, .int .u64 t27_9] T.copies_Copy) fun b_1 h_7 =>
      denSem Tryz.prog (Builtin.append_ #[T.s_copies_Copy, T.s_copies_Copy] T.s_copies_Copy #[.slice out_p out_l out_c, .slice (some ⟨b_1, 0, none⟩) 1 1]) h_7 fun v_2 h_8 =>
      ∃ (t29_p : Option Addr) (t29_l t29_c : Nat), v_2 = .slice t29_p t29_l t29_c ∧
      (I t29_p t29_l t29_c (IntKind.wrap .i64 (t10 + 1)) h_8 ∧ mu t29_p t29_l t29_c (IntKind.wrap .i64 (t10 + 1)) h_8 < mu out_p out_l out_c t10 h_2)
    else
      R (.slice out_p out_l out_c) h_2
theorem copies_Table_All.den_eq (t : Nat) (h : Heap) (R : Value → Heap → Prop) : copies_Table_All.vc t h R = den Tryz.prog Tryz.f27.ntmps (.seq .leaf (.seq .leaf (.seq (.seq .leaf (.block (.loop [(3, .one (.slice)), (10, .one (.int .i64))] (.seq .leaf (.seq (.cond .leaf .leaf) (.seq (.block (.seq .leaf (.seq .leaf (.seq .leaf .leaf)))) .leaf)))))) (.seq .leaf .leaf)))) none (bodyOf Tryz.f27) (retK Tryz.prog Tryz.f27.results R) (argEnv [.pointer (some ⟨t, 0, none⟩)]) h := by kernel_rfl
theorem copies_Table_All.walk {t : Nat} {h : Heap} {R : Value → Heap → Prop} (hv : copies_Table_All.vc t h R) : CallsH Tryz.prog F.copies_Table_All #[.pointer (some ⟨t, 0, none⟩)] h R :=
  callsH_of_body _ Tryz.func27 rfl rfl (Eq.mp (copies_Table_All.den_eq t h R) hv)

def copies_Table_All.nil.vc  (h : Heap) (R : Value → Heap → Prop) : Prop :=
  CallsH Tryz.prog F.copies_Table_numbers #[.pointer none] h fun v h_1 =>
  ∃ (t8_p : Option Addr) (t8_l t8_c : Nat), v = .slice t8_p t8_l t8_c ∧
  ∃ (I : Option Addr → Nat → Nat → Int → Heap → Prop) (mu : Option Addr → Nat → Nat → Int → Heap → Nat), I none 0 0 0 h_1 ∧ ∀ (out_p : Option Addr) (out_l out_c : Nat) (t10 : Int) (h_2 : Heap), I out_p out_l out_c t10 h_2 →
    if (decide (t10 < ((t8_l : Nat) : Int))) = true then
      ((0 : Int) ≤ t10 ∧ t10 < ((t8_l : Nat) : Int)) ∧
      onSome t8_p fun a =>
      ∃ (t13 : Int), hcell h_2 (a.add (Int.toNat t10 * 1)) = some (.int .i64 t13) ∧
      False
    else
      R (.slice out_p out_l out_c) h_2
theorem copies_Table_All.nil.den_eq  (h : Heap) (R : Value → Heap → Prop) : copies_Table_All.nil.vc h R = den Tryz.prog Tryz.f27.ntmps (.seq .leaf (.seq .leaf (.seq (.seq .leaf (.block (.loop [(3, .one (.slice)), (10, .one (.int .i64))] (.seq .leaf (.seq (.cond .leaf .leaf) (.seq (.block (.seq .leaf (.seq .leaf (.seq .leaf .leaf)))) .leaf)))))) (.seq .leaf .leaf)))) none (bodyOf Tryz.f27) (retK Tryz.prog Tryz.f27.results R) (argEnv [.pointer none]) h := by kernel_rfl
theorem copies_Table_All.nil.walk  {h : Heap} {R : Value → Heap → Prop} (hv : copies_Table_All.nil.vc h R) : CallsH Tryz.prog F.copies_Table_All #[.pointer none] h R :=
  callsH_of_body _ Tryz.func27 rfl rfl (Eq.mp (copies_Table_All.nil.den_eq h R) hv)

end Go.Proofs.YtgccegnmggjkjaaGreatDoor

/-
  What is proved here: a table of copies in memory: what it is, and what stays of it. No condition.
-/
set_option maxRecDepth 100000
namespace Go.Proofs.YtgccegnmggjkjaaGreatDoor
open Go.Den Go.Heapq
namespace Cps
open Eid Alarm
variable {h h' : Heap} {R : Value → Heap → Prop} {t : Nat} {X : Ft}

structure Cp where
  num : Nat
  e : Ev
  d : List UInt8
  till : Nat
  ses : Int
  dl : Nat
structure CV where
  num : Nat
  b : Nat
  e : Ev
  v : BV
  till : Nat
  ses : Int
  dl : Nat
def CV.abs (x : CV) : Cp := ⟨x.num, x.e, x.v.b, x.till, x.ses, x.dl⟩
abbrev CV.at (h : Heap) (b : Nat) (x : CV) : Prop := copies_Copy.at h b (x.num : Int) x.e.ipn x.e.node x.e.svc x.e.host x.e.dem x.v.p x.v.b.length x.v.c (x.till : Int) x.ses (x.dl : Int)
/-- a table: its copies by number, its counts, what its alarms hold -/
structure CF where
  L : List Cp
  next : Nat
  acked : Nat
  over : Nat
  gone : Nat
  E1 : List E
  E2 : List E
abbrev ienc (n : Int) : Value := .int .i64 n
theorem ikey : KeyOk Tryz.prog T.int ienc := ⟨fun a b h => by kernel_rfl, fun e a h => by kernel_rfl, by
  have hu : Tryz.prog.underlying T.int = some (.int .i64) := by kernel_rfl
  exact ⟨_, hu, fun a b => .inr rfl⟩, fun a => by simp [Instr.sameBits]⟩
theorem mapTy : MapKy Tryz.prog T.m_int_p_copies_Copy ienc (.pointer none) := MapKy.of T.int T.p_copies_Copy (by kernel_rfl) ikey (by kernel_rfl)
abbrev CV.pair (x : CV) : Int × Value := ((x.num : Int), .pointer (some ⟨x.b, 0, none⟩))
structure Cm (h : Heap) (t : Nat) (X : Ft) (s : CF) (m : Nat) (xs : List CV) (a1 : Nat) (S1 : Nat → Prop) (a2 : Nat) (S2 : Nat → Prop) (lab : Nat → Option Nat) : Prop where
  blk : h[t]? = some (.cells #[.map (some m), .int .i64 (s.next : Int), .int .i64 (s.acked : Int), .int .i64 (s.over : Int), .int .i64 (s.gone : Int), .pointer (some ⟨a1, 0, none⟩), .pointer (some ⟨a2, 0, none⟩)] T.copies_Table (0, 0))
  map : MapP h m ienc (xs.map CV.pair)
  cps : ∀ x ∈ xs, x.at h x.b
  abs : xs.map CV.abs = s.L
  dat : ∀ x ∈ xs, x.v.ok h X.D
  al1 : Al h a1 S1 s.E1
  al2 : Al h a2 S2 s.E2
  l0 : lab t = some 0
  l1 : lab m = some 1
  l2 : ∀ c, S1 c → lab c = some 2
  l3 : ∀ c, S2 c → lab c = some 3
  l4 : ∀ x ∈ xs, lab x.b = some (4 + x.num)
  mm : ∀ c, X.M c ↔ lab c ≠ none
  dd : ∀ c, X.D c → lab c = none ∧ c < h.size
  lsz : ∀ c, lab c ≠ none → c < h.size
  so : (xs.map CV.num).Pairwise (· < ·)
def Ct (h : Heap) (t : Nat) (X : Ft) (s : CF) : Prop := ∃ m xs a1 S1 a2 S2 lab, Cm h t X s m xs a1 S1 a2 S2 lab
variable {s s' : CF} {m a1 a2 : Nat} {xs : List CV} {S1 S2 S1' S2' : Nat → Prop} {lab : Nat → Option Nat}

/-- a block of one label changes: all else stays -/
structure Kept (h' : Heap) (t : Nat) (X : Ft) (s : CF) (m : Nat) (xs : List CV) (a1 : Nat) (S1 : Nat → Prop) (a2 : Nat) (S2 : Nat → Prop) (k : Nat) : Prop where
  blk : k ≠ 0 → h'[t]? = some (.cells #[.map (some m), .int .i64 (s.next : Int), .int .i64 (s.acked : Int), .int .i64 (s.over : Int), .int .i64 (s.gone : Int), .pointer (some ⟨a1, 0, none⟩), .pointer (some ⟨a2, 0, none⟩)] T.copies_Table (0, 0))
  map : k ≠ 1 → MapP h' m ienc (xs.map CV.pair)
  al1 : k ≠ 2 → Al h' a1 S1 s.E1
  al2 : k ≠ 3 → Al h' a2 S2 s.E2
  cps : ∀ x ∈ xs, k ≠ 4 + x.num → x.at h' x.b
  dat : ∀ x ∈ xs, x.v.ok h' X.D
theorem Cm.keep {Q : Nat → Prop} {k : Nat} (H : Cm h t X s m xs a1 S1 a2 S2 lab) (f : Fr Q h h') (hq : ∀ c, Q c → c < h.size → lab c = some k) : Kept h' t X s m xs a1 S1 a2 S2 k := by
  have no : ∀ {c j : Nat}, c < h.size → lab c = some j → k ≠ j → ¬ Q c := fun hc hl hk hQ => hk (by have := hq _ hQ hc; rw [hl] at this; exact (Option.some.inj this).symm)
  refine ⟨fun hk => f.get H.blk (no (lt_of_get H.blk) H.l0 hk), fun hk => H.map.frame f (no H.map.lt H.l1 hk), fun hk => ?_, fun hk => ?_, fun x hx hk => f.get (H.cps x hx) (no (lt_of_get (H.cps x hx)) (H.l4 x hx) hk), fun x hx => ?_⟩
  · exact H.al1.frame f (fun c hc => no (H.al1.lt hc) (H.l2 c hc) hk)
  · exact H.al2.frame f (fun c hc => no (H.al2.lt hc) (H.l3 c hc) hk)
  · refine (H.dat x hx).frame f (fun c hc hQ => ?_)
    have := H.dd c hc
    have h2 := hq c hQ this.2
    rw [this.1] at h2; cases h2
theorem Cm.frame {Q : Nat → Prop} (H : Cm h t X s m xs a1 S1 a2 S2 lab) (f : Fr Q h h') (hq : ∀ y, X.M y ∨ X.D y → ¬ Q y) : Cm h' t X s m xs a1 S1 a2 S2 lab := by
  have no : ∀ {c j : Nat}, lab c = some j → ¬ Q c := fun hl => hq _ (.inl ((H.mm _).2 (by rw [hl]; simp)))
  exact ⟨f.get H.blk (no H.l0), H.map.frame f (no H.l1), fun x hx => f.get (H.cps x hx) (no (H.l4 x hx)), H.abs, fun x hx => (H.dat x hx).frame f (fun c hc => hq c (.inr hc)),
    H.al1.frame f (fun c hc => no (H.l2 c hc)), H.al2.frame f (fun c hc => no (H.l3 c hc)), H.l0, H.l1, H.l2, H.l3, H.l4, H.mm, fun c hc => ⟨(H.dd c hc).1, Nat.lt_of_lt_of_le (H.dd c hc).2 f.1⟩, fun c hc => Nat.lt_of_lt_of_le (H.lsz c hc) f.1, H.so⟩
theorem Cm.on (H : Cm h t X s m xs a1 S1 a2 S2 lab) (f : Fr (fun _ => False) h h') : Cm h' t X s m xs a1 S1 a2 S2 lab := H.frame f (fun _ _ => id)
theorem Ct.frame {Q : Nat → Prop} (H : Ct h t X s) (f : Fr Q h h') (hq : ∀ y, X.M y ∨ X.D y → ¬ Q y) : Ct h' t X s := by
  obtain ⟨m, xs, a1, S1, a2, S2, lab, H⟩ := H; exact ⟨m, xs, a1, S1, a2, S2, lab, H.frame f hq⟩
theorem Ct.on (H : Ct h t X s) (f : Fr (fun _ => False) h h') : Ct h' t X s := H.frame f (fun _ _ => id)
theorem Ct.lt (H : Ct h t X s) (y : Nat) (hy : X.M y ∨ X.D y) : y < h.size := by
  obtain ⟨m, xs, a1, S1, a2, S2, lab, H⟩ := H
  rcases hy with hy | hy
  · exact H.lsz y ((H.mm y).1 hy)
  · exact (H.dd y hy).2
theorem Cm.step {Q : Nat → Prop} {k : Nat} (H : Cm h t X s m xs a1 S1 a2 S2 lab) (f : Fr Q h h') (hq : ∀ c, Q c → c < h.size → lab c = some k) : StepF X h X h' :=
  StepF.of_fr (f.mono fun c hc hQ => (H.mm c).2 (by rw [hq c hQ hc]; simp))
/-! ### one part changes -/
theorem Cm.field (H : Cm h t X s m xs a1 S1 a2 S2 lab) (hL : s'.L = s.L) (h1 : s'.E1 = s.E1) (h2 : s'.E2 = s.E2)
    (hb : h'[t]? = some (.cells #[.map (some m), .int .i64 (s'.next : Int), .int .i64 (s'.acked : Int), .int .i64 (s'.over : Int), .int .i64 (s'.gone : Int), .pointer (some ⟨a1, 0, none⟩), .pointer (some ⟨a2, 0, none⟩)] T.copies_Table (0, 0)))
    (hs : h'.size = h.size) (ho : ∀ x, x ≠ t → h'[x]? = h[x]?) : Cm h' t X s' m xs a1 S1 a2 S2 lab ∧ StepF X h X h' := by
  have f : Fr (fun c => c = t) h h' := ⟨by omega, fun c _ hn => ho c hn⟩
  have hq : ∀ c, c = t → c < h.size → lab c = some 0 := fun c e _ => by rw [e]; exact H.l0
  have K := H.keep f hq
  refine ⟨⟨hb, K.map (by omega), fun x hx => K.cps x hx (by omega), H.abs.trans hL.symm, K.dat, by rw [h1]; exact K.al1 (by omega), by rw [h2]; exact K.al2 (by omega), H.l0, H.l1, H.l2, H.l3, H.l4, H.mm, fun c hc => by rw [hs]; exact H.dd c hc, fun c hc => by rw [hs]; exact H.lsz c hc, H.so⟩, H.step f hq⟩
def relab (lab : Nat → Option Nat) (S : Nat → Prop) [DecidablePred S] (k : Nat) : Nat → Option Nat := fun c => if S c then some k else lab c
/-- the alarm of the leases -/
theorem Cm.alarm2 {E' : List E} (H : Cm h t X s m xs a1 S1 a2 S2 lab) (A : Al h' a2 S2' E') (hS : ∀ c, S2' c → S2 c ∨ h.size ≤ c) (f : Fr S2 h h') (hL : s'.L = s.L) (h1 : s'.E1 = s.E1) (h2 : s'.E2 = E') (hn : s'.next = s.next ∧ s'.acked = s.acked ∧ s'.over = s.over ∧ s'.gone = s.gone) :
    ∃ X' lab', Cm h' t X' s' m xs a1 S1 a2 S2' lab' ∧ StepF X h X' h' ∧ ∀ c, X'.M c → X.M c ∨ S2' c := by
  classical
  have hq : ∀ c, S2 c → c < h.size → lab c = some 3 := fun c hc _ => H.l3 c hc
  have K := H.keep f hq
  have z := f.1
  let lab' := relab lab S2' 3
  have keepL : ∀ {c j : Nat}, lab c = some j → j ≠ 3 → lab' c = some j := fun {c j} hl hj => by
    show (if S2' c then some 3 else lab c) = some j
    rw [if_neg]
    · exact hl
    · intro hc
      rcases hS c hc with h3 | h3
      · rw [H.l3 c h3] at hl; exact hj (Option.some.inj hl).symm
      · have := H.lsz c (by rw [hl]; simp); omega
  have lab_none : ∀ c, lab' c ≠ none → lab c ≠ none ∨ S2' c := fun c hc => by
    by_cases hx : S2' c
    · exact .inr hx
    · refine .inl ?_
      have e : lab' c = lab c := if_neg hx
      rwa [e] at hc
  have none_lab : ∀ c, lab c ≠ none → lab' c ≠ none := fun c hc => by
    by_cases hx : S2' c
    · have e : lab' c = some 3 := if_pos hx
      rw [e]; simp
    · have e : lab' c = lab c := if_neg hx
      rwa [e]
  have st : StepF X h ⟨fun c => lab' c ≠ none, X.D⟩ h' := by
    refine ⟨f.mono (fun c hc hx => (H.mm c).2 (by rw [H.l3 c hx]; simp)), fun c hc => ?_, fun c hc => .inl hc, fun c hc => hc⟩
    rcases lab_none c hc with h3 | h3
    · exact .inl ((H.mm c).2 h3)
    · rcases hS c h3 with h4 | h4
      · exact .inl ((H.mm c).2 (by rw [H.l3 c h4]; simp))
      · exact .inr h4
  refine ⟨⟨fun c => lab' c ≠ none, X.D⟩, lab', ⟨?_, K.map (by omega), fun x hx => K.cps x hx (by omega), H.abs.trans hL.symm, K.dat, by rw [h1]; exact K.al1 (by omega), by rw [h2]; exact A, keepL H.l0 (by omega), keepL H.l1 (by omega), fun c hc => keepL (H.l2 c hc) (by omega), fun c hc => if_pos hc, fun x hx => keepL (H.l4 x hx) (by omega), fun c => Iff.rfl, fun c hc => ?_, fun c hc => ?_, H.so⟩, st, fun c hc => (lab_none c hc).imp (fun h => (H.mm c).2 h) id⟩
  · rw [hn.1, hn.2.1, hn.2.2.1, hn.2.2.2]; exact K.blk (by omega)
  · have := H.dd c hc
    refine ⟨?_, by omega⟩
    show (if S2' c then some 3 else lab c) = none
    rw [if_neg]
    · exact this.1
    · intro hx
      rcases hS c hx with h3 | h3
      · rw [H.l3 c h3] at this; cases this.1
      · omega
  · rcases lab_none c hc with h3 | h3
    · have := H.lsz c h3; omega
    · exact A.lt h3
/-- the alarm of the ends -/
theorem Cm.alarm1 {E' : List E} (H : Cm h t X s m xs a1 S1 a2 S2 lab) (A : Al h' a1 S1' E') (hS : ∀ c, S1' c → S1 c ∨ h.size ≤ c) (f : Fr S1 h h') (hL : s'.L = s.L) (h1 : s'.E1 = E') (h2 : s'.E2 = s.E2) (hn : s'.next = s.next ∧ s'.acked = s.acked ∧ s'.over = s.over ∧ s'.gone = s.gone) :
    ∃ X' lab', Cm h' t X' s' m xs a1 S1' a2 S2 lab' ∧ StepF X h X' h' ∧ ∀ c, X'.M c → X.M c ∨ S1' c := by
  classical
  have hq : ∀ c, S1 c → c < h.size → lab c = some 2 := fun c hc _ => H.l2 c hc
  have K := H.keep f hq
  have z := f.1
  let lab' := relab lab S1' 2
  have keepL : ∀ {c j : Nat}, lab c = some j → j ≠ 2 → lab' c = some j := fun {c j} hl hj => by
    show (if S1' c then some 2 else lab c) = some j
    rw [if_neg]
    · exact hl
    · intro hc
      rcases hS c hc with h3 | h3
      · rw [H.l2 c h3] at hl; exact hj (Option.some.inj hl).symm
      · have := H.lsz c (by rw [hl]; simp); omega
  have lab_none : ∀ c, lab' c ≠ none → lab c ≠ none ∨ S1' c := fun c hc => by
    by_cases hx : S1' c
    · exact .inr hx
    · refine .inl ?_
      have e : lab' c = lab c := if_neg hx
      rwa [e] at hc
  have st : StepF X h ⟨fun c => lab' c ≠ none, X.D⟩ h' := by
    refine ⟨f.mono (fun c hc hx => (H.mm c).2 (by rw [H.l2 c hx]; simp)), fun c hc => ?_, fun c hc => .inl hc, fun c hc => hc⟩
    rcases lab_none c hc with h3 | h3
    · exact .inl ((H.mm c).2 h3)
    · rcases hS c h3 with h4 | h4
      · exact .inl ((H.mm c).2 (by rw [H.l2 c h4]; simp))
      · exact .inr h4
  refine ⟨⟨fun c => lab' c ≠ none, X.D⟩, lab', ⟨?_, K.map (by omega), fun x hx => K.cps x hx (by omega), H.abs.trans hL.symm, K.dat, by rw [h1]; exact A, by rw [h2]; exact K.al2 (by omega), keepL H.l0 (by omega), keepL H.l1 (by omega), fun c hc => if_pos hc, fun c hc => keepL (H.l3 c hc) (by omega), fun x hx => keepL (H.l4 x hx) (by omega), fun c => Iff.rfl, fun c hc => ?_, fun c hc => ?_, H.so⟩, st, fun c hc => (lab_none c hc).imp (fun h => (H.mm c).2 h) id⟩
  · rw [hn.1, hn.2.1, hn.2.2.1, hn.2.2.2]; exact K.blk (by omega)
  · have := H.dd c hc
    refine ⟨?_, by omega⟩
    show (if S1' c then some 2 else lab c) = none
    rw [if_neg]
    · exact this.1
    · intro hx
      rcases hS c hx with h3 | h3
      · rw [H.l2 c h3] at this; cases this.1
      · omega
  · rcases lab_none c hc with h3 | h3
    · have := H.lsz c h3; omega
    · exact A.lt h3
/-- a copy goes -/
theorem Cm.del {n : Int} (H : Cm h t X s m xs a1 S1 a2 S2 lab) (M : MapP h' m ienc (gdel (xs.map CV.pair) n)) (hs : h'.size = h.size) (ho : ∀ c, c ≠ m → h'[c]? = h[c]?) (hL : s'.L = s.L.filter (fun x => !decide ((x.num : Int) = n))) (h1 : s'.E1 = s.E1) (h2 : s'.E2 = s.E2) (hn : s'.next = s.next ∧ s'.acked = s.acked ∧ s'.over = s.over ∧ s'.gone = s.gone) :
    Cm h' t X s' m (xs.filter (fun x => !decide ((x.num : Int) = n))) a1 S1 a2 S2 lab ∧ StepF X h X h' := by
  have f : Fr (fun c => c = m) h h' := ⟨by omega, fun c _ hn => ho c hn⟩
  have hq : ∀ c, c = m → c < h.size → lab c = some 1 := fun c e _ => by rw [e]; exact H.l1
  have K := H.keep f hq
  have sub : ∀ x ∈ xs.filter (fun x => !decide ((x.num : Int) = n)), x ∈ xs := fun x hx => (List.mem_filter.1 hx).1
  refine ⟨⟨?_, ?_, fun x hx => K.cps x (sub x hx) (by omega), ?_, fun x hx => K.dat x (sub x hx), by rw [h1]; exact K.al1 (by omega), by rw [h2]; exact K.al2 (by omega), H.l0, H.l1, H.l2, H.l3, fun x hx => H.l4 x (sub x hx), H.mm, fun c hc => by rw [hs]; exact H.dd c hc, fun c hc => by rw [hs]; exact H.lsz c hc, H.so.sublist (List.filter_sublist.map _)⟩, H.step f hq⟩
  · rw [hn.1, hn.2.1, hn.2.2.1, hn.2.2.2]; exact K.blk (by omega)
  · unfold gdel at M
    rw [List.filter_map] at M
    exact M
  · rw [hL, ← H.abs, List.filter_map]; rfl
/-- a copy changes -/
theorem Cm.change {x y : CV} (H : Cm h t X s m xs a1 S1 a2 S2 lab) (hx : x ∈ xs) (hb : y.b = x.b) (hnum : y.num = x.num) (hv : y.v = x.v) (hy : y.at h' x.b) (hs : h'.size = h.size) (ho : ∀ c, c ≠ x.b → h'[c]? = h[c]?)
    (hL : s'.L = s.L.map (fun z => if z.num = x.num then y.abs else z)) (h1 : s'.E1 = s.E1) (h2 : s'.E2 = s.E2) (hn : s'.next = s.next ∧ s'.acked = s.acked ∧ s'.over = s.over ∧ s'.gone = s.gone) :
    Cm h' t X s' m (xs.map (fun z => if z.num = x.num then y else z)) a1 S1 a2 S2 lab ∧ StepF X h X h' := by
  have f : Fr (fun c => c = x.b) h h' := ⟨by omega, fun c _ hn => ho c hn⟩
  have hq : ∀ c, c = x.b → c < h.size → lab c = some (4 + x.num) := fun c e _ => by rw [e]; exact H.l4 x hx
  have K := H.keep f hq
  have mem : ∀ z ∈ xs.map (fun z => if z.num = x.num then y else z), (z = y) ∨ (z ∈ xs ∧ z.num ≠ x.num) := fun z hz => by
    obtain ⟨u, hu, rfl⟩ := List.mem_map.1 hz
    by_cases e : u.num = x.num
    · rw [if_pos e]; exact .inl rfl
    · rw [if_neg e]; exact .inr ⟨hu, e⟩
  have pe : (xs.map (fun z => if z.num = x.num then y else z)).map CV.pair = xs.map CV.pair := by
    rw [List.map_map]
    refine List.map_congr_left fun z hz => ?_
    show CV.pair (if z.num = x.num then y else z) = z.pair
    by_cases e : z.num = x.num
    · rw [if_pos e]
      have : z = x := by
        obtain ⟨i, hi⟩ := List.getElem?_of_mem hz
        obtain ⟨j, hj⟩ := List.getElem?_of_mem hx
        have hnd : (xs.map CV.num).Nodup := H.so.imp (fun h => Nat.ne_of_lt h)
        have hil := (List.getElem?_eq_some_iff.1 hi).1
        have := (List.getElem?_inj (l := xs.map CV.num) (i := i) (j := j) (by simpa using hil) hnd).1 (by rw [List.getElem?_map, List.getElem?_map, hi, hj]; simp [e])
        subst this
        rw [hi] at hj; exact Option.some.inj hj
      subst this
      unfold CV.pair
      rw [hnum, hb]
    · rw [if_neg e]
  refine ⟨⟨?_, ?_, fun z hz => ?_, ?_, fun z hz => ?_, by rw [h1]; exact K.al1 (by omega), by rw [h2]; exact K.al2 (by omega), H.l0, H.l1, H.l2, H.l3, fun z hz => ?_, H.mm, fun c hc => by rw [hs]; exact H.dd c hc, fun c hc => by rw [hs]; exact H.lsz c hc, ?_⟩, H.step f hq⟩
  · rw [hn.1, hn.2.1, hn.2.2.1, hn.2.2.2]; exact K.blk (by omega)
  · rw [pe]; exact K.map (by omega)
  · rcases mem z hz with rfl | ⟨hz, e⟩
    · rw [hb]; exact hy
    · exact K.cps z hz (by omega)
  · rw [hL, ← H.abs, List.map_map, List.map_map]
    refine List.map_congr_left fun z _ => ?_
    show CV.abs (if z.num = x.num then y else z) = if z.num = x.num then y.abs else z.abs
    split <;> rfl
  · rcases mem z hz with rfl | ⟨hz, _⟩
    · rw [hv]; exact K.dat x hx
    · exact K.dat z hz
  · rcases mem z hz with rfl | ⟨hz, _⟩
    · rw [hb, hnum]; exact H.l4 x hx
    · exact H.l4 z hz
  · have : (xs.map (fun z => if z.num = x.num then y else z)).map CV.num = xs.map CV.num := by
      rw [List.map_map]
      refine List.map_congr_left fun z _ => ?_
      show CV.num (if z.num = x.num then y else z) = z.num
      split
      · rename_i e; rw [hnum, e]
      · rfl
    rw [this]; exact H.so
/-- a copy comes: its block is b, its data is new -/
theorem Cm.add {y : CV} {h1 h2 : Heap} (H : Cm h t X s m xs a1 S1 a2 S2 lab) (f1 : Fr (fun _ => False) h h1) (hy : y.at h1 y.b) (hyb : h.size ≤ y.b) (hdat : Row h1 y.v.p (bc y.v.b)) (hcap : y.v.b.length ≤ y.v.c) (hdn : ∀ c, inBlk y.v.p c → h.size ≤ c ∧ c ≠ y.b ∧ c < h1.size) (hnum : ∀ x ∈ xs, x.num < y.num)
    (M : MapP h2 m ienc (gput (xs.map CV.pair) (y.num : Int) (.pointer (some ⟨y.b, 0, none⟩)))) (hs : h2.size = h1.size) (ho : ∀ c, c ≠ m → h2[c]? = h1[c]?)
    (hL : s'.L = s.L ++ [y.abs]) (e1 : s'.E1 = s.E1) (e2 : s'.E2 = s.E2) (hn : s'.next = s.next ∧ s'.acked = s.acked ∧ s'.over = s.over ∧ s'.gone = s.gone) :
    ∃ X' lab', Cm h2 t X' s' m (xs ++ [y]) a1 S1 a2 S2 lab' ∧ StepF X h X' h2 := by
  classical
  have z1 := f1.1
  have H1 := H.on f1
  have f2 : Fr (fun c => c = m) h1 h2 := ⟨by omega, fun c _ hn => ho c hn⟩
  have hq : ∀ c, c = m → c < h1.size → lab c = some 1 := fun c e _ => by rw [e]; exact H.l1
  have K := H1.keep f2 hq
  have yb1 := lt_of_get hy
  let lab' := relab lab (fun c => c = y.b) (4 + y.num)
  have lold : ∀ c, c ≠ y.b → lab' c = lab c := fun c hc => if_neg hc
  have lnew : lab' y.b = some (4 + y.num) := if_pos rfl
  have ynl : ∀ {c : Nat}, lab c ≠ none → c ≠ y.b := fun {c} hc e => by have := H.lsz c hc; omega
  have keepL : ∀ {c j : Nat}, lab c = some j → lab' c = some j := fun {c j} hl => by rw [lold c (ynl (by rw [hl]; simp))]; exact hl
  let D' := fun c => X.D c ∨ (y.v.b ≠ [] ∧ inBlk y.v.p c)
  have ymn : y.b ≠ m := fun e => by have := H.map.lt; omega
  have K2 : ∀ c, D' c → lab' c = none ∧ c < h2.size := fun c hc => by
    rcases hc with hc | ⟨_, hc⟩
    · have := H.dd c hc
      rw [lold c (by omega)]
      exact ⟨this.1, by omega⟩
    · have := hdn c hc
      rw [lold c this.2.1]
      refine ⟨?_, by omega⟩
      cases e : lab c with
      | none => rfl
      | some j => have := H.lsz c (by rw [e]; simp); omega
  refine ⟨⟨fun c => lab' c ≠ none, D'⟩, lab', ⟨?_, ?_, fun x hx => ?_, ?_, fun x hx => ?_, by rw [e1]; exact K.al1 (by omega), by rw [e2]; exact K.al2 (by omega), keepL H.l0, keepL H.l1, fun c hc => keepL (H.l2 c hc), fun c hc => keepL (H.l3 c hc), fun x hx => ?_, fun c => Iff.rfl, K2, fun c hc => ?_, ?_⟩, ?_⟩
  · rw [hn.1, hn.2.1, hn.2.2.1, hn.2.2.2]; exact K.blk (by omega)
  · refine M.perm ?_
    unfold gput
    rw [gdel_none (fun e he => by obtain ⟨x, hx, rfl⟩ := List.mem_map.1 he; have := hnum x hx; show ¬ ((x.num : Int) = (y.num : Int)); omega), List.map_append]
    exact (List.perm_append_comm (l₁ := [CV.pair y]) (l₂ := xs.map CV.pair))
  · rcases List.mem_append.1 hx with hx | hx
    · exact K.cps x hx (by omega)
    · obtain rfl := List.mem_singleton.1 hx
      exact f2.get hy ymn
  · rw [hL, ← H.abs, List.map_append]; rfl
  · rcases List.mem_append.1 hx with hx | hx
    · exact (K.dat x hx).mono (fun c hc => .inl hc)
    · obtain rfl := List.mem_singleton.1 hx
      refine ⟨hdat.frame f2 (fun a e hm => ?_), fun hne c hc => .inr ⟨hne, hc⟩, hcap⟩
      have h1 := (hdn a.block ⟨a, e, rfl⟩).1
      have h2 := H.map.lt
      have h3 : a.block = m := hm
      omega
  · rcases List.mem_append.1 hx with hx | hx
    · exact keepL (H.l4 x hx)
    · obtain rfl := List.mem_singleton.1 hx; exact lnew
  · by_cases e : c = y.b
    · subst e; omega
    · rw [lold c e] at hc; have := H.lsz c hc; omega
  · rw [List.map_append, List.pairwise_append]
    refine ⟨H.so, by simp, fun a ha b hb => ?_⟩
    obtain ⟨x, hx, rfl⟩ := List.mem_map.1 ha
    simp at hb; subst hb
    exact hnum x hx
  · refine ⟨?_, fun c hc => ?_, fun c hc => ?_, fun c hc => .inl hc⟩
    · have f12 : Fr (fun c => c = m) h h2 := Fr.no f1 f2
      exact f12.mono (fun c _ e => (H.mm c).2 (by rw [e, H.l1]; simp))
    · by_cases e : c = y.b
      · exact .inr (by omega)
      · have hc : lab' c ≠ none := hc
        rw [lold c e] at hc
        exact .inl ((H.mm c).2 hc)
    · rcases hc with hc | ⟨_, hc⟩
      · exact .inl hc
      · exact .inr (hdn c hc).1
end Cps
end Go.Proofs.YtgccegnmggjkjaaGreatDoor

/-
  What is proved here: a row of a slice of structs is stored as a whole; lists that change at two places. No condition.
-/
namespace Go.Den
def writeAt : List Value → Nat → List Value → List Value
  | cs, _, [] => cs
  | cs, p, v :: vs => writeAt (cs.set p v) (p + 1) vs
theorem writeAt_len : ∀ (vs cs : List Value) (p : Nat), (writeAt cs p vs).length = cs.length
  | [], cs, p => rfl
  | v :: vs, cs, p => by unfold writeAt; rw [writeAt_len vs, List.length_set]
theorem writeAt_at : ∀ (vs cs : List Value) (p : Nat), p + vs.length ≤ cs.length → ∀ j, (writeAt cs p vs)[j]? = if p ≤ j ∧ j < p + vs.length then vs[j - p]? else cs[j]?
  | [], cs, p, _, j => by unfold writeAt; rw [if_neg (by rw [List.length_nil]; omega)]
  | v :: vs, cs, p, hl, j => by
    unfold writeAt
    rw [List.length_cons] at hl ⊢
    rw [writeAt_at vs _ (p + 1) (by rw [List.length_set]; omega) j, List.getElem?_set]
    by_cases h1 : p + 1 ≤ j ∧ j < p + 1 + vs.length
    · rw [if_pos h1, if_pos (by omega), show j - p = (j - (p + 1)) + 1 by omega, List.getElem?_cons_succ]
    · rw [if_neg h1]
      by_cases h2 : p = j
      · subst h2
        rw [if_pos rfl, if_pos (by omega), if_pos (by omega), Nat.sub_self]; rfl
      · rw [if_neg h2, if_neg (by omega)]
theorem Own.storeL {a : Addr} {len cap sz p : Nat} {K : Heap → Prop} : ∀ (vs : List Value) (k : Nat) (h : Heap) (cs : List Value), Own h (.some a) len cap sz cs → (∀ v ∈ vs, oneCell v = true) → p + k + vs.length ≤ cs.length →
    (∀ h', Own h' (.some a) len cap sz (writeAt cs (p + k) vs) → h'.size = h.size → (∀ x, ¬ inBlk (.some a) x → h'[x]? = h[x]?) → K h') → Den.storeL (a.add p) vs k h K
  | [], k, h, cs, o, _, _, hk => hk h o rfl (fun _ _ => rfl)
  | v :: vs, k, h, cs, o, hv, hl, hk => by
    rw [List.length_cons] at hl
    unfold Den.storeL
    rw [hv v List.mem_cons_self]
    dsimp only
    rw [add_add]
    refine o.store (by omega) fun h1 o1 s1 q1 => ?_
    refine Own.storeL vs (k + 1) h1 _ o1 (fun u hu => hv u (List.mem_cons_of_mem _ hu)) (by rw [List.length_set]; omega) fun h2 o2 s2 q2 => hk h2 ?_ (by omega) (fun x hx => by rw [q2 x hx, q1 x hx])
    unfold writeAt
    rw [show p + k + 1 = p + (k + 1) by omega]
    exact o2
theorem Own.storeRow {h : Heap} {a : Addr} {len cap sz : Nat} {α : Type} {enc : α → List Value} {xs : List α} {i : Nat} {y : α} {K : Heap → Prop} (o : Own h (.some a) len cap sz (xs.flatMap enc)) (henc : ∀ x, (enc x).length = sz) (hone : ∀ v ∈ enc y, oneCell v = true) (hi : i < xs.length)
    (hk : ∀ h', Own h' (.some a) len cap sz ((xs.set i y).flatMap enc) → h'.size = h.size → (∀ x, ¬ inBlk (.some a) x → h'[x]? = h[x]?) → K h') : Den.storeL (a.add (i * sz)) (enc y) 0 h K := by
  have hl := flat_len enc sz henc xs
  have hb : i * sz + sz ≤ xs.length * sz := by
    have := Nat.mul_le_mul_right sz (show i + 1 ≤ xs.length by omega)
    rwa [Nat.add_mul, Nat.one_mul] at this
  refine Own.storeL (enc y) 0 h _ o hone (by rw [henc, hl]; omega) fun h' o' s' q' => hk h' ?_ s' q'
  have e : writeAt (xs.flatMap enc) (i * sz + 0) (enc y) = (xs.set i y).flatMap enc := by
    refine flat_set enc sz henc xs i y hi _ (writeAt_len _ _ _) ?_ ?_
    · intro j hj
      rw [writeAt_at _ _ _ (by rw [henc, hl]; omega), henc]
      rw [if_neg]
      rintro ⟨h1, h2⟩
      rcases hj with hj | hj
      · apply hj
        have hz : 0 < sz := by omega
        rw [Nat.div_eq_iff hz]
        constructor
        · omega
        · omega
      · omega
    · intro j v hj hv
      rw [writeAt_at _ _ _ (by rw [henc, hl]; omega), henc, if_pos (by omega), show i * sz + j - (i * sz + 0) = j by omega]
      exact hv
  rw [e] at o'
  exact o'

/-! two places of a list -/
def swp {α : Type} (xs : List α) (i j : Nat) : List α :=
  match xs[i]?, xs[j]? with
  | some x, some y => (xs.set i y).set j x
  | _, _ => xs
theorem swp_eq {α : Type} {xs : List α} {i j : Nat} {x y : α} (hx : xs[i]? = some x) (hy : xs[j]? = some y) : (xs.set i y).set j x = swp xs i j := by unfold swp; rw [hx, hy]
theorem swp_len {α : Type} (xs : List α) (i j : Nat) : (swp xs i j).length = xs.length := by
  unfold swp; split
  · rw [List.length_set, List.length_set]
  · rfl
theorem swp_at {α : Type} {xs : List α} {i j : Nat} (hi : i < xs.length) (hj : j < xs.length) (k : Nat) : (swp xs i j)[k]? = if k = j then xs[i]? else if k = i then xs[j]? else xs[k]? := by
  have e1 : xs[i]? = some xs[i] := List.getElem?_eq_getElem hi
  have e2 : xs[j]? = some xs[j] := List.getElem?_eq_getElem hj
  unfold swp
  rw [e1, e2]
  dsimp only
  rw [List.getElem?_set, List.getElem?_set, List.length_set]
  by_cases h1 : j = k
  · subst h1; rw [if_pos rfl, if_pos hj, if_pos rfl]
  · rw [if_neg h1, if_neg (Ne.symm h1)]
    by_cases h2 : i = k
    · subst h2; rw [if_pos rfl, if_pos hi, if_pos rfl]
    · rw [if_neg h2, if_neg (Ne.symm h2)]
theorem swp_perm {α : Type} {xs : List α} {i j : Nat} (hi : i < xs.length) (hj : j < xs.length) : (swp xs i j).Perm xs := by
  unfold swp
  rw [List.getElem?_eq_getElem hi, List.getElem?_eq_getElem hj]
  dsimp only
  exact List.set_set_perm hi hj
end Go.Den

/-
  What is proved here: plain: lists of numbers that are sorted step by step. No program in sight. No condition.
-/
set_option maxRecDepth 100000
namespace Go.Srt
open Go.Den
abbrev V (xs : List Int) (k : Nat) : Int := xs.getD k 0
theorem V_at {xs : List Int} {k : Nat} (h : k < xs.length) : xs[k]? = some (V xs k) := by
  rw [List.getElem?_eq_getElem h]; simp [V, h]
theorem V_swp {xs : List Int} {i j : Nat} (hi : i < xs.length) (hj : j < xs.length) (k : Nat) : V (swp xs i j) k = if k = j then V xs i else if k = i then V xs j else V xs k := by
  unfold V
  rw [List.getD_eq_getElem?_getD, swp_at hi hj]
  split
  · rw [← List.getD_eq_getElem?_getD]
  · split <;> rw [← List.getD_eq_getElem?_getD]
theorem ext_V {xs ys : List Int} (hl : xs.length = ys.length) (h : ∀ k, k < xs.length → V xs k = V ys k) : xs = ys := by
  apply List.ext_getElem?
  intro k
  by_cases hk : k < xs.length
  · rw [V_at hk, V_at (by omega), h k hk]
  · rw [List.getElem?_eq_none (by omega), List.getElem?_eq_none (by omega)]
def SO (xs : List Int) (a b : Nat) : Prop := ∀ p q, a ≤ p → p < q → q < b → V xs p < V xs q
theorem SO.pair {xs : List Int} (h : SO xs 0 xs.length) : xs.Pairwise (· < ·) := by
  rw [List.pairwise_iff_getElem]
  intro i j hi hj hij
  have := h i j (Nat.zero_le _) hij hj
  simpa [V, hi, hj] using this
structure PermOn (a b : Nat) (ys xs : List Int) : Prop where
  perm : ys.Perm xs
  out : ∀ k, k < a ∨ b ≤ k → V ys k = V xs k
variable {a b i j k : Nat} {xs ys zs ws : List Int}
theorem PermOn.refl : PermOn a b xs xs := ⟨.refl _, fun _ _ => rfl⟩
theorem PermOn.trans (h1 : PermOn a b zs ys) (h2 : PermOn a b ys xs) : PermOn a b zs xs := ⟨h1.perm.trans h2.perm, fun k hk => (h1.out k hk).trans (h2.out k hk)⟩
theorem PermOn.mono {a' b' : Nat} (h : PermOn a' b' ys xs) (h1 : a ≤ a') (h2 : b' ≤ b) : PermOn a b ys xs := ⟨h.perm, fun k hk => h.out k (by omega)⟩
theorem PermOn.len (h : PermOn a b ys xs) : ys.length = xs.length := h.perm.length_eq
theorem PermOn.swp (hi1 : a ≤ i) (hi2 : i < b) (hj1 : a ≤ j) (hj2 : j < b) (hb : b ≤ xs.length) : PermOn a b (swp xs i j) xs :=
  ⟨swp_perm (by omega) (by omega), fun k hk => by rw [V_swp (by omega) (by omega), if_neg (by omega), if_neg (by omega)]⟩
theorem PermOn.seg (h : PermOn a b ys xs) (hab : a ≤ b) : ((ys.drop a).take (b - a)).Perm ((xs.drop a).take (b - a)) := by
  have hl := h.len
  have at_ : ∀ k, k < a ∨ b ≤ k → ys[k]? = xs[k]? := fun k hk => by
    by_cases hlt : k < ys.length
    · rw [V_at hlt, V_at (by omega), h.out k hk]
    · rw [List.getElem?_eq_none (by omega), List.getElem?_eq_none (by omega)]
  have e1 : ys.take a = xs.take a := by
    apply List.ext_getElem?
    intro k
    rw [List.getElem?_take, List.getElem?_take]
    split
    · exact at_ k (by omega)
    · rfl
  have e2 : ys.drop b = xs.drop b := by
    apply List.ext_getElem?
    intro k
    rw [List.getElem?_drop, List.getElem?_drop]
    exact at_ _ (by omega)
  have sp : ∀ l : List Int, l = l.take a ++ ((l.drop a).take (b - a) ++ l.drop b) := fun l => by
    have : l.drop b = (l.drop a).drop (b - a) := by rw [List.drop_drop]; congr 1; omega
    rw [this, List.take_append_drop, List.take_append_drop]
  have hp := h.perm
  rw [sp ys, sp xs, e1, e2, List.perm_append_left_iff, List.perm_append_right_iff] at hp
  exact hp
theorem PermOn.from (h : PermOn a b ys xs) (hb : b ≤ xs.length) (h1 : a ≤ k) (h2 : k < b) : ∃ l, a ≤ l ∧ l < b ∧ V ys k = V xs l := by
  have hl := h.len
  have hm : V ys k ∈ (ys.drop a).take (b - a) := by
    refine List.mem_of_getElem? (i := k - a) ?_
    rw [List.getElem?_take, if_pos (by omega), List.getElem?_drop, show a + (k - a) = k by omega]
    exact V_at (by omega)
  have hm := (h.seg (by omega)).mem_iff.1 hm
  obtain ⟨l, hl2⟩ := List.getElem?_of_mem hm
  rw [List.getElem?_take] at hl2
  split at hl2
  · rw [List.getElem?_drop, V_at (by omega)] at hl2
    exact ⟨a + l, by omega, by omega, (Option.some.inj hl2).symm⟩
  · cases hl2
theorem nd_ne (hn : xs.Nodup) (hi : i < xs.length) (hj : j < xs.length) (hij : i ≠ j) : V xs i ≠ V xs j := fun e => by
  apply hij
  exact (List.getElem?_inj hi hn).1 (by rw [V_at hi, V_at hj, e])
theorem PermOn.nd (h : PermOn a b ys xs) (hn : xs.Nodup) : ys.Nodup := h.perm.nodup_iff.2 hn

/-! ### all but what lies between -/
def But (ys : List Int) (a b a' b' : Nat) : Prop := ∀ p q, a ≤ p → p < q → q < b → ¬ (a' ≤ p ∧ q < b') → V ys p < V ys q
variable {a' b' m : Nat}
theorem But.all : But ys a b a b := fun p q h1 _ h3 h4 => absurd ⟨h1, h3⟩ h4
theorem But.perm (h : But ys a b a' b') (ha' : a ≤ a') (hb' : b' ≤ b) (hp : PermOn a' b' zs ys) (hb : b' ≤ ys.length) : But zs a b a' b' := by
  intro p q h1 h2 h3 h4
  by_cases hpin : a' ≤ p ∧ p < b'
  · obtain ⟨l, l1, l2, l3⟩ := hp.from hb hpin.1 hpin.2
    rw [l3, hp.out q (by omega)]
    exact h l q (by omega) (by omega) h3 (by omega)
  · rw [hp.out p (by omega)]
    by_cases hqin : a' ≤ q ∧ q < b'
    · obtain ⟨l, l1, l2, l3⟩ := hp.from hb hqin.1 hqin.2
      rw [l3]
      exact h p l h1 (by omega) (by omega) (by omega)
    · rw [hp.out q (by omega)]
      exact h p q h1 h2 h3 h4
theorem But.done (h : But zs a b a' b') (hs : SO zs a' b') : SO zs a b := fun p q h1 h2 h3 => by
  by_cases hin : a' ≤ p ∧ q < b'
  · exact hs p q hin.1 h2 hin.2
  · exact h p q h1 h2 h3 hin
/-- what stands ahead is less -/
def LB (ys : List Int) (a b : Nat) : Prop := a = 0 ∨ ∀ k, a ≤ k → k < b → V ys (a - 1) < V ys k
theorem LB.perm (h : LB ys a b) (hp : PermOn a b zs ys) (hb : b ≤ ys.length) : LB zs a b := by
  rcases h with h | h
  · exact .inl h
  · by_cases h0 : a = 0
    · exact .inl h0
    · refine .inr fun k h1 h2 => ?_
      obtain ⟨l, l1, l2, l3⟩ := hp.from hb h1 h2
      rw [hp.out (a - 1) (by omega), l3]
      exact h l l1 l2
structure Part (zs : List Int) (a b m : Nat) : Prop where
  lo : ∀ k, a ≤ k → k < m → V zs k < V zs m
  hi : ∀ k, m < k → k < b → V zs m < V zs k
theorem But.left (h : But zs a b a' b') (ha' : a ≤ a') (hb' : b' ≤ b) (hP : Part zs a' b' m) (h1 : a' ≤ m) (h2 : m < b') (hb : b' ≤ zs.length) (hp : PermOn a' m ws zs) (hs : SO ws a' m) : But ws a b (m + 1) b' ∧ Part ws a' b' m := by
  have hB : But ws a b a' b' := h.perm ha' hb' (hp.mono (Nat.le_refl _) (by omega)) hb
  have hm : V ws m = V zs m := hp.out m (by omega)
  have hP' : Part ws a' b' m := ⟨fun k k1 k2 => by
    obtain ⟨l, l1, l2, l3⟩ := hp.from (by omega) k1 k2
    rw [l3, hm]; exact hP.lo l l1 l2, fun k k1 k2 => by rw [hm, hp.out k (by omega)]; exact hP.hi k k1 k2⟩
  refine ⟨fun p q p1 pq q1 hno => ?_, hP'⟩
  by_cases hin : a' ≤ p ∧ q < b'
  · by_cases hpm : p < m
    · by_cases hqm : q < m
      · exact hs p q hin.1 pq hqm
      · have l1 := hP'.lo p hin.1 hpm
        by_cases e : q = m
        · rw [e]; exact l1
        · exact Int.lt_trans l1 (hP'.hi q (by omega) hin.2)
    · have e : p = m := by omega
      rw [e]; exact hP'.hi q (by omega) hin.2
  · exact hB p q p1 pq q1 hin
theorem But.right (h : But zs a b a' b') (ha' : a ≤ a') (hb' : b' ≤ b) (hP : Part zs a' b' m) (h1 : a' ≤ m) (h2 : m < b') (hb : b' ≤ zs.length) (hp : PermOn (m + 1) b' ws zs) (hs : SO ws (m + 1) b') : But ws a b a' m ∧ Part ws a' b' m := by
  have hB : But ws a b a' b' := h.perm ha' hb' (hp.mono (by omega) (Nat.le_refl _)) hb
  have hm : V ws m = V zs m := hp.out m (by omega)
  have hP' : Part ws a' b' m := ⟨fun k k1 k2 => by rw [hm, hp.out k (by omega)]; exact hP.lo k k1 k2, fun k k1 k2 => by
    obtain ⟨l, l1, l2, l3⟩ := hp.from hb (by omega : m + 1 ≤ k) k2
    rw [l3, hm]; exact hP.hi l (by omega) l2⟩
  refine ⟨fun p q p1 pq q1 hno => ?_, hP'⟩
  by_cases hin : a' ≤ p ∧ q < b'
  · by_cases hqm : q = m
    · rw [hqm]; exact hP'.lo p hin.1 (by omega)
    · have hq : m < q := by omega
      by_cases hpm : p < m
      · exact Int.lt_trans (hP'.lo p hin.1 hpm) (hP'.hi q hq hin.2)
      · by_cases e : p = m
        · rw [e]; exact hP'.hi q hq hin.2
        · exact hs p q (by omega) pq hin.2
  · exact hB p q p1 pq q1 hin

/-! ### insertion -/
structure InsI (xs ys : List Int) (a i j : Nat) : Prop where
  perm : PermOn a (i + 1) ys xs
  so : ∀ p q, a ≤ p → p < q → q ≤ i → p ≠ j → q ≠ j → V ys p < V ys q
  up : ∀ q, j < q → q ≤ i → V ys j < V ys q
theorem InsI.start (h : SO xs a i) : InsI xs xs a i i := ⟨.refl, fun p q h1 h2 h3 _ h5 => h p q h1 h2 (by omega), fun q h1 h2 => by omega⟩
theorem InsI.swap (H : InsI xs ys a i j) (hj : a < j) (hji : j ≤ i) (hi : i < ys.length) (hl : V ys j < V ys (j - 1)) : InsI xs (swp ys j (j - 1)) a i (j - 1) := by
  have at_ : ∀ k : Nat, V (swp ys j (j - 1)) k = if k = j - 1 then V ys j else if k = j then V ys (j - 1) else V ys k := V_swp (by omega) (by omega)
  refine ⟨(PermOn.swp (by omega) (by omega) (by omega) (by omega) (by omega)).trans H.perm, fun p q h1 h2 h3 h4 h5 => ?_, fun q h1 h2 => ?_⟩
  · rw [at_, at_, if_neg h4, if_neg h5]
    by_cases p0 : p = j
    · rw [if_pos p0, if_neg (by omega)]
      exact H.so (j - 1) q (by omega) (by omega) h3 (by omega) (by omega)
    · rw [if_neg p0]
      by_cases q0 : q = j
      · rw [if_pos q0]; exact H.so p (j - 1) h1 (by omega) (by omega) p0 (by omega)
      · rw [if_neg q0]; exact H.so p q h1 h2 h3 p0 q0
  · rw [at_, at_, if_pos rfl, if_neg (by omega)]
    by_cases q0 : q = j
    · rw [if_pos q0]; exact hl
    · rw [if_neg q0]; exact H.up q (by omega) h2
theorem InsI.stop (H : InsI xs ys a i j) (hj : a ≤ j) (hji : j ≤ i) (he : j = a ∨ V ys (j - 1) < V ys j) : SO ys a (i + 1) := by
  intro p q h1 h2 h3
  by_cases p0 : p = j
  · subst p0; exact H.up q h2 (by omega)
  · by_cases q0 : q = j
    · subst q0
      rcases he with he | he
      · omega
      · by_cases p1 : p = q - 1
        · rw [p1]; exact he
        · exact Int.lt_trans (H.so p (q - 1) h1 (by omega) (by omega) p0 (by omega)) he
    · exact H.so p q h1 h2 (by omega) p0 q0

/-! ### heaps -/
variable {f lo hi r c : Nat}
def HeapOn (ys : List Int) (f lo hi : Nat) : Prop := ∀ i, lo ≤ i → (2 * i + 1 < hi → V ys (f + (2 * i + 1)) < V ys (f + i)) ∧ (2 * i + 2 < hi → V ys (f + (2 * i + 2)) < V ys (f + i))
theorem HeapOn.root (h : HeapOn ys f 0 hi) : ∀ k, 0 < k → k < hi → V ys (f + k) < V ys f := by
  intro k
  induction k using Nat.strongRecOn with
  | _ k ih =>
    intro h0 h1
    have hpar := h ((k - 1) / 2) (Nat.zero_le _)
    have hk : k = 2 * ((k - 1) / 2) + 1 ∨ k = 2 * ((k - 1) / 2) + 2 := by omega
    have hlt : V ys (f + k) < V ys (f + (k - 1) / 2) := by
      rcases hk with e | e
      · have := hpar.1 (by omega); rwa [← e] at this
      · have := hpar.2 (by omega); rwa [← e] at this
    by_cases e0 : (k - 1) / 2 = 0
    · rw [e0, Nat.add_zero] at hlt; exact hlt
    · exact Int.lt_trans hlt (ih _ (by omega) (by omega) (by omega))
/-- all but one root -/
structure SiftI (xs ys : List Int) (f lo hi r : Nat) : Prop where
  perm : PermOn f (f + hi) ys xs
  ot : ∀ i, lo ≤ i → i ≠ r → (2 * i + 1 < hi → V ys (f + (2 * i + 1)) < V ys (f + i)) ∧ (2 * i + 2 < hi → V ys (f + (2 * i + 2)) < V ys (f + i))
  par : ∀ q, lo ≤ q → (r = 2 * q + 1 ∨ r = 2 * q + 2) → (2 * r + 1 < hi → V ys (f + (2 * r + 1)) < V ys (f + q)) ∧ (2 * r + 2 < hi → V ys (f + (2 * r + 2)) < V ys (f + q))
theorem SiftI.start (h : HeapOn xs f (lo + 1) hi) : SiftI xs xs f lo hi lo := ⟨.refl, fun i h1 h2 => h i (by omega), fun q h1 h2 => by omega⟩
theorem SiftI.swap (H : SiftI xs ys f lo hi r) (hl : f + hi ≤ ys.length) (hr : lo ≤ r) (hc : c = 2 * r + 1 ∨ c = 2 * r + 2) (hch : c < hi) (hrc : V ys (f + r) < V ys (f + c))
    (h1 : c = 2 * r + 2 → V ys (f + (2 * r + 1)) < V ys (f + c)) (h2 : c = 2 * r + 1 → 2 * r + 2 < hi → V ys (f + (2 * r + 2)) < V ys (f + c)) : SiftI xs (swp ys (f + r) (f + c)) f lo hi c := by
  have at_ : ∀ k : Nat, V (swp ys (f + r) (f + c)) k = if k = f + c then V ys (f + r) else if k = f + r then V ys (f + c) else V ys k := V_swp (by omega) (by omega)
  refine ⟨(PermOn.swp (by omega) (by omega) (by omega) (by omega) hl).trans H.perm, fun i i1 i2 => ?_, fun q q1 q2 => ?_⟩
  · by_cases ir : i = r
    · subst ir
      refine ⟨fun g => ?_, fun g => ?_⟩
      · rw [at_, at_, if_neg (by omega : ¬ f + i = f + c), if_pos rfl]
        by_cases e : c = 2 * i + 1
        · rw [e, if_pos rfl]; rw [e] at hrc; exact hrc
        · rw [if_neg (by omega), if_neg (by omega)]; exact h1 (by omega)
      · rw [at_, at_, if_neg (by omega : ¬ f + i = f + c), if_pos rfl]
        by_cases e : c = 2 * i + 2
        · rw [e, if_pos rfl]; rw [e] at hrc; exact hrc
        · rw [if_neg (by omega), if_neg (by omega)]; exact h2 (by omega) g
    · have ho := H.ot i i1 ir
      have e0 : V (swp ys (f + r) (f + c)) (f + i) = V ys (f + i) := by rw [at_, if_neg (by omega), if_neg (by omega)]
      rw [e0]
      refine ⟨fun g => ?_, fun g => ?_⟩
      · rw [at_, if_neg (by omega)]
        by_cases e : r = 2 * i + 1
        · rw [if_pos (by omega)]
          have := H.par i i1 (.inl e)
          rcases hc with hc | hc
          · rw [hc]; exact this.1 (by omega)
          · rw [hc]; exact this.2 (by omega)
        · rw [if_neg (by omega)]; exact ho.1 g
      · rw [at_, if_neg (by omega)]
        by_cases e : r = 2 * i + 2
        · rw [if_pos (by omega)]
          have := H.par i i1 (.inr e)
          rcases hc with hc | hc
          · rw [hc]; exact this.1 (by omega)
          · rw [hc]; exact this.2 (by omega)
        · rw [if_neg (by omega)]; exact ho.2 g
  · have hq : q = r := by omega
    subst hq
    have ho := H.ot c (by omega) (by omega)
    have e0 : V (swp ys (f + q) (f + c)) (f + q) = V ys (f + c) := by rw [at_, if_neg (by omega), if_pos rfl]
    rw [e0]
    refine ⟨fun g => ?_, fun g => ?_⟩
    · rw [at_, if_neg (by omega), if_neg (by omega)]; exact ho.1 g
    · rw [at_, if_neg (by omega), if_neg (by omega)]; exact ho.2 g
theorem SiftI.stop (H : SiftI xs ys f lo hi r) (h1 : 2 * r + 1 < hi → V ys (f + (2 * r + 1)) < V ys (f + r)) (h2 : 2 * r + 2 < hi → V ys (f + (2 * r + 2)) < V ys (f + r)) : HeapOn ys f lo hi := fun i i1 => by
  by_cases e : i = r
  · subst e; exact ⟨h1, h2⟩
  · exact H.ot i i1 e

/-! ### a partition -/
structure PI (xs ws : List Int) (a b i j : Nat) : Prop where
  perm : PermOn a b ws xs
  lo : ∀ k, a < k → k < i → V ws k < V ws a
  hi : ∀ k, j < k → k < b → V ws a < V ws k
theorem PI.swap (H : PI xs ws a b i j) (h0 : a < i) (hij : i < j) (hj : j < b) (hb : b ≤ ws.length) (h1 : V ws a < V ws i) (h2 : V ws j < V ws a) : PI xs (swp ws i j) a b (i + 1) (j - 1) := by
  have at_ : ∀ k : Nat, V (swp ws i j) k = if k = j then V ws i else if k = i then V ws j else V ws k := V_swp (by omega) (by omega)
  have ea : V (swp ws i j) a = V ws a := by rw [at_, if_neg (by omega), if_neg (by omega)]
  refine ⟨(PermOn.swp (by omega) (by omega) (by omega) (by omega) hb).trans H.perm, fun k k1 k2 => ?_, fun k k1 k2 => ?_⟩
  · rw [ea, at_, if_neg (by omega)]
    by_cases e : k = i
    · rw [if_pos e]; exact h2
    · rw [if_neg e]; exact H.lo k k1 (by omega)
  · rw [ea, at_]
    by_cases e : k = j
    · rw [if_pos e]; exact h1
    · rw [if_neg e, if_neg (by omega)]; exact H.hi k (by omega) k2
theorem PI.stop (H : PI xs ws a b i j) (haj : a ≤ j) (hij : i = j + 1) (hj : j < b) (hb : b ≤ ws.length) : Part (swp ws j a) a b j ∧ PermOn a b (swp ws j a) xs := by
  have at_ : ∀ k : Nat, V (swp ws j a) k = if k = a then V ws j else if k = j then V ws a else V ws k := V_swp (by omega) (by omega)
  have ej : V (swp ws j a) j = V ws a := by
    rw [at_]
    by_cases e : j = a
    · rw [if_pos e, e]
    · rw [if_neg e, if_pos rfl]
  refine ⟨⟨fun k k1 k2 => ?_, fun k k1 k2 => ?_⟩, (PermOn.swp (by omega) (by omega) (by omega) (by omega) hb).trans H.perm⟩
  · rw [ej, at_]
    by_cases e : k = a
    · rw [if_pos e]; exact H.lo j (by omega) (by omega)
    · rw [if_neg e, if_neg (by omega)]; exact H.lo k (by omega) (by omega)
  · rw [ej, at_, if_neg (by omega), if_neg (by omega)]; exact H.hi k k1 k2
end Go.Srt
