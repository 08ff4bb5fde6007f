/-
  What is proved here: the laws QuotaFits, QuotaSums and QuotaLives return true, for every argument. No condition.
-/
import Derived.Test.YtjjmbohnchngcaaVcC
import Derived.Test.YtjjmbohnchngcaaRef25
import Derived.Test.YtjjmbohnchngcaaRok
namespace Go.Proofs.Ytjjmbohnchngcaa
open Go.Den
open Quota

theorem Fr.step {S : Nat → Prop} {h h1 h2 : Heap} (hf : Fr (fun _ => False) h h1) (hs : Fr S h1 h2) (hn : ∀ c, c < h.size → ¬ S c) : Fr (fun _ => False) h h2 :=
  hf.trans hs (fun _ _ hx => hx) (fun c hc hx => hn c hc hx)

section
variable {h : Heap} {R : Value → Heap → Prop}

theorem alive_ok (hk : ∀ h', Fr (fun _ => False) h h' → R (.bool true) h') : CallsH Try.prog F.law25_alive #[] h R := by
  refine law25_alive.walk ?_
  unfold law25_alive.vc
  refine new_ok 10 6 (fun hn h1 p m hp lp lm fr1 => ⟨_, _, rfl, ?_⟩) (fun hc => absurd hc (by decide))
  have ok1 := Ok.new hn
  simp only [JoinP, bne_self_eq_false, Bool.false_eq_true, if_false, Option.isNone_some]
  have hpm : ∀ c, c < h.size → ¬ (c = p ∨ c = m) := fun c hc hx => by omega
  refine take_ok hp ok1 1 6 (fun hf2 h2 hp2 fr2 => ⟨_, rfl, ?_⟩) (fun hc => absurd hc (by decide))
  have ok2 := ok1.take hf2
  refine take_ok hp2 ok2 2 5 (fun hc => absurd hc (by decide)) (fun _ => ⟨_, rfl, ?_⟩)
  refine take_ok hp2 ok2 1 1 (fun hc => absurd hc (by decide)) (fun _ => ⟨_, rfl, ?_⟩)
  refine give_ok hp2 ok2 1 7 (fun hc => absurd hc (by decide)) (fun _ => ⟨_, rfl, ?_⟩)
  refine give_ok hp2 ok2 1 2 (fun _ h3 hp3 fr3 => ⟨_, rfl, ?_⟩) (fun hc => absurd hc (by decide))
  refine new_ok 5 6 (fun hc => absurd hc (by decide)) (fun _ => ⟨_, _, rfl, ?_⟩)
  have e1 : takeE 10 6 (0 + 6) (addF (fun _ => 0) 1 6) 2 5 = 15 := by decide
  have e2 : takeE 10 6 (0 + 6) (addF (fun _ => 0) 1 6) 1 1 = 15 := by decide
  have e3 : giveE (addF (fun _ => 0) 1 6) 1 7 = 7 := by decide
  have ok3 : Ok 10 6 (0 + 6 - 2) (addF (addF (fun _ => 0) 1 6) 1 (-2)) := ⟨by decide, by decide, by decide, by decide, by decide, fun k => by unfold addF; dsimp only; split <;> omega⟩
  rw [e1, e2, e3]
  simp only [beq_self_eq_true, if_true]
  refine used_ok hp3 1 ⟨_, rfl, ?_⟩
  have e4 : addF (addF (fun _ => 0) 1 6) 1 (-2) 1 = 4 := by decide
  rw [e4]
  simp only [beq_self_eq_true, if_true]
  refine all_ok hp3 ⟨_, rfl, ?_⟩
  have e5 : ((0 : Int) + 6 - 2 == 4) = true := by decide
  rw [e5]
  simp only [if_true]
  refine fits_ok hp3 ok3 2 6 ⟨_, rfl, ?_⟩
  have e6 : fits 10 6 (0 + 6 - 2) (addF (addF (fun _ => 0) 1 6) 1 (-2)) 2 6 = true := by decide
  rw [e6]
  simp only [if_true]
  refine fits_ok hp3 ok3 2 7 ⟨_, rfl, ?_⟩
  have e7 : fits 10 6 (0 + 6 - 2) (addF (addF (fun _ => 0) 1 6) 1 (-2)) 2 7 = false := by decide
  rw [e7]
  exact hk h3 (Fr.step (Fr.step fr1 fr2 hpm) fr3 hpm)

theorem quotaFits_ok (W S o n m : Int) (_ : (Lit.int .i64 W).wf = true) (_ : (Lit.int .i64 S).wf = true) (_ : (Lit.int .i64 o).wf = true) (_ : (Lit.int .i64 n).wf = true) (_ : (Lit.int .i64 m).wf = true) :
    LawH Try.prog F.law25_QuotaFits #[.int .i64 W, .int .i64 S, .int .i64 o, .int .i64 n, .int .i64 m] h := by
  unfold LawH
  generalize hR : (fun (v : Value) h' => v = .bool true ∧ Fr (fun _ => False) h h') = R
  have hk : ∀ h', Fr (fun _ => False) h h' → R (.bool true) h' := fun h' hf => by rw [← hR]; exact ⟨rfl, hf⟩
  clear hR
  refine law25_QuotaFits.walk ?_
  unfold law25_QuotaFits.vc
  simp only [JoinP]
  refine new_ok W S (fun hn h1 p pm hp lp lm fr1 => ⟨_, _, rfl, ?_⟩) (fun hn => ⟨_, _, rfl, ?_⟩)
  · have ok1 := Ok.new hn
    have hpm : ∀ c, c < h.size → ¬ (c = p ∨ c = pm) := fun c hc hx => by omega
    simp only [bne_self_eq_false, Bool.false_eq_true, if_false, Option.isNone_some]
    refine fits_ok hp ok1 o n ⟨_, rfl, ?_⟩
    refine take_ok hp ok1 o n (fun hf h2 hp2 fr2 => ⟨_, rfl, ?_⟩) (fun hf => ⟨_, rfl, ?_⟩)
    · have ok2 := ok1.take hf
      have hpo := (fits_iff.1 hf).1
      simp only [hf]
      refine fits_ok hp2 ok2 o m ⟨_, rfl, ?_⟩
      refine take_ok hp2 ok2 o m (fun hf2 h3 hp3 fr3 => ⟨_, rfl, ?_⟩) (fun hf2 => ⟨_, rfl, ?_⟩)
      · have ok3 := ok2.take hf2
        have hpm2 := (fits_iff.1 hf2).1
        simp only [hf2, beq_self_eq_true, Bool.not_true, Bool.false_eq_true, if_false, if_true]
        have hg : gives (addF (addF (fun _ => 0) o n) o m) o m = true := gives_iff.2 ⟨hpm2, by simp [addF]; omega⟩
        refine give_ok hp3 ok3 o m (fun _ h4 hp4 fr4 => ⟨_, rfl, ?_⟩) (fun hc => by rw [hg] at hc; cases hc)
        simp only [bne_self_eq_false, Bool.false_eq_true, if_false]
        have hp4' : PurseAt h4 p pm W S (0 + n) (addF (fun _ => 0) o n) := by
          have := hp4.ext (f' := addF (fun _ => 0) o n) (fun k => by unfold addF; dsimp only; split <;> omega)
          rwa [show (0 : Int) + n + m - m = 0 + n by omega] at this
        refine alive_ok (fun h5 fr5 => ⟨_, rfl, ?_⟩)
        have hp5 := hp4'.frame fr5 id id
        simp only [if_true]
        refine used_ok hp5 o ⟨_, rfl, ?_⟩
        have hu : addF (fun _ => 0) o n o = n := by simp [addF]
        rw [hu]
        simp only [beq_self_eq_true, if_true]
        have hg2 : gives (addF (fun _ => 0) o n) o n = true := gives_iff.2 ⟨hpo, by rw [hu]; omega⟩
        refine give_ok hp5 ok2 o n (fun _ h6 hp6 fr6 => ⟨_, rfl, ?_⟩) (fun hc => by rw [hg2] at hc; cases hc)
        simp only [beq_self_eq_true, if_true]
        refine all_ok hp6 ⟨_, rfl, ?_⟩
        have hp6' : PurseAt h6 p pm W S 0 (fun _ => 0) := by
          have := hp6.ext (f' := fun _ => 0) (fun k => by unfold addF; dsimp only; split <;> omega)
          rwa [show (0 : Int) + n - n = 0 by omega] at this
        rw [show (0 : Int) + n - n = 0 by omega]
        simp only [beq_self_eq_true, if_true]
        refine fits_ok hp6' ok1 o n ⟨_, rfl, ?_⟩
        rw [hf]
        exact hk h6 (Fr.step (Fr.step (Fr.step (Fr.step (Fr.step fr1 fr2 hpm) fr3 hpm) fr4 hpm) fr5 (fun _ _ => id)) fr6 hpm)
      · have hne : takeE W S (0 + n) (addF (fun _ => 0) o n) o m ≠ 0 := fun e => by rw [takeE_zero, hf2] at e; cases e
        have hne' : (takeE W S (0 + n) (addF (fun _ => 0) o n) o m == 0) = false := by simpa using hne
        simp only [hf2, hne', beq_self_eq_true, Bool.not_true, Bool.false_eq_true, if_false, if_true]
        refine alive_ok (fun h5 fr5 => ⟨_, rfl, ?_⟩)
        have hp5 := hp2.frame fr5 id id
        simp only [bne_self_eq_false, Bool.false_eq_true, if_false, if_true]
        refine used_ok hp5 o ⟨_, rfl, ?_⟩
        have hu : addF (fun _ => 0) o n o = n := by simp [addF]
        rw [hu]
        simp only [beq_self_eq_true, if_true]
        have hg2 : gives (addF (fun _ => 0) o n) o n = true := gives_iff.2 ⟨hpo, by rw [hu]; omega⟩
        refine give_ok hp5 ok2 o n (fun _ h6 hp6 fr6 => ⟨_, rfl, ?_⟩) (fun hc => by rw [hg2] at hc; cases hc)
        simp only [beq_self_eq_true, if_true]
        refine all_ok hp6 ⟨_, rfl, ?_⟩
        have hp6' : PurseAt h6 p pm W S 0 (fun _ => 0) := by
          have := hp6.ext (f' := fun _ => 0) (fun k => by unfold addF; dsimp only; split <;> omega)
          rwa [show (0 : Int) + n - n = 0 by omega] at this
        rw [show (0 : Int) + n - n = 0 by omega]
        simp only [beq_self_eq_true, if_true]
        refine fits_ok hp6' ok1 o n ⟨_, rfl, ?_⟩
        rw [hf]
        exact hk h6 (Fr.step (Fr.step (Fr.step fr1 fr2 hpm) fr5 (fun _ _ => id)) fr6 hpm)
    · have hne : takeE W S 0 (fun _ => 0) o n ≠ 0 := fun e => by rw [takeE_zero, hf] at e; cases e
      have hne' : (takeE W S 0 (fun _ => 0) o n == 0) = false := by simpa using hne
      have hne2 : (takeE W S 0 (fun _ => 0) o n != 0) = true := by simpa using hne
      simp only [hf, hne', hne2, if_true, Bool.false_eq_true, if_false]
      refine fits_ok hp ok1 o m ⟨_, rfl, ?_⟩
      refine take_ok hp ok1 o m (fun hf2 h3 hp3 fr3 => ⟨_, rfl, ?_⟩) (fun hf2 => ⟨_, rfl, ?_⟩)
      · simp only [hf2, beq_self_eq_true, Bool.not_true, Bool.false_eq_true, if_false]
        refine alive_ok (fun h5 fr5 => ⟨_, rfl, ?_⟩)
        exact hk h5 (Fr.step (Fr.step fr1 fr3 hpm) fr5 (fun _ _ => id))
      · have hnm : takeE W S 0 (fun _ => 0) o m ≠ 0 := fun e => by rw [takeE_zero, hf2] at e; cases e
        have hnm' : (takeE W S 0 (fun _ => 0) o m == 0) = false := by simpa using hnm
        simp only [hf2, hnm', beq_self_eq_true, Bool.not_true, Bool.false_eq_true, if_false]
        refine alive_ok (fun h5 fr5 => ⟨_, rfl, ?_⟩)
        exact hk h5 (Fr.step fr1 fr5 (fun _ _ => id))
  · simp only [show ((1 : Int) != 0) = true by decide, if_true]
    exact alive_ok (fun h5 fr5 => ⟨_, rfl, hk h5 fr5⟩)

/-! ### the calls that a law is handed -/
def encO (o : Bool × Int × Int) : List Value := [.bool o.1, .int .i64 o.2.1, .int .i64 o.2.2]
def wfO (o : Bool × Int × Int) : Prop := (-9223372036854775808 ≤ o.2.1 ∧ o.2.1 ≤ 9223372036854775807) ∧ (-9223372036854775808 ≤ o.2.2 ∧ o.2.2 ≤ 9223372036854775807)
theorem ops_read {p : Option Addr} {len cap : Nat} (hv : RokV Try.prog h T.s_law25_Op (.slice p len cap)) : ∃ ops : List (Bool × Int × Int), ops.length = len ∧ Row h p (ops.flatMap encO) ∧ ∀ o ∈ ops, wfO o := by
  obtain ⟨xs, h1, _, _, h2, h3⟩ := RokV.slice (e := T.law25_Op) encO 3 wfO (by kernel_rfl) (fun _ => rfl) (fun n cs' hl hr => by
    have hh := tleaves_ok 5 n _ [T.bool, T.int, T.int] cs' (by kernel_rfl) (by simpa using hl) hr
    match cs', hl with
    | [v0, v1, v2], _ =>
      obtain ⟨b, rfl⟩ := hh.bool 0 rfl rfl (by kernel_rfl)
      obtain ⟨x, rfl, wx⟩ := hh.int (k := .i64) 1 rfl rfl (by kernel_rfl)
      obtain ⟨y, rfl, wy⟩ := hh.int (k := .i64) 2 rfl rfl (by kernel_rfl)
      exact ⟨(b, x, y), rfl, wf_i64 wx, wf_i64 wy⟩) (by kernel_rfl) hv
  exact ⟨xs, h1, h2, h3⟩
theorem op_at {p : Option Addr} {ops : List (Bool × Int × Int)} (hr : Row h p (ops.flatMap encO)) {i : Nat} {o : Bool × Int × Int} (ho : ops[i]? = some o) :
    ∃ a, p = some a ∧ hcell h (a.add (i * 3)) = some (.bool o.1) ∧ hcell h ((a.add (i * 3)).add 1) = some (.int .i64 o.2.1) ∧ hcell h ((a.add (i * 3)).add 2) = some (.int .i64 o.2.2) := by
  have c0 := flat_at encO 3 (fun _ => rfl) ops i o ho 0 _ rfl
  have c1 := flat_at encO 3 (fun _ => rfl) ops i o ho 1 _ rfl
  have c2 := flat_at encO 3 (fun _ => rfl) ops i o ho 2 _ rfl
  obtain ⟨a, rfl⟩ := hr.some (fun e => by rw [e] at c0; simp at c0)
  refine ⟨a, rfl, hr.cell c0, ?_, ?_⟩
  · rw [add_add]; exact hr.cell c1
  · rw [add_add]; exact hr.cell c2

/-- a call's copy, laid as a variable -/
theorem new_op {K : Nat → Heap → Prop} (b0 : Bool) (x y : Int) (hk : ∀ b h', h'[b]? = some (.cells #[.bool b0, .int .i64 x, .int .i64 y] T.law25_Op (0, 0)) → b = h.size → Fr (fun _ => False) h h' → K b h') :
    NewP h (.cells #[.bool false, .int .i64 0, .int .i64 0] T.law25_Op) fun b h1 => StoreP h1 ⟨b, 0, none⟩ (.bool b0) fun h2 => StoreP h2 ⟨b, 1, none⟩ (.int .i64 x) fun h3 => StoreP h3 ⟨b, 2, none⟩ (.int .i64 y) fun h4 => K b h4 := by
  rintro b h1 rfl rfl
  refine storeP_blk push_new (by simp) ?_
  intro h2 hb2 hs2 ho2
  refine storeP_blk hb2 (by simp) ?_
  intro h3 hb3 hs3 ho3
  refine storeP_blk hb3 (by simp) ?_
  intro h4 hb4 hs4 ho4
  refine hk _ h4 (by simpa using hb4) rfl ⟨by simp at hs2; omega, fun c hc _ => ?_⟩
  have hne : c ≠ h.size := by omega
  rw [ho4 c hne, ho3 c hne, ho2 c hne, Array.getElem?_push, if_neg hne]

/-! ### QuotaSums -/
def psum (f : Int → Int) : Nat → Int
  | 0 => 0
  | n + 1 => psum f n + f ((n : Int) + 1)
theorem psum_add (f : Int → Int) (o n : Int) : ∀ k : Nat, psum (addF f o n) k = psum f k + if 1 ≤ o ∧ o ≤ k then n else 0
  | 0 => by simp [psum]; omega
  | k + 1 => by
    simp only [psum]
    rw [psum_add f o n k]
    unfold addF
    by_cases h1 : (k : Int) + 1 = o
    · rw [if_pos h1, if_neg (by omega), if_pos (by omega)]; omega
    · rw [if_neg h1]
      by_cases h2 : 1 ≤ o ∧ o ≤ k
      · rw [if_pos h2, if_pos (by omega)]; omega
      · rw [if_neg h2, if_neg (by omega)]; omega
def SumsI (h0 : Heap) (p m : Nat) (W S : Int) (i : Int) (h : Heap) : Prop :=
  ∃ A f, 0 ≤ i ∧ i ≤ 100 ∧ Fr (fun _ => False) h0 h ∧ PurseAt h p m W S A f ∧ Ok W S A f ∧ A = psum f 5
def SumsJ (h0 : Heap) (f : Int → Int) (sum k : Int) (h : Heap) : Prop := h0 = h ∧ ∃ n : Nat, n ≤ 5 ∧ k = (n : Int) + 1 ∧ sum = psum f n
theorem psum_small {W S A : Int} {f : Int → Int} (ok : Ok W S A f) : ∀ n : Nat, n ≤ 5 → 0 ≤ psum f n ∧ psum f n ≤ 1048576 * n
  | 0, _ => by simp [psum]
  | n + 1, hn => by
    have := psum_small ok n (by omega)
    have h2 := ok.2.2.2.2.2 ((n : Int) + 1)
    have := ok.2.2.1
    have := ok.2.1
    simp only [psum]
    omega
theorem Ok.give {W S A : Int} {f : Int → Int} {o n : Int} (ok : Ok W S A f) (hg : gives f o n = true) (hA : -2000000000000 ≤ A - n) : Ok W S (A - n) (addF f o (-n)) := by
  obtain ⟨o1, o2, o3, o4, o5, o6⟩ := ok
  obtain ⟨⟨h1, h2, h3⟩, h4⟩ := gives_iff.1 hg
  refine ⟨o1, o2, o3, by omega, by omega, fun k => ?_⟩
  have := o6 k
  unfold addF
  split
  · rename_i e; subst e; omega
  · exact this

theorem quotaSums_ok (W S : Int) (ops_p : Option Addr) (ops_l ops_c : Nat) (_ : (Lit.int .i64 W).wf = true) (_ : (Lit.int .i64 S).wf = true) (hops : RokV Try.prog h T.s_law25_Op (.slice ops_p ops_l ops_c)) :
    LawH Try.prog F.law25_QuotaSums #[.int .i64 W, .int .i64 S, .slice ops_p ops_l ops_c] h := by
  obtain ⟨ops, rfl, hrow, hwf⟩ := ops_read hops
  unfold LawH
  generalize hR : (fun (v : Value) h' => v = .bool true ∧ Fr (fun _ => False) h h') = R
  have hk : ∀ h', Fr (fun _ => False) h h' → R (.bool true) h' := fun h' hf => by rw [← hR]; exact ⟨rfl, hf⟩
  clear hR
  refine law25_QuotaSums.walk ?_
  unfold law25_QuotaSums.vc
  refine new_ok W S (fun hn h1 p pm hp lp lm fr1 => ⟨_, _, rfl, ?_⟩) (fun hn => ⟨_, _, rfl, ?_⟩)
  · have ok1 := Ok.new hn
    have hpm : ∀ c, c < h.size → ¬ (c = p ∨ c = pm) := fun c hc hx => by omega
    refine JoinP.of fun J hJ => ?_
    simp only [bne_self_eq_false, Bool.false_eq_true, if_false, Option.isNone_some]
    subst hJ
    simp only [Bool.false_eq_true, if_false]
    refine ⟨SumsI h p pm W S, fun i _ => 100 - i.toNat, ⟨0, _, by omega, by omega, fr1, hp, ok1, rfl⟩, ?_⟩
    rintro i h4 ⟨A, f, hi0, hi1, fr4, hp4, ok4, hA⟩
    have done : CallsH Try.prog F.law25_alive #[] h4 fun v h_25 => ∃ (t : Bool), v = .bool t ∧ R (.bool t) h_25 :=
      alive_ok (fun h5 fr5 => ⟨_, rfl, hk h5 (Fr.step fr4 fr5 (fun _ _ => id))⟩)
    refine JoinP.of fun J1 hJ1 => ?_
    by_cases hlt : i < (ops.length : Int)
    · simp only [hlt, decide_true, if_true]
      by_cases hlt2 : i < 100
      · simp only [hlt2, decide_true]
        subst hJ1
        simp only [if_true]
        refine ⟨⟨hi0, hlt⟩, ?_⟩
        obtain ⟨j, rfl⟩ := Int.eq_ofNat_of_zero_le hi0
        have hj : j < ops.length := by omega
        obtain ⟨a, rfl, c0, c1, c2⟩ := op_at (hrow.frame fr4 (fun _ _ => id)) (List.getElem?_eq_getElem hj)
        have hwo := hwf _ (List.getElem_mem hj)
        generalize ops[j] = o at c0 c1 c2 hwo
        obtain ⟨back, ow, n⟩ := o
        refine ⟨back, c0, ow, c1, n, c2, ?_⟩
        refine new_op back ow n ?_
        intro b h9 hb9 hbe fr9
        have hp9 := hp4.frame fr9 id id
        have how : IntKind.wrap .i64 (1 + Int.tmod (j : Int) 5) = 1 + ((j % 5 : Nat) : Int) := by
          have : Int.tmod (j : Int) 5 = ((j % 5 : Nat) : Int) := rfl
          rw [this, wrap_id (by omega) (by omega)]
        rw [how]
        generalize hO : (1 + ((j % 5 : Nat) : Int)) = O
        have hO1 : 1 ≤ O ∧ O ≤ 5 := by omega
        have hsmall := psum_small ok4 5 (by omega)
        have hfO := ok4.2.2.2.2.2 O
        refine used_ok hp9 O ⟨_, rfl, n, cell_at hb9 rfl, ?_⟩
        have fr49 : Fr (fun _ => False) h h9 := Fr.step fr4 fr9 (fun _ _ => id)
        have hblt : p < h4.size ∧ pm < h4.size := hp4.lt
        have hbpm : ¬ (b = p ∨ b = pm) := by omega
        -- what comes behind the call
        have after : ∀ h12 A' f', PurseAt h12 p pm W S A' f' → Ok W S A' f' → A' = psum f' 5 → Fr (fun _ => False) h h12 →
            ∃ (I_1 : Int → Int → Heap → Prop) (mu_1 : Int → Int → Heap → Nat), I_1 0 1 h12 ∧ ∀ (sum : Int) (k : Int) (h_13 : Heap), I_1 sum k h_13 →
                if (decide (k ≤ 5)) = true then
                  JoinP (fun (t100 : Bool) (h_14 : Heap) =>
                    if t100 = true then
                      R (.bool false) h_14
                    else
                      CallsH Try.prog F.quota_Purse_Used #[.pointer (some ⟨p, 0, none⟩), .int .i64 k] h_14 fun v_4 h_15 =>
                      ∃ (t104 : Int), v_4 = .int .i64 t104 ∧
                      (I_1 (IntKind.wrap .i64 (sum + t104)) (IntKind.wrap .i64 (k + 1)) h_15 ∧ mu_1 (IntKind.wrap .i64 (sum + t104)) (IntKind.wrap .i64 (k + 1)) h_15 < mu_1 sum k h_13))
                  (fun J_3 =>
                    CallsH Try.prog F.quota_Purse_Used #[.pointer (some ⟨p, 0, none⟩), .int .i64 k] h_13 fun v_5 h_16 =>
                    ∃ (t92 : Int), v_5 = .int .i64 t92 ∧
                    if (decide (t92 > S)) = true then
                      J_3 true h_16
                    else
                      CallsH Try.prog F.quota_Purse_Used #[.pointer (some ⟨p, 0, none⟩), .int .i64 k] h_16 fun v_6 h_17 =>
                      ∃ (t98 : Int), v_6 = .int .i64 t98 ∧
                      J_3 (decide (t98 < 0)) h_17)
                else
                  JoinP (fun (t114 : Bool) (h_18 : Heap) =>
                    if t114 = true then
                      R (.bool false) h_18
                    else
                      (SumsI h p pm W S (IntKind.wrap .i64 ((j : Int) + 1)) h_18 ∧ 100 - (IntKind.wrap .i64 ((j : Int) + 1)).toNat < 100 - ((j : Int)).toNat))
                  (fun J_4 =>
                    CallsH Try.prog F.quota_Purse_All #[.pointer (some ⟨p, 0, none⟩)] h_13 fun v_7 h_19 =>
                    ∃ (t108 : Int), v_7 = .int .i64 t108 ∧
                    if (sum != t108) = true then
                      J_4 true h_19
                    else
                      J_4 (decide (sum > W)) h_19) := by
          intro h12 A' f' hp12 ok12 hA' fr12
          refine ⟨SumsJ h12 f', fun _ k _ => 6 - k.toNat, ⟨rfl, 0, by omega, rfl, rfl⟩, ?_⟩
          rintro sum k h13 ⟨rfl, q, hq, rfl, rfl⟩
          have hs := psum_small ok12 q hq
          have hfk := ok12.2.2.2.2.2 ((q : Int) + 1)
          have hS := ok12.2.1
          have hW := ok12.2.2.1
          by_cases hk5 : (q : Int) + 1 ≤ 5
          · simp only [hk5, decide_true, if_true, JoinP]
            refine used_ok hp12 _ ⟨_, rfl, ?_⟩
            simp only [show ¬ (f' ((q : Int) + 1) > S) by omega, decide_false, Bool.false_eq_true, if_false]
            refine used_ok hp12 _ ⟨_, rfl, ?_⟩
            simp only [show ¬ (f' ((q : Int) + 1) < 0) by omega, decide_false, Bool.false_eq_true, if_false]
            refine used_ok hp12 _ ⟨_, rfl, ?_⟩
            rw [wrap_id (n := psum f' q + _) (by omega) (by omega), wrap_id (n := (q : Int) + 1 + 1) (by omega) (by omega)]
            exact ⟨⟨rfl, q + 1, by omega, by omega, rfl⟩, by omega⟩
          · have hq5 : q = 5 := by omega
            subst hq5
            simp only [show ¬ (((5 : Nat) : Int) + 1 ≤ 5) by omega, decide_false, Bool.false_eq_true, if_false, JoinP]
            refine all_ok hp12 ⟨_, rfl, ?_⟩
            have e1 : (psum f' 5 != A') = false := by rw [hA']; simp
            have e2 : ¬ (psum f' 5 > W) := by have := ok12.2.2.2.2.1; omega
            simp only [e1, e2, decide_false, Bool.false_eq_true, if_false]
            rw [wrap_id (n := (j : Int) + 1) (by omega) (by omega)]
            exact ⟨⟨A', f', by omega, by omega, fr12, hp12, ok12, hA'⟩, by omega⟩
        refine take_ok hp9 ok4 O n (fun hf h11 hp11 fr11 => ⟨_, rfl, ?_⟩) (fun hf => ⟨_, rfl, ?_⟩)
        · have ok11 := ok4.take hf
          obtain ⟨⟨hf1, hf2, hf3⟩, hf4, hf5⟩ := fits_iff.1 hf
          have hA11 : A + n = psum (addF f O n) 5 := by rw [psum_add, if_pos (by omega)]; omega
          have fr411 := Fr.step fr49 fr11 hpm
          have hb11 := fr11.get hb9 hbpm
          refine JoinP.of fun J2 hJ2 => ?_
          simp only [beq_self_eq_true, if_true, JoinP]
          have hu : addF f O n O = f O + n := by simp [addF]
          refine ⟨n, cell_at hb11 rfl, used_ok hp11 O ⟨_, rfl, cell_at hb11 rfl, ?_⟩⟩
          have hS := ok4.2.1
          have hW := ok4.2.2.1
          rw [hu, wrap_id (by omega) (by omega)]
          simp only [bne_self_eq_false, Bool.false_eq_true, if_false]
          refine ⟨back, cell_at hb11 rfl, ?_⟩
          cases back with
          | false =>
            simp only [Bool.false_eq_true, if_false]
            subst hJ2
            exact after h11 _ _ hp11 ok11 hA11 fr411
          | true =>
            simp only [if_true]
            have hg : gives (addF f O n) O n = true := gives_iff.2 ⟨by omega, by rw [hu]; omega⟩
            refine ⟨n, cell_at hb11 rfl, give_ok hp11 ok11 O n (fun _ h22 hp22 fr22 => ?_) (fun hc => by rw [hg] at hc; cases hc)⟩
            have hb22 := fr22.get hb11 hbpm
            refine ⟨_, rfl, cell_at hb22 rfl, cell_at hb22 rfl, ?_⟩
            simp only [bne_self_eq_false, Bool.false_eq_true, if_false]
            have hu2 : addF (addF f O n) O (-n) O = f O := by simp [addF]; omega
            refine used_ok hp22 O ⟨_, rfl, cell_at hb22 rfl, cell_at hb22 rfl, ?_⟩
            rw [hu2]
            simp only [bne_self_eq_false, Bool.false_eq_true, if_false]
            subst hJ2
            have hA22 : A + n - n = psum (addF (addF f O n) O (-n)) 5 := by rw [psum_add, if_pos (by omega)]; omega
            exact after h22 _ _ hp22 (Ok.give ok11 hg (by have := ok4.2.2.2.1; omega)) hA22 (Fr.step fr411 fr22 hpm)
        · have hne : takeE W S A f O n ≠ 0 := fun e => by rw [takeE_zero, hf] at e; cases e
          have hne' : (takeE W S A f O n == 0) = false := by simpa using hne
          refine JoinP.of fun J2 hJ2 => ?_
          simp only [hne', Bool.false_eq_true, if_false]
          refine used_ok hp9 O ⟨_, rfl, ?_⟩
          simp only [bne_self_eq_false, Bool.false_eq_true, if_false]
          subst hJ2
          exact after h9 _ _ hp9 ok4 hA fr49
      · simp only [hlt2, decide_false]
        subst hJ1
        simp only [Bool.false_eq_true, if_false]
        exact done
    · simp only [hlt, decide_false, Bool.false_eq_true, if_false]
      subst hJ1
      simp only [Bool.false_eq_true, if_false]
      exact done
  · simp only [JoinP, show ((1 : Int) != 0) = true by decide, if_true]
    exact alive_ok (fun h5 fr5 => ⟨_, rfl, hk h5 fr5⟩)

/-! ### QuotaLives -/
open Ref25 (RefAt usedOf Small)
/-- the purse and the document's purse say the same -/
structure St (h0 h : Heap) (p m x : Nat) (W S : Int) (k : Nat) (A : Int) (f : Int → Int) (pL : Option Addr) (cap : Nat) (l : List (Int × Int)) : Prop where
  fr : Fr (fun _ => False) h0 h
  hp : PurseAt h p m W S A f
  ok : Ok W S A f
  hx : RefAt h x pL cap W S l
  len : l.length ≤ k
  hd : ∀ d ∈ l, -1048576 ≤ d.2 ∧ d.2 ≤ 1048576
  hf : ∀ o, o ≠ 0 → f o = usedOf l o
  hA : A = usedOf l 0
  xne : x ≠ p ∧ x ≠ m
  ge : h0.size ≤ x ∧ h0.size ≤ p ∧ h0.size ≤ m
  pne : ∀ c, inBlk pL c → c ≠ p ∧ c ≠ m ∧ h0.size ≤ c
theorem St.frame {h0 h h' : Heap} {p m x : Nat} {W S : Int} {k : Nat} {A : Int} {f : Int → Int} {pL : Option Addr} {cap : Nat} {l : List (Int × Int)} (s : St h0 h p m x W S k A f pL cap l) (hf : Fr (fun _ => False) h h') : St h0 h' p m x W S k A f pL cap l :=
  ⟨Fr.step s.fr hf (fun _ _ => id), s.hp.frame hf id id, s.ok, s.hx.frame hf id (fun _ _ => id), s.len, s.hd, s.hf, s.hA, s.xne, s.ge, s.pne⟩
theorem St.small {h0 h : Heap} {p m x : Nat} {W S : Int} {k : Nat} {A : Int} {f : Int → Int} {pL : Option Addr} {cap : Nat} {l : List (Int × Int)} (s : St h0 h p m x W S k A f pL cap l) (hk : k ≤ 200) : Small l := ⟨by have := s.len; omega, s.hd⟩
def LivesI (h0 : Heap) (p m x : Nat) (W S : Int) (i : Int) (h : Heap) : Prop := 0 ≤ i ∧ i ≤ 100 ∧ ∃ A f pL cap l, St h0 h p m x W S i.toNat A f pL cap l

theorem take_same {W S A : Int} {f : Int → Int} {l : List (Int × Int)} (hf : ∀ o, o ≠ 0 → f o = usedOf l o) (hA : A = usedOf l 0) (o n : Int) : Ref25.takeE W S l o n = takeE W S A f o n := by
  unfold Ref25.takeE takeE
  by_cases hm : may o n = true
  · have := may_iff.1 hm
    rw [if_pos hm, if_pos hm, ← hf o (by omega), ← hA]
    by_cases hc : n ≤ S - f o ∧ n ≤ W - A
    · rw [if_pos hc, if_pos (fits_iff.2 ⟨this, hc⟩)]
    · rw [if_neg hc, if_neg (fun hx => hc (fits_iff.1 hx).2)]
  · rw [if_neg hm, if_neg hm]
theorem give_same {f : Int → Int} {l : List (Int × Int)} (hf : ∀ o, o ≠ 0 → f o = usedOf l o) (o n : Int) : Ref25.giveE l o n = giveE f o n := by
  unfold Ref25.giveE giveE
  by_cases hm : may o n = true
  · have := may_iff.1 hm
    rw [if_pos hm, if_pos hm, ← hf o (by omega)]
    by_cases hc : n ≤ f o
    · rw [if_pos hc, if_pos (gives_iff.2 ⟨this, hc⟩)]
    · rw [if_neg hc, if_neg (fun hx => hc (gives_iff.1 hx).2)]
  · rw [if_neg hm, if_neg hm]
theorem giveE_zero {f : Int → Int} {o n : Int} : giveE f o n = 0 ↔ gives f o n = true := by
  unfold giveE
  constructor
  · intro h
    split at h
    · split at h
      · assumption
      · cases h
    · cases h
  · intro h
    rw [if_pos (may_iff.2 (gives_iff.1 h).1), if_pos h]
theorem used_add {f : Int → Int} {l : List (Int × Int)} (hf : ∀ o, o ≠ 0 → f o = usedOf l o) (o n : Int) : ∀ q, q ≠ 0 → addF f o n q = usedOf (l ++ [(o, n)]) q := by
  intro q hq
  rw [Ref25.usedOf_snoc, ← hf q hq]
  unfold addF Ref25.part
  by_cases h : q = o
  · subst h; simp
  · rw [if_neg h, if_neg (by simp [hq, Ne.symm h])]; omega
theorem all_add {A : Int} {l : List (Int × Int)} (hA : A = usedOf l 0) (o n : Int) : A + n = usedOf (l ++ [(o, n)]) 0 := by
  rw [Ref25.usedOf_snoc, hA]; simp [Ref25.part]

theorem quotaLives_ok (W S : Int) (ops_p : Option Addr) (ops_l ops_c : Nat) (ow n : Int) (_ : (Lit.int .i64 W).wf = true) (_ : (Lit.int .i64 S).wf = true) (hops : RokV Try.prog h T.s_law25_Op (.slice ops_p ops_l ops_c))
    (_ : (Lit.int .i64 ow).wf = true) (_ : (Lit.int .i64 n).wf = true) :
    LawH Try.prog F.law25_QuotaLives #[.int .i64 W, .int .i64 S, .slice ops_p ops_l ops_c, .int .i64 ow, .int .i64 n] h := by
  obtain ⟨ops, rfl, hrow, hwf⟩ := ops_read hops
  unfold LawH
  generalize hR : (fun (v : Value) h' => v = .bool true ∧ Fr (fun _ => False) h h') = R
  have hk : ∀ h', Fr (fun _ => False) h h' → R (.bool true) h' := fun h' hf => by rw [← hR]; exact ⟨rfl, hf⟩
  clear hR
  refine law25_QuotaLives.walk ?_
  unfold law25_QuotaLives.vc
  have pre : ∀ hh, hh = newOk W S → (decide (W < 1) = true ∨ decide (W > 1048576) = true ∨ decide (S < 1) = true ∨ decide (S > W) = true ↔ hh = false) := by
    rintro _ rfl
    have := @newOk_iff W S
    cases hq : newOk W S with
    | true => have := this.1 hq; simp; omega
    | false =>
      have h2 : ¬ (1 ≤ W ∧ W ≤ 1048576 ∧ 1 ≤ S ∧ S ≤ W) := fun hc => by rw [this.2 hc] at hq; cases hq
      simp; omega
  refine new_ok W S (fun hn h1 p m hp lp lm fr1 => ⟨_, _, rfl, ?_⟩) (fun hn => ⟨_, _, rfl, ?_⟩)
  · have hno : ¬ (decide (W < 1) = true ∨ decide (W > 1048576) = true ∨ decide (S < 1) = true ∨ decide (S > W) = true) := fun hc => by have := (pre _ rfl).1 hc; rw [hn] at this; cases this
    simp only [not_or, Bool.not_eq_true] at hno
    refine JoinP.of fun J hJ => ?_
    simp only [hno.1, hno.2.1, hno.2.2.1, hno.2.2.2, Bool.false_eq_true, if_false]
    subst hJ
    simp only [Bool.false_eq_true, if_false]
    refine JoinP.of fun J1 hJ1 => ?_
    simp only [bne_self_eq_false, Bool.false_eq_true, if_false, Option.isNone_some]
    subst hJ1
    simp only [Bool.false_eq_true, if_false]
    rintro x h5 rfl rfl
    have ok1 := Ok.new hn
    have hWS := newOk_iff.1 hn
    have hlt := hp.lt
    have fr5 : Fr (fun _ => False) h1 (h1.push (.cells #[.int .i64 W, .int .i64 S, .slice none 0 0] T.ref25_Purse)) := Fr.push _ _
    refine ⟨LivesI h p m h1.size W S, fun i _ => 100 - i.toNat, ⟨by omega, by omega, 0, (fun _ => 0), none, 0, [], ?_⟩, ?_⟩
    · exact ⟨Fr.step fr1 fr5 (fun _ _ => id), hp.frame fr5 id id, ok1, ⟨push_new, .nil rfl rfl rfl rfl, fun c ⟨a, e, _⟩ => by cases e⟩, by simp, (fun d hd => by cases hd), (fun o _ => rfl), rfl, ⟨by omega, by omega⟩, ⟨by have := fr1.1; omega, lp, lm⟩, fun c ⟨a, e, _⟩ => by cases e⟩
    · generalize h1.size = x
      clear fr5 hlt hp fr1 lp lm
      rintro i h6 ⟨hi0, hi1, A, f, pL, cap, l, st⟩
      refine JoinP.of fun J2 hJ2 => ?_
      -- the end
      have fin : J2 false h6 := by
        subst hJ2
        simp only [Bool.false_eq_true, if_false]
        rintro b3 h27 rfl rfl
        have hz : PurseZero (h6.push (.cells #[.int .i64 0, .int .i64 0, .map none, .int .i64 0] T.quota_Purse)) h6.size := ⟨0, 0, 0, push_new⟩
        have fr27 : Fr (fun _ => False) h (h6.push (.cells #[.int .i64 0, .int .i64 0, .map none, .int .i64 0] T.quota_Purse)) := Fr.step st.fr (Fr.push (S := fun _ => False) _ _) (fun _ _ => id)
        refine alive_ok (fun h28 fr28 => ⟨_, rfl, ?_⟩)
        have hz2 := hz.frame fr28 id
        simp only [if_true]
        refine take_nil 1 1 ⟨_, rfl, ?_⟩
        simp only [beq_self_eq_true, if_true]
        refine take_zero hz2 1 1 ⟨_, rfl, ?_⟩
        simp only [beq_self_eq_true, if_true]
        refine give_nil 1 1 ⟨_, rfl, ?_⟩
        simp only [beq_self_eq_true, if_true]
        refine give_zero hz2 1 0 ⟨_, rfl, ?_⟩
        simp only [beq_self_eq_true, if_true]
        refine used_nil 1 ⟨_, rfl, ?_⟩
        refine all_zero hz2 ⟨_, rfl, ?_⟩
        rw [show (0 : Int) + 0 = 0 from rfl, wrap_id (by omega) (by omega)]
        simp only [beq_self_eq_true, if_true]
        refine fits_nil 1 0 ⟨_, rfl, ?_⟩
        simp only [Bool.not_false, if_true]
        refine fits_zero hz2 1 0 ⟨_, rfl, ?_⟩
        exact hk h28 (Fr.step fr27 fr28 (fun _ _ => id))
      by_cases hlt : i < (ops.length : Int)
      · simp only [hlt, decide_true, if_true]
        by_cases hlt2 : i < 100
        · simp only [hlt2, decide_true]
          clear fin
          subst hJ2
          simp only [if_true]
          refine ⟨⟨hi0, hlt⟩, ?_⟩
          obtain ⟨j, rfl⟩ := Int.eq_ofNat_of_zero_le hi0
          have hj : j < ops.length := by omega
          obtain ⟨a, rfl, c0, c1, c2⟩ := op_at (hrow.frame st.fr (fun _ _ => id)) (List.getElem?_eq_getElem hj)
          generalize ops[j] = o at c0 c1 c2
          obtain ⟨back, oo, on⟩ := o
          refine ⟨back, c0, oo, c1, on, c2, ?_⟩
          refine new_op back oo on ?_
          intro b h11 hb11 hbe fr11
          have st11 := st.frame fr11
          have hblt := st.hp.lt
          have hxlt := lt_of_get st.hx.blk
          have hbp : b ≠ p ∧ b ≠ m ∧ b ≠ x := by omega
          have hbL : ¬ inBlk pL b := fun hc => by have := st.hx.own.blk_lt hc; omega
          have hbh : b < h11.size := lt_of_get hb11
          refine ⟨back, cell_at hb11 rfl, ?_⟩
          refine JoinP.of fun J3 hJ3 => ?_
          -- behind the call
          have after : ∀ h12 A f pL cap l, St h h12 p m x W S (j + 1) A f pL cap l → h12[b]? = some (.cells #[.bool back, .int .i64 oo, .int .i64 on] T.law25_Op (0, 0)) → ¬ inBlk pL b → J3 true h12 := by
            intro h12 A f pL cap l st hb12 hbL
            subst hJ3
            have hsm := st.small (by omega)
            have hplt := st.hp.lt
            have hxlt := lt_of_get st.hx.blk
            refine ⟨pL, l.length, cap, cell_at st.hx.blk rfl, ?_⟩
            rintro y h13 rfl rfl
            have fr13 : Fr (fun _ => False) h12 (h12.push (.cells #[.int .i64 W, .int .i64 S, .slice pL l.length cap] T.ref25_Purse)) := Fr.push _ _
            have st13 := st.frame fr13
            have hy : RefAt (h12.push (.cells #[.int .i64 W, .int .i64 S, .slice pL l.length cap] T.ref25_Purse)) h12.size pL cap W S l :=
              ⟨push_new, st13.hx.own, fun c hc e => by have := st.hx.own.blk_lt hc; omega⟩
            have hb13 := fr13.get hb12 id
            have hby : b < h12.size := lt_of_get hb12
            generalize hyy : h12.size = y at hy
            generalize h12.push (.cells #[.int .i64 W, .int .i64 S, .slice pL l.length cap] T.ref25_Purse) = h13 at st13 hy hb13 fr13
            refine JoinP.of fun J4 hJ4 => ?_
            -- the round's end
            have rest : CallsH Try.prog F.quota_Purse_Fits #[.pointer (some ⟨p, 0, none⟩), .int .i64 ow, .int .i64 n] h13 fun v_6 h_19 =>
                ∃ (t139 : Bool), v_6 = .bool t139 ∧
                hcell h_19 ⟨b, 1, none⟩ = some (.int .i64 oo) ∧
                CallsH Try.prog F.ref25_Purse_Take #[.pointer (some ⟨y, 0, none⟩), .int .i64 ow, .int .i64 n] h_19 fun v_7 h_20 =>
                ∃ (t143 : Int), v_7 = .int .i64 t143 ∧
                hcell h_20 ⟨b, 1, none⟩ = some (.int .i64 oo) ∧
                J4 (!(t139 == (t143 == 0))) h_20 := by
              refine fits_ok st13.hp st13.ok ow n ⟨_, rfl, cell_at hb13 rfl, ?_⟩
              have hnext : ∀ h20, St h h20 p m x W S (j + 1) A f pL cap l → J4 false h20 := by
                intro h20 st20
                subst hJ4
                simp only [Bool.false_eq_true, if_false]
                rw [wrap_id (n := (j : Int) + 1) (by omega) (by omega)]
                exact ⟨⟨by omega, by omega, A, f, pL, cap, l, st20⟩, by omega⟩
              have hts := take_same (W := W) (S := S) st13.hf st13.hA ow n
              refine Ref25.take_ok hy hsm ⟨by omega, by omega⟩ ⟨by omega, by omega⟩ ow n (fun he h20 pL' cap' hy' own20 fr20 _ => ⟨_, rfl, ?_, ?_⟩) (fun he => ⟨_, rfl, cell_at hb13 rfl, ?_⟩)
              · exact cell_at (fr20.get hb13 (by rintro (e | e); omega; exact hbL e)) rfl
              · have hfit : fits W S A f ow n = true := by rw [hts, takeE_zero] at he; exact he
                rw [hfit]
                refine hnext h20 ?_
                have hnp : ∀ c, c = p ∨ c = m → ¬ (c = y ∨ inBlk pL c) := by
                  rintro c hc (e | e)
                  · omega
                  · have := st.pne c e; omega
                exact ⟨Fr.step st13.fr fr20 (fun c hc hx => by
                    rcases hx with e | e
                    · have := st.ge; have := st.fr.1; omega
                    · have := st.pne c e; omega), st13.hp.frame fr20 (hnp p (.inl rfl)) (hnp m (.inr rfl)), st13.ok, ⟨fr20.get st13.hx.blk (by
                    rintro (e | e)
                    · omega
                    · exact st13.hx.ne x e rfl), own20, st13.hx.ne⟩, st13.len, st13.hd, st13.hf, st13.hA, st13.xne, st13.ge, st13.pne⟩
              · have hfit : fits W S A f ow n = false := by
                  cases hq : fits W S A f ow n with
                  | false => rfl
                  | true => rw [hts] at he; exact absurd (takeE_zero.2 hq) he
                have he' : (Ref25.takeE W S l ow n == 0) = false := by simpa using he
                rw [hfit, he']
                exact hnext h13 st13
            simp only [Bool.not_true, Bool.false_eq_true, if_false]
            refine all_ok st13.hp ⟨_, rfl, ?_⟩
            refine Ref25.used_ok st13.hx hsm 0 ⟨_, rfl, ?_⟩
            have e1 : (A != usedOf l 0) = false := by rw [st.hA]; simp
            simp only [e1, Bool.false_eq_true, if_false]
            refine ⟨oo, cell_at hb13 rfl, ?_⟩
            by_cases ho0 : oo = 0
            · have e2 : (oo != 0) = false := by simp [ho0]
              simp only [e2, Bool.false_eq_true, if_false]
              exact rest
            · have e2 : (oo != 0) = true := by simpa using ho0
              simp only [e2, if_true]
              refine ⟨oo, cell_at hb13 rfl, oo, cell_at hb13 rfl, ?_⟩
              refine used_ok st13.hp oo ⟨_, rfl, cell_at hb13 rfl, cell_at hb13 rfl, ?_⟩
              refine Ref25.used_ok st13.hx hsm oo ⟨_, rfl, cell_at hb13 rfl, ?_⟩
              have e3 : (f oo != usedOf l oo) = false := by rw [st.hf oo ho0]; simp
              simp only [e3, Bool.false_eq_true, if_false]
              exact rest
          have hsm := st11.small (by omega)
          have hnx : ∀ c, c = x ∨ inBlk pL c → ¬ (c = p ∨ c = m) := by
            rintro c (e | e) hc
            · have := st.xne; omega
            · have := st.pne c e; omega
          have hxn : ∀ c, c = p ∨ c = m → ¬ (c = x ∨ inBlk pL c) := fun c h1 h2 => hnx c h2 h1
          have hWS' : (0 ≤ W ∧ W ≤ 1048576) ∧ (0 ≤ S ∧ S ≤ 1048576) := by omega
          have hgeb : ∀ c, c < h.size → ¬ (c = p ∨ c = m) := fun c hc hx => by have := st.ge; omega
          have hgeL : ∀ c, c < h.size → ¬ (c = x ∨ inBlk pL c) := fun c hc hx => by
            rcases hx with e | e
            · have := st.ge; omega
            · have := st.pne c e; omega
          have hbS : ¬ (b = p ∨ b = m) := by omega
          have hbT : ¬ (b = x ∨ inBlk pL b) := by rintro (e | e); omega; exact hbL e
          cases back with
          | true =>
            simp only [if_true]
            refine ⟨oo, cell_at hb11 rfl, on, cell_at hb11 rfl, oo, cell_at hb11 rfl, on, cell_at hb11 rfl, ?_⟩
            have hgs := give_same st11.hf oo on
            refine give_ok st11.hp st11.ok oo on (fun hg h23 hp23 fr23 => ?_) (fun hg => ?_)
            · have hb23 := fr23.get hb11 hbS
              refine ⟨_, rfl, cell_at hb23 rfl, cell_at hb23 rfl, ?_⟩
              have hx23 := st11.hx.frame fr23 (hnx x (.inl rfl)) (fun c hc => hnx c (.inr hc))
              have hge0 : giveE f oo on = 0 := giveE_zero.2 hg
              obtain ⟨⟨hg1, hg2, hg3⟩, hg4⟩ := gives_iff.1 hg
              have hfo := st11.ok.2.2.2.2.2 oo
              refine Ref25.give_ok hx23 hsm oo on (fun _ h24 pL' cap' hx24 _ fr24 hnew => ⟨_, rfl, ?_⟩) (fun he => by rw [hgs, hge0] at he; exact absurd rfl he)
              have hlen' : (l ++ [(oo, -on)]).length ≤ j + 1 := by have := st11.len; simp at this ⊢; omega
              have hd' : ∀ d ∈ l ++ [(oo, -on)], -1048576 ≤ d.2 ∧ d.2 ≤ 1048576 := by
                intro d hd
                rcases List.mem_append.1 hd with hd | hd
                · exact st11.hd d hd
                · simp at hd; subst hd; simp; omega
              have hA' : A - on = usedOf (l ++ [(oo, -on)]) 0 := by rw [← all_add st11.hA]; omega
              have hus := Ref25.used_small 0 _ hd'
              refine after h24 (A - on) (addF f oo (-on)) pL' cap' _ ⟨Fr.step (Fr.step st11.fr fr23 hgeb) fr24 hgeL, hp23.frame fr24 (hxn p (.inl rfl)) (hxn m (.inr rfl)), Ok.give st11.ok hg (by rw [hA']; omega), hx24, hlen', hd', used_add st11.hf oo (-on), hA', st.xne, st.ge, ?_⟩ (fr24.get hb23 hbT) ?_
              · intro c hc
                rcases hnew c hc with hc' | hc'
                · exact st.pne c hc'
                · have := hp23.lt; have := fr23.1; have := st11.fr.1; omega
              · intro hc
                rcases hnew b hc with hc' | hc'
                · exact hbL hc'
                · have := fr23.1; omega
            · refine ⟨_, rfl, cell_at hb11 rfl, cell_at hb11 rfl, ?_⟩
              have hgne : giveE f oo on ≠ 0 := fun e => by rw [giveE_zero, hg] at e; cases e
              refine Ref25.give_ok st11.hx hsm oo on (fun he => by rw [hgs] at he; exact absurd he hgne) (fun he => ⟨_, rfl, ?_⟩)
              rw [hgs, beq_self_eq_true]
              exact after h11 A f pL cap l ⟨st11.fr, st11.hp, st11.ok, st11.hx, by have := st11.len; simp at this; omega, st11.hd, st11.hf, st11.hA, st.xne, st.ge, st.pne⟩ hb11 hbL
          | false =>
            simp only [Bool.false_eq_true, if_false]
            refine ⟨oo, cell_at hb11 rfl, on, cell_at hb11 rfl, oo, cell_at hb11 rfl, on, cell_at hb11 rfl, ?_⟩
            have hts := take_same (W := W) (S := S) st11.hf st11.hA oo on
            refine take_ok st11.hp st11.ok oo on (fun hg h23 hp23 fr23 => ?_) (fun hg => ?_)
            · have hb23 := fr23.get hb11 hbS
              refine ⟨_, rfl, cell_at hb23 rfl, cell_at hb23 rfl, ?_⟩
              have hx23 := st11.hx.frame fr23 (hnx x (.inl rfl)) (fun c hc => hnx c (.inr hc))
              have hge0 : takeE W S A f oo on = 0 := takeE_zero.2 hg
              obtain ⟨⟨hg1, hg2, hg3⟩, hg4, hg5⟩ := fits_iff.1 hg
              have hfo := st11.ok.2.2.2.2.2 oo
              refine Ref25.take_ok hx23 hsm hWS'.1 hWS'.2 oo on (fun _ h24 pL' cap' hx24 _ fr24 hnew => ⟨_, rfl, ?_⟩) (fun he => by rw [hts, hge0] at he; exact absurd rfl he)
              have hlen' : (l ++ [(oo, on)]).length ≤ j + 1 := by have := st11.len; simp at this ⊢; omega
              have hd' : ∀ d ∈ l ++ [(oo, on)], -1048576 ≤ d.2 ∧ d.2 ≤ 1048576 := by
                intro d hd
                rcases List.mem_append.1 hd with hd | hd
                · exact st11.hd d hd
                · simp at hd; subst hd; simp; omega
              refine after h24 (A + on) (addF f oo on) pL' cap' _ ⟨Fr.step (Fr.step st11.fr fr23 hgeb) fr24 hgeL, hp23.frame fr24 (hxn p (.inl rfl)) (hxn m (.inr rfl)), st11.ok.take hg, hx24, hlen', hd', used_add st11.hf oo on, all_add st11.hA oo on, st.xne, st.ge, ?_⟩ (fr24.get hb23 hbT) ?_
              · intro c hc
                rcases hnew c hc with hc' | hc'
                · exact st.pne c hc'
                · have := hp23.lt; have := fr23.1; have := st11.fr.1; omega
              · intro hc
                rcases hnew b hc with hc' | hc'
                · exact hbL hc'
                · have := fr23.1; omega
            · refine ⟨_, rfl, cell_at hb11 rfl, cell_at hb11 rfl, ?_⟩
              have hgne : takeE W S A f oo on ≠ 0 := fun e => by rw [takeE_zero, hg] at e; cases e
              refine Ref25.take_ok st11.hx hsm hWS'.1 hWS'.2 oo on (fun he => by rw [hts] at he; exact absurd he hgne) (fun he => ⟨_, rfl, ?_⟩)
              rw [hts, beq_self_eq_true]
              exact after h11 A f pL cap l ⟨st11.fr, st11.hp, st11.ok, st11.hx, by have := st11.len; simp at this; omega, st11.hd, st11.hf, st11.hA, st.xne, st.ge, st.pne⟩ hb11 hbL
        · simp only [hlt2, decide_false]
          exact fin
      · simp only [hlt, decide_false, Bool.false_eq_true, if_false]
        exact fin
  · have hno := (pre _ rfl).2 hn
    refine JoinP.of fun J hJ => ?_
    have hend : J true h := by
      subst hJ
      simp only [if_true]
      refine alive_ok (fun h5 fr5 => ⟨_, rfl, ?_⟩)
      simp only [if_true, Option.isNone_none, beq_self_eq_true]
      exact hk h5 fr5
    by_cases h1 : W < 1
    · simpa only [h1, decide_true, if_true] using hend
    · simp only [h1, decide_false, Bool.false_eq_true, if_false]
      by_cases h2 : W > 1048576
      · simpa only [h2, decide_true, if_true] using hend
      · simp only [h2, decide_false, Bool.false_eq_true, if_false]
        by_cases h3 : S < 1
        · simpa only [h3, decide_true, if_true] using hend
        · simp only [h3, decide_false, Bool.false_eq_true, if_false]
          have h4 : S > W := by simp [h1, h2, h3] at hno; omega
          simpa only [h4, decide_true] using hend
end
end Go.Proofs.Ytjjmbohnchngcaa
