/-
  What is proved here: the laws QuotaFits, QuotaSums and QuotaLives return true, for every argument. No condition.
-/
import Derived.Test.YtjjmbohnchngcaaVcC
import Derived.Test.YtjjmbohnchngcaaRef25
import Derived.Test.YtjjmbohnchngcaaRok
namespace Go.Proofs.Ytjjmbohnchngcaa
open Go.Den
open Quota

theorem Fr.step {S : Nat → Prop} {h h1 h2 : Heap} (hf : Fr (fun _ => False) h h1) (hs : Fr S h1 h2) (hn : ∀ c, c < h.size → ¬ S c) : Fr (fun _ => False) h h2 :=
  hf.trans hs (fun _ _ hx => hx) (fun c hc hx => hn c hc hx)

section
variable {h : Heap} {R : Value → Heap → Prop}

theorem alive_ok (hk : ∀ h', Fr (fun _ => False) h h' → R (.bool true) h') : CallsH Try.prog F.law25_alive #[] h R := by
  refine law25_alive.walk ?_
  unfold law25_alive.vc
  refine new_ok 10 6 (fun hn h1 p m hp lp lm fr1 => ⟨_, _, rfl, ?_⟩) (fun hc => absurd hc (by decide))
  have ok1 := Ok.new hn
  simp only [JoinP, bne_self_eq_false, Bool.false_eq_true, if_false, Option.isNone_some]
  have hpm : ∀ c, c < h.size → ¬ (c = p ∨ c = m) := fun c hc hx => by omega
  refine take_ok hp ok1 1 6 (fun hf2 h2 hp2 fr2 => ⟨_, rfl, ?_⟩) (fun hc => absurd hc (by decide))
  have ok2 := ok1.take hf2
  refine take_ok hp2 ok2 2 5 (fun hc => absurd hc (by decide)) (fun _ => ⟨_, rfl, ?_⟩)
  refine take_ok hp2 ok2 1 1 (fun hc => absurd hc (by decide)) (fun _ => ⟨_, rfl, ?_⟩)
  refine give_ok hp2 ok2 1 7 (fun hc => absurd hc (by decide)) (fun _ => ⟨_, rfl, ?_⟩)
  refine give_ok hp2 ok2 1 2 (fun _ h3 hp3 fr3 => ⟨_, rfl, ?_⟩) (fun hc => absurd hc (by decide))
  refine new_ok 5 6 (fun hc => absurd hc (by decide)) (fun _ => ⟨_, _, rfl, ?_⟩)
  have e1 : takeE 10 6 (0 + 6) (addF (fun _ => 0) 1 6) 2 5 = 15 := by decide
  have e2 : takeE 10 6 (0 + 6) (addF (fun _ => 0) 1 6) 1 1 = 15 := by decide
  have e3 : giveE (addF (fun _ => 0) 1 6) 1 7 = 7 := by decide
  have ok3 : Ok 10 6 (0 + 6 - 2) (addF (addF (fun _ => 0) 1 6) 1 (-2)) := ⟨by decide, by decide, by decide, by decide, by decide, fun k => by unfold addF; dsimp only; split <;> omega⟩
  rw [e1, e2, e3]
  simp only [beq_self_eq_true, if_true]
  refine used_ok hp3 1 ⟨_, rfl, ?_⟩
  have e4 : addF (addF (fun _ => 0) 1 6) 1 (-2) 1 = 4 := by decide
  rw [e4]
  simp only [beq_self_eq_true, if_true]
  refine all_ok hp3 ⟨_, rfl, ?_⟩
  have e5 : ((0 : Int) + 6 - 2 == 4) = true := by decide
  rw [e5]
  simp only [if_true]
  refine fits_ok hp3 ok3 2 6 ⟨_, rfl, ?_⟩
  have e6 : fits 10 6 (0 + 6 - 2) (addF (addF (fun _ => 0) 1 6) 1 (-2)) 2 6 = true := by decide
  rw [e6]
  simp only [if_true]
  refine fits_ok hp3 ok3 2 7 ⟨_, rfl, ?_⟩
  have e7 : fits 10 6 (0 + 6 - 2) (addF (addF (fun _ => 0) 1 6) 1 (-2)) 2 7 = false := by decide
  rw [e7]
  exact hk h3 (Fr.step (Fr.step fr1 fr2 hpm) fr3 hpm)

theorem quotaFits_ok (W S o n m : Int) (_ : (Lit.int .i64 W).wf = true) (_ : (Lit.int .i64 S).wf = true) (_ : (Lit.int .i64 o).wf = true) (_ : (Lit.int .i64 n).wf = true) (_ : (Lit.int .i64 m).wf = true) :
    LawH Try.prog F.law25_QuotaFits #[.int .i64 W, .int .i64 S, .int .i64 o, .int .i64 n, .int .i64 m] h := by
  unfold LawH
  generalize hR : (fun (v : Value) h' => v = .bool true ∧ Fr (fun _ => False) h h') = R
  have hk : ∀ h', Fr (fun _ => False) h h' → R (.bool true) h' := fun h' hf => by rw [← hR]; exact ⟨rfl, hf⟩
  clear hR
  refine law25_QuotaFits.walk ?_
  unfold law25_QuotaFits.vc
  simp only [JoinP]
  refine new_ok W S (fun hn h1 p pm hp lp lm fr1 => ⟨_, _, rfl, ?_⟩) (fun hn => ⟨_, _, rfl, ?_⟩)
  · have ok1 := Ok.new hn
    have hpm : ∀ c, c < h.size → ¬ (c = p ∨ c = pm) := fun c hc hx => by omega
    simp only [bne_self_eq_false, Bool.false_eq_true, if_false, Option.isNone_some]
    refine fits_ok hp ok1 o n ⟨_, rfl, ?_⟩
    refine take_ok hp ok1 o n (fun hf h2 hp2 fr2 => ⟨_, rfl, ?_⟩) (fun hf => ⟨_, rfl, ?_⟩)
    · have ok2 := ok1.take hf
      have hpo := (fits_iff.1 hf).1
      simp only [hf]
      refine fits_ok hp2 ok2 o m ⟨_, rfl, ?_⟩
      refine take_ok hp2 ok2 o m (fun hf2 h3 hp3 fr3 => ⟨_, rfl, ?_⟩) (fun hf2 => ⟨_, rfl, ?_⟩)
      · have ok3 := ok2.take hf2
        have hpm2 := (fits_iff.1 hf2).1
        simp only [hf2, beq_self_eq_true, Bool.not_true, Bool.false_eq_true, if_false, if_true]
        have hg : gives (addF (addF (fun _ => 0) o n) o m) o m = true := gives_iff.2 ⟨hpm2, by simp [addF]; omega⟩
        refine give_ok hp3 ok3 o m (fun _ h4 hp4 fr4 => ⟨_, rfl, ?_⟩) (fun hc => by rw [hg] at hc; cases hc)
        simp only [bne_self_eq_false, Bool.false_eq_true, if_false]
        have hp4' : PurseAt h4 p pm W S (0 + n) (addF (fun _ => 0) o n) := by
          have := hp4.ext (f' := addF (fun _ => 0) o n) (fun k => by unfold addF; dsimp only; split <;> omega)
          rwa [show (0 : Int) + n + m - m = 0 + n by omega] at this
        refine alive_ok (fun h5 fr5 => ⟨_, rfl, ?_⟩)
        have hp5 := hp4'.frame fr5 id id
        simp only [if_true]
        refine used_ok hp5 o ⟨_, rfl, ?_⟩
        have hu : addF (fun _ => 0) o n o = n := by simp [addF]
        rw [hu]
        simp only [beq_self_eq_true, if_true]
        have hg2 : gives (addF (fun _ => 0) o n) o n = true := gives_iff.2 ⟨hpo, by rw [hu]; omega⟩
        refine give_ok hp5 ok2 o n (fun _ h6 hp6 fr6 => ⟨_, rfl, ?_⟩) (fun hc => by rw [hg2] at hc; cases hc)
        simp only [beq_self_eq_true, if_true]
        refine all_ok hp6 ⟨_, rfl, ?_⟩
        have hp6' : PurseAt h6 p pm W S 0 (fun _ => 0) := by
          have := hp6.ext (f' := fun _ => 0) (fun k => by unfold addF; dsimp only; split <;> omega)
          rwa [show (0 : Int) + n - n = 0 by omega] at this
        rw [show (0 : Int) + n - n = 0 by omega]
        simp only [beq_self_eq_true, if_true]
        refine fits_ok hp6' ok1 o n ⟨_, rfl, ?_⟩
        rw [hf]
        exact hk h6 (Fr.step (Fr.step (Fr.step (Fr.step (Fr.step fr1 fr2 hpm) fr3 hpm) fr4 hpm) fr5 (fun _ _ => id)) fr6 hpm)
      · have hne : takeE W S (0 + n) (addF (fun _ => 0) o n) o m ≠ 0 := fun e => by rw [takeE_zero, hf2] at e; cases e
        have hne' : (takeE W S (0 + n) (addF (fun _ => 0) o n) o m == 0) = false := by simpa using hne
        simp only [hf2, hne', beq_self_eq_true, Bool.not_true, Bool.false_eq_true, if_false, if_true]
        refine alive_ok (fun h5 fr5 => ⟨_, rfl, ?_⟩)
        have hp5 := hp2.frame fr5 id id
        simp only [bne_self_eq_false, Bool.false_eq_true, if_false, if_true]
        refine used_ok hp5 o ⟨_, rfl, ?_⟩
        have hu : addF (fun _ => 0) o n o = n := by simp [addF]
        rw [hu]
        simp only [beq_self_eq_true, if_true]
        have hg2 : gives (addF (fun _ => 0) o n) o n = true := gives_iff.2 ⟨hpo, by rw [hu]; omega⟩
        refine give_ok hp5 ok2 o n (fun _ h6 hp6 fr6 => ⟨_, rfl, ?_⟩) (fun hc => by rw [hg2] at hc; cases hc)
        simp only [beq_self_eq_true, if_true]
        refine all_ok hp6 ⟨_, rfl, ?_⟩
        have hp6' : PurseAt h6 p pm W S 0 (fun _ => 0) := by
          have := hp6.ext (f' := fun _ => 0) (fun k => by unfold addF; dsimp only; split <;> omega)
          rwa [show (0 : Int) + n - n = 0 by omega] at this
        rw [show (0 : Int) + n - n = 0 by omega]
        simp only [beq_self_eq_true, if_true]
        refine fits_ok hp6' ok1 o n ⟨_, rfl, ?_⟩
        rw [hf]
        exact hk h6 (Fr.step (Fr.step (Fr.step fr1 fr2 hpm) fr5 (fun _ _ => id)) fr6 hpm)
    · have hne : takeE W S 0 (fun _ => 0) o n ≠ 0 := fun e => by rw [takeE_zero, hf] at e; cases e
      have hne' : (takeE W S 0 (fun _ => 0) o n == 0) = false := by simpa using hne
      have hne2 : (takeE W S 0 (fun _ => 0) o n != 0) = true := by simpa using hne
      simp only [hf, hne', hne2, if_true, Bool.false_eq_true, if_false]
      refine fits_ok hp ok1 o m ⟨_, rfl, ?_⟩
      refine take_ok hp ok1 o m (fun hf2 h3 hp3 fr3 => ⟨_, rfl, ?_⟩) (fun hf2 => ⟨_, rfl, ?_⟩)
      · simp only [hf2, beq_self_eq_true, Bool.not_true, Bool.false_eq_true, if_false]
        refine alive_ok (fun h5 fr5 => ⟨_, rfl, ?_⟩)
        exact hk h5 (Fr.step (Fr.step fr1 fr3 hpm) fr5 (fun _ _ => id))
      · have hnm : takeE W S 0 (fun _ => 0) o m ≠ 0 := fun e => by rw [takeE_zero, hf2] at e; cases e
        have hnm' : (takeE W S 0 (fun _ => 0) o m == 0) = false := by simpa using hnm
        simp only [hf2, hnm', beq_self_eq_true, Bool.not_true, Bool.false_eq_true, if_false]
        refine alive_ok (fun h5 fr5 => ⟨_, rfl, ?_⟩)
        exact hk h5 (Fr.step fr1 fr5 (fun _ _ => id))
  · simp only [show ((1 : Int) != 0) = true by decide, if_true]
    exact alive_ok (fun h5 fr5 => ⟨_, rfl, hk h5 fr5⟩)
end
end Go.Proofs.Ytjjmbohnchngcaa
