/-
  Fo is proved: xQ given Tx 'Rows.Na: UE xQ input, xQ law 'Tj/Ng.RA returns true, and each argument reads Tk as it read before. No condition.
-/
import Derived.Test.YtkdgpmeojgokdaaGreatDoorRows
import Derived.Test.YtkdgpmeojgokdaaGreatDoorMJuesh
import Derived.ProofKit
import Derived.OpenShut
import Derived.ShutString
import Derived.ChangeOld
import Derived.Below
import Derived.Test.YtkdgpmeojgokdaaGreatDoorTie
import Derived.Test.YtkdgpmeojgokdaaGreatDoorCards
import Derived.Lay
import Derived.LaidOnce
import Derived.SevenTiedAt
import Derived.LaidLaws
import Derived.ChangeVars
import Derived.JoinedOf
namespace Go.Proofs.YtkdgpmeojgokdaaGreatDoor
open Go.ChangeShapes Go.WideShapes Go.ChangeAt Go.RowKit Go.Den
open Go.ChangeMaps (open_string shut_string)

theorem ze : ownKnob Tryz.prog.godebug = none := by kernel_rfl
theorem kj : laidOutB Tryz.prog = true := by kernel_rfl

set_option maxRecDepth 100000 in
theorem uW (os : Os) (started : os.Started) (H : Type) (enc : TypeId × Value → H) :
    ReturnsInHanded {} Tryz.checked os 3 .any (λw args => (Rows.judgeAgreesSpec.pre enc Tryz.prog Tryz.f3 [] false w args ∧ laidMetH Tryz.prog Rows.judgeAgreesRow.laid w) ∧ sizedMet enc Tryz.prog Tryz.f3 (OpenSpec.ofChange Rows.judgeAgreesSpec) false w args) (Rows.judgeAgreesSpec.post enc Tryz.prog Tryz.f3 false true false false) := by
  refine CC (C := Tryz.checked) (X := λw _ => laidMetH Tryz.prog Rows.judgeAgreesRow.laid w) (λ_ _ _ hh h => h.of_heap hh) ze started (by kernel_rfl) Tryz.func3
    (ChangeSpec.witness_shaped (enc := enc) (C := Tryz.checked) (os := os) (X := λw _ => laidMetH Tryz.prog Rows.judgeAgreesRow.laid w) false (World.laidAll Tryz.prog os Rows.judgeAgreesRow.laid) #[.slice none 0 0, .int .i64 0, .int .i64 0] 8 (World.laidAll_os _ _ _)
      (World.shaped_of_ZipB (by kernel_rfl) (by kernel_rfl)) (by kernel_rfl) (by kernel_rfl) (by kernel_rfl)
      (by rw [MakeChecks.laidMetH_plain _ _ _ (by kernel_rfl)]; exact laidMet_laidAll _ (by kernel_rfl) (by kernel_rfl))) ?_
  intro W base args ds gs before W3 R6 hW hL
  rw [MakeChecks.laidMetH_plain _ _ _ (by kernel_rfl)] at hL
  unfold Rows.judgeAgreesRow at hL
  have ut : ∃ V, Cb.ky V W.heap := by
    have e1 : Rows.laid_unicode_utf8_first = Lib.firstData := by kernel_rfl
    have e2 : (Rows.laid_unicode_utf8_acceptRanges : DataW Unit) = Lib.acceptData := by kernel_rfl
    dsimp only at hL
    rw [e1, e2] at hL
    exact Cb.Ff.Ro (by kernel_rfl) (by kernel_rfl) hL (List.Mem.tail _ (List.Mem.head _)) (List.Mem.head _)
  have RB : ∀ (j : Nat) t v, Tryz.f3.params[j]? = some t → args[j]? = some v → Value.okWide Tryz.prog W .any base t v := R6
  have W4 := hW
  obtain ⟨p, q, Wm, hV, rfl, Xj, Xk⟩ := hW
  have hA : DataW.TrodAll enc Tryz.prog W 0 (λ_ => true) true Tryz.f3.params.toList args.toList ds p := Wm
  rw [Tryz.params3] at hA RB
  obtain ⟨v0, Xl, d0, Xm, p0, q0, Wn, rfl, rfl, h0, r0⟩ := trodAll_cons hA
  obtain ⟨v1, Xn, d1, Xo, p1, q1, rfl, rfl, rfl, h1, r1⟩ := trodAll_cons r0
  obtain ⟨v2, Xp, d2, Xq, p2, q2, rfl, rfl, rfl, h2, r2⟩ := trodAll_cons r1
  obtain ⟨rfl, rfl, rfl⟩ := trodAll_nil r2
  obtain rfl : args = #[v0, v1, v2] := by cases args; simp_all
  obtain ⟨rfl, rfl⟩ := trodVars_none hV
  have k0 := h0
  have OZ : ∀ x ∈ p0, x.block < W.heap.size := by obtain ⟨m, hm⟩ := k0; exact DataW.trod_lt m _ _ _ hm
  have k1 := h1
  have W5 : ∀ x ∈ p1, x.block < W.heap.size := by obtain ⟨m, hm⟩ := k1; exact DataW.trod_lt m _ _ _ hm
  have k2 := h2
  have W6 : ∀ x ∈ p2, x.block < W.heap.size := by obtain ⟨m, hm⟩ := k2; exact DataW.trod_lt m _ _ _ hm
  obtain ⟨a0, IG, V4, rfl⟩ := okWide_slice Tryz.underlying22 (RB 0 22 v0 rfl rfl)
  obtain ⟨a1, rfl, _, _, w1⟩ := open_int Tryz.underlying3 (RB 1 3 v1 rfl rfl) h1
  obtain ⟨a2, rfl, _, _, w2⟩ := open_int Tryz.underlying3 (RB 2 3 v2 rfl rfl) h2
  clear Wm R6
  refine (NA.calls (w := W) (judgeAgrees_ok a0 IG V4 a1 a2 (rq.of k0) w1 w2 ut (nV.Mx.MV W3))).mono λe W' ⟨he, US⟩ => ?_
  subst he
  exact ⟨_, rfl, _, _, _, [], _, [], W4, trodAll_mk1 (shut_bool Tryz.underlying4 _), (trodAll_cons_mk (Below.trod kj (by kernel_rfl) (of_decide_eq_true (by kernel_rfl)) k0 US OZ) (trodAll_cons_mk (Below.trod kj (by kernel_rfl) (of_decide_eq_true (by kernel_rfl)) k1 US W5) (trodAll_cons_mk (Below.trod kj (by kernel_rfl) (of_decide_eq_true (by kernel_rfl)) k2 US W6) trodAll_mk0))), rfl, US.frame _, λh => by cases h⟩

set_option maxHeartbeats 40000000 in
theorem wD : joinedFacts Tryz.checked.prog 3 Tryz.f3 Rows.judgeAgreesSpec Rows.judgeAgreesRow = true := by
  unfold joinedFacts
  simp only [Bool.and_eq_true]
  repeat' apply And.intro
  all_goals as_aux_lemma => kernel_rfl

theorem xP : Rows.judgeAgreesRow.holds Tryz.pinned (OpenSpec.ofChange Rows.judgeAgreesSpec) :=
  OpenClaim.holds_of_wide 3 Tryz.f3 rfl rfl rfl rfl rfl rfl rfl ⟨rfl, rfl, rfl, rfl, rfl⟩ rfl rfl rfl rfl rfl (by kernel_rfl) Tryz.func3 wD
    (of_decide_eq_true (by kernel_rfl)) (by unfold Func.isWrapper; first | (rw [if_pos (by decide +kernel)]; kernel_rfl) | (rw [if_neg (by decide +kernel)]; exact ⟨rfl, rfl⟩))
    (λos started H enc _ => uW os started H enc)

theorem BO : Rows.judgeAgreesRow.wfByText (OpenSpec.ofChange Rows.judgeAgreesSpec) = true := by kernel_rfl
theorem BP : Tryz.prog.mainIs = some (((true, "da2f5688acb90bedd775d1176589aa8b4bc1e12caf417ec030963fc731117cd7")).1, ((true, "da2f5688acb90bedd775d1176589aa8b4bc1e12caf417ec030963fc731117cd7")).2.toList) := by kernel_rfl
theorem BQ : Tryz.prog.funcNamed Rows.judgeAgreesRow.func = some 3 := by kernel_rfl
theorem BR : true = Tryz.prog.looks [] := by kernel_rfl
theorem BT : ([22, 3, 3].all λu => !Tryz.prog.wantsStandIn u) = true := by kernel_rfl
theorem BU : false = Rows.judgeAgreesRow.goesBy Tryz.prog := by kernel_rfl
theorem judgeAgrees_holds : Rows.JudgeAgreesCardSaid :=
  Claim7.holds_tied_plain_at .later [] [.data, .pinned] true (true, "da2f5688acb90bedd775d1176589aa8b4bc1e12caf417ec030963fc731117cd7") true xP (λ_ h => by cases h) BO (λ_ h => by cases h) judgeAgrees_row_tie rfl ⟨rfl, rfl⟩ BP rfl
    (λf fn hf VZ => by
      obtain rfl : f = 3 := Option.some.inj (BQ.symm.trans hf) |>.symm
      obtain rfl : fn = Tryz.f3 := (Option.some.inj (Tryz.func3.symm.trans VZ)).symm
      exact ⟨BR, λj t ht => by
        rw [Tryz.params3] at ht
        have hm : t ∈ [22, 3, 3] := by simpa using Array.mem_of_getElem? ht
        exact (show Tryz.prog.wantsStandIn t = false by simpa using List.all_eq_true.1 BT t hm)⟩)
    BU
#print axioms judgeAgrees_holds
end Go.Proofs.YtkdgpmeojgokdaaGreatDoor
