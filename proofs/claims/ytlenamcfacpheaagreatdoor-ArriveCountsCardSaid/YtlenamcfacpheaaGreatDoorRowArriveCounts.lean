/-
  FD is proved: x4 given Q6 'Rows.IW: Sy x4 input, x4 law 'QV/K0.NW returns true, and each argument reads QW as it read before. No condition.
-/
import Derived.Test.YtlenamcfacpheaaGreatDoorRows
import Derived.Test.YtlenamcfacpheaaGreatDoorMArtsg
import Derived.ProofKit
import Derived.OpenShut
import Derived.ShutString
import Derived.ChangeOld
import Derived.Below
import Derived.Test.YtlenamcfacpheaaGreatDoorTie
import Derived.Test.YtlenamcfacpheaaGreatDoorCards
import Derived.Lay
import Derived.LaidOnce
import Derived.SevenTiedAt
import Derived.LaidLaws
import Derived.ChangeVars
import Derived.JoinedOf
namespace Go.Proofs.YtlenamcfacpheaaGreatDoor
open Go.ChangeShapes Go.WideShapes Go.ChangeAt Go.RowKit Go.Den
open Go.ChangeMaps (open_string shut_string)

theorem wo : ownKnob Tryz.prog.godebug = none := by kernel_rfl
theorem qG : laidOutB Tryz.prog = true := by kernel_rfl

set_option maxRecDepth 100000 in
theorem rP (os : Os) (started : os.Started) (H : Type) (enc : TypeId × Value → H) :
    ReturnsInHanded {} Tryz.checked os 4 .any (λw args => (Rows.arriveCountsSpec.pre enc Tryz.prog Tryz.f4 [] false w args ∧ laidMetH Tryz.prog Rows.arriveCountsRow.laid w) ∧ sizedMet enc Tryz.prog Tryz.f4 (OpenSpec.ofChange Rows.arriveCountsSpec) false w args) (Rows.arriveCountsSpec.post enc Tryz.prog Tryz.f4 false true false false) := by
  refine AW (C := Tryz.checked) (X := λw _ => laidMetH Tryz.prog Rows.arriveCountsRow.laid w) (λ_ _ _ hh h => h.of_heap hh) wo started (by kernel_rfl) Tryz.func4
    (ChangeSpec.witness_shaped (enc := enc) (C := Tryz.checked) (os := os) (X := λw _ => laidMetH Tryz.prog Rows.arriveCountsRow.laid w) false (World.laidAll Tryz.prog os Rows.arriveCountsRow.laid) #[.slice none 0 0] 8 (World.laidAll_os _ _ _)
      (World.shaped_of_ZipB (by kernel_rfl) (by kernel_rfl)) (by kernel_rfl) (by kernel_rfl) (by kernel_rfl)
      (by rw [MakeChecks.laidMetH_plain _ _ _ (by kernel_rfl)]; exact laidMet_laidAll _ (by kernel_rfl) (by kernel_rfl))) ?_
  intro W base args ds gs before VN P4 hW hL
  rw [MakeChecks.laidMetH_plain _ _ _ (by kernel_rfl)] at hL
  unfold Rows.arriveCountsRow at hL
  have ut : ∃ V, Cb.ke V W.heap := by
    have e1 : Rows.laid_unicode_utf8_first = Lib.firstData := by kernel_rfl
    have e2 : (Rows.laid_unicode_utf8_acceptRanges : DataW Unit) = Lib.acceptData := by kernel_rfl
    dsimp only at hL
    rw [e1, e2] at hL
    exact Cb.Dt.PC (by kernel_rfl) (by kernel_rfl) hL (List.Mem.tail _ (List.Mem.head _)) (List.Mem.head _)
  have Sz : ∀ (j : Nat) t v, Tryz.f4.params[j]? = some t → args[j]? = some v → Value.okWide Tryz.prog W .any base t v := P4
  have VO := hW
  obtain ⟨p, q, UI, hV, rfl, WU, WV⟩ := hW
  have hA : DataW.TrodAll enc Tryz.prog W 0 (λ_ => true) true Tryz.f4.params.toList args.toList ds p := UI
  rw [Tryz.params4] at hA Sz
  obtain ⟨v0, WW, d0, WX, p0, q0, UJ, rfl, rfl, h0, r0⟩ := trodAll_cons hA
  obtain ⟨rfl, rfl, rfl⟩ := trodAll_nil r0
  obtain rfl : args = #[v0] := by cases args; simp_all
  obtain ⟨rfl, rfl⟩ := trodVars_none hV
  have k0 := h0
  have MO : ∀ x ∈ p0, x.block < W.heap.size := by obtain ⟨m, hm⟩ := k0; exact DataW.trod_lt m _ _ _ hm
  obtain ⟨a0, Gp, Uo, rfl⟩ := okWide_slice Tryz.underlying53 (Sz 0 53 v0 rfl rfl)
  clear UI P4
  refine (Ll.calls (w := W) (arriveCounts_ok a0 Gp Uo (pP.of k0) ut (oT.Mx.KR VN))).mono λe W' ⟨he, UK⟩ => ?_
  subst he
  exact ⟨_, rfl, _, _, _, [], _, [], VO, trodAll_mk1 (shut_bool Tryz.underlying4 _), (trodAll_cons_mk (Below.trod qG (by kernel_rfl) (of_decide_eq_true (by kernel_rfl)) k0 UK MO) trodAll_mk0), rfl, UK.frame _, λh => by cases h⟩

set_option maxHeartbeats 40000000 in
theorem sU : joinedFacts Tryz.checked.prog 4 Tryz.f4 Rows.arriveCountsSpec Rows.arriveCountsRow = true := by
  unfold joinedFacts
  simp only [Bool.and_eq_true]
  repeat' apply And.intro
  all_goals as_aux_lemma => kernel_rfl

theorem uV : Rows.arriveCountsRow.holds Tryz.pinned (OpenSpec.ofChange Rows.arriveCountsSpec) :=
  OpenClaim.holds_of_wide 4 Tryz.f4 rfl rfl rfl rfl rfl rfl rfl ⟨rfl, rfl, rfl, rfl, rfl⟩ rfl rfl rfl rfl rfl (by kernel_rfl) Tryz.func4 sU
    (of_decide_eq_true (by kernel_rfl)) (by unfold Func.isWrapper; first | (rw [if_pos (by decide +kernel)]; kernel_rfl) | (rw [if_neg (by decide +kernel)]; exact ⟨rfl, rfl⟩))
    (λos started H enc _ => rP os started H enc)

theorem xG : Rows.arriveCountsRow.wfByText (OpenSpec.ofChange Rows.arriveCountsSpec) = true := by kernel_rfl
theorem xH : Tryz.prog.mainIs = some (((true, "af0b1e791d933e7fa9c636d6cf3396bb1c2a481cd69c8266eceb295ee59ae719")).1, ((true, "af0b1e791d933e7fa9c636d6cf3396bb1c2a481cd69c8266eceb295ee59ae719")).2.toList) := by kernel_rfl
theorem xI : Tryz.prog.funcNamed Rows.arriveCountsRow.func = some 4 := by kernel_rfl
theorem xJ : true = Tryz.prog.looks [] := by kernel_rfl
theorem xK : ([53].all λu => !Tryz.prog.wantsStandIn u) = true := by kernel_rfl
theorem xL : false = Rows.arriveCountsRow.goesBy Tryz.prog := by kernel_rfl
theorem arriveCounts_holds : Rows.ArriveCountsCardSaid :=
  Claim7.holds_tied_plain_at .later [] [.data, .pinned] true (true, "af0b1e791d933e7fa9c636d6cf3396bb1c2a481cd69c8266eceb295ee59ae719") true uV (λ_ h => by cases h) xG (λ_ h => by cases h) arriveCounts_row_tie rfl ⟨rfl, rfl⟩ xH rfl
    (λf fn hf VP => by
      obtain rfl : f = 4 := Option.some.inj (xI.symm.trans hf) |>.symm
      obtain rfl : fn = Tryz.f4 := (Option.some.inj (Tryz.func4.symm.trans VP)).symm
      exact ⟨xJ, λj t ht => by
        rw [Tryz.params4] at ht
        have hm : t ∈ [53] := by simpa using Array.mem_of_getElem? ht
        exact (show Tryz.prog.wantsStandIn t = false by simpa using List.all_eq_true.1 xK t hm)⟩)
    xL
#print axioms arriveCounts_holds
end Go.Proofs.YtlenamcfacpheaaGreatDoor
