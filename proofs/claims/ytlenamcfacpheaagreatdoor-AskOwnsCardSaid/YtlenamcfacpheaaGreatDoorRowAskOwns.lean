/-
  Dz is proved: wz given Q4 'Rows.Pl: Sp wz input, wz law 'QR/KY.Sq returns true, and each argument reads QS as it read before. No condition.
-/
import Derived.Test.YtlenamcfacpheaaGreatDoorRows
import Derived.Test.YtlenamcfacpheaaGreatDoorMAsnsh
import Derived.ProofKit
import Derived.OpenShut
import Derived.ShutString
import Derived.ChangeOld
import Derived.Below
import Derived.Test.YtlenamcfacpheaaGreatDoorTie
import Derived.Test.YtlenamcfacpheaaGreatDoorCards
import Derived.Lay
import Derived.LaidOnce
import Derived.SevenTiedAt
import Derived.LaidLaws
import Derived.ChangeVars
import Derived.JoinedOf
namespace Go.Proofs.YtlenamcfacpheaaGreatDoor
open Go.ChangeShapes Go.WideShapes Go.ChangeAt Go.RowKit Go.Den
open Go.ChangeMaps (open_string shut_string)

theorem FF : ownKnob Tryz.prog.godebug = none := by kernel_rfl
theorem xN : laidOutB Tryz.prog = true := by kernel_rfl

set_option maxRecDepth 100000 in
theorem Ap (os : Os) (started : os.Started) (H : Type) (enc : TypeId × Value → H) :
    ReturnsInHanded {} Tryz.checked os 5 .any (λw args => (Rows.askOwnsSpec.pre enc Tryz.prog Tryz.f5 [] false w args ∧ laidMetH Tryz.prog Rows.askOwnsRow.laid w) ∧ sizedMet enc Tryz.prog Tryz.f5 (OpenSpec.ofChange Rows.askOwnsSpec) false w args) (Rows.askOwnsSpec.post enc Tryz.prog Tryz.f5 false true false false) := by
  refine A5 (C := Tryz.checked) (X := λw _ => laidMetH Tryz.prog Rows.askOwnsRow.laid w) (λ_ _ _ hh h => h.of_heap hh) FF started (by kernel_rfl) Tryz.func5
    (ChangeSpec.witness_shaped (enc := enc) (C := Tryz.checked) (os := os) (X := λw _ => laidMetH Tryz.prog Rows.askOwnsRow.laid w) false (World.laidAll Tryz.prog os Rows.askOwnsRow.laid) #[.slice none 0 0] 8 (World.laidAll_os _ _ _)
      (World.shaped_of_ZipB (by kernel_rfl) (by kernel_rfl)) (by kernel_rfl) (by kernel_rfl) (by kernel_rfl)
      (by rw [MakeChecks.laidMetH_plain _ _ _ (by kernel_rfl)]; exact laidMet_laidAll _ (by kernel_rfl) (by kernel_rfl))) ?_
  intro W base args ds gs before Vz PO hW hL
  rw [MakeChecks.laidMetH_plain _ _ _ (by kernel_rfl)] at hL
  unfold Rows.askOwnsRow at hL
  have ut : ∃ V, Cb.mE V W.heap := by
    have e1 : Rows.laid_unicode_utf8_first = Lib.firstData := by kernel_rfl
    have e2 : (Rows.laid_unicode_utf8_acceptRanges : DataW Unit) = Lib.acceptData := by kernel_rfl
    dsimp only at hL
    rw [e1, e2] at hL
    exact Cb.Dp.uW (by kernel_rfl) (by kernel_rfl) hL (List.Mem.tail _ (List.Mem.tail _ (List.Mem.tail _ (List.Mem.tail _ (List.Mem.head _))))) (List.Mem.tail _ (List.Mem.tail _ (List.Mem.tail _ (List.Mem.head _))))
  have tb : mD.nE W.heap := by
    first | exact mD.nE.uW (by kernel_rfl) hL (.head _) | exact mD.nE.uW (by kernel_rfl) hL (.tail _ (.head _)) | exact mD.nE.uW (by kernel_rfl) hL (.tail _ (.tail _ (.head _)))
  have Sr : ∀ (j : Nat) t v, Tryz.f5.params[j]? = some t → args[j]? = some v → Value.okWide Tryz.prog W .any base t v := PO
  have VA := hW
  obtain ⟨p, q, Uw, hV, rfl, Ww, Wx⟩ := hW
  have hA : DataW.TrodAll enc Tryz.prog W 0 (λ_ => true) true Tryz.f5.params.toList args.toList ds p := Uw
  rw [Tryz.params5] at hA Sr
  obtain ⟨v0, Wy, d0, Wz, p0, q0, Ux, rfl, rfl, h0, r0⟩ := trodAll_cons hA
  obtain ⟨rfl, rfl, rfl⟩ := trodAll_nil r0
  obtain rfl : args = #[v0] := by cases args; simp_all
  obtain ⟨rfl, rfl⟩ := trodVars_none hV
  have k0 := h0
  have NO : ∀ x ∈ p0, x.block < W.heap.size := by obtain ⟨m, hm⟩ := k0; exact DataW.trod_lt m _ _ _ hm
  obtain ⟨a0, G0, Uc, rfl⟩ := okWide_slice Tryz.underlying60 (Sr 0 60 v0 rfl rfl)
  clear Uw PO
  refine (Lk.calls (w := W) (askOwns_ok a0 G0 Uc (pU.of k0) tb ut (mD.Mx.KP Vz))).mono λe W' ⟨he, Uy⟩ => ?_
  subst he
  exact ⟨_, rfl, _, _, _, [], _, [], VA, trodAll_mk1 (shut_bool Tryz.underlying4 _), (trodAll_cons_mk (Below.trod xN (by kernel_rfl) (of_decide_eq_true (by kernel_rfl)) k0 Uy NO) trodAll_mk0), rfl, Uy.frame _, λh => by cases h⟩

set_option maxHeartbeats 40000000 in
theorem A6 : joinedFacts Tryz.checked.prog 5 Tryz.f5 Rows.askOwnsSpec Rows.askOwnsRow = true := by
  unfold joinedFacts
  simp only [Bool.and_eq_true]
  repeat' apply And.intro
  all_goals as_aux_lemma => kernel_rfl

theorem Dq : Rows.askOwnsRow.holds Tryz.pinned (OpenSpec.ofChange Rows.askOwnsSpec) :=
  OpenClaim.holds_of_wide 5 Tryz.f5 rfl rfl rfl rfl rfl rfl rfl ⟨rfl, rfl, rfl, rfl, rfl⟩ rfl rfl rfl rfl rfl (by kernel_rfl) Tryz.func5 A6
    (of_decide_eq_true (by kernel_rfl)) (by unfold Func.isWrapper; first | (rw [if_pos (by decide +kernel)]; kernel_rfl) | (rw [if_neg (by decide +kernel)]; exact ⟨rfl, rfl⟩))
    (λos started H enc _ => Ap os started H enc)

theorem HE : Rows.askOwnsRow.wfByText (OpenSpec.ofChange Rows.askOwnsSpec) = true := by kernel_rfl
theorem HF : Tryz.prog.mainIs = some (((true, "af0b1e791d933e7fa9c636d6cf3396bb1c2a481cd69c8266eceb295ee59ae719")).1, ((true, "af0b1e791d933e7fa9c636d6cf3396bb1c2a481cd69c8266eceb295ee59ae719")).2.toList) := by kernel_rfl
theorem HG : Tryz.prog.funcNamed Rows.askOwnsRow.func = some 5 := by kernel_rfl
theorem HI : true = Tryz.prog.looks [] := by kernel_rfl
theorem HJ : ([60].all λu => !Tryz.prog.wantsStandIn u) = true := by kernel_rfl
theorem HK : false = Rows.askOwnsRow.goesBy Tryz.prog := by kernel_rfl
theorem askOwns_holds : Rows.AskOwnsCardSaid :=
  Claim7.holds_tied_plain_at .later [] [.data, .data, .data, .data, .pinned] true (true, "af0b1e791d933e7fa9c636d6cf3396bb1c2a481cd69c8266eceb295ee59ae719") true Dq (λ_ h => by cases h) HE (λ_ h => by cases h) askOwns_row_tie rfl ⟨rfl, rfl⟩ HF rfl
    (λf fn hf VB => by
      obtain rfl : f = 5 := Option.some.inj (HG.symm.trans hf) |>.symm
      obtain rfl : fn = Tryz.f5 := (Option.some.inj (Tryz.func5.symm.trans VB)).symm
      exact ⟨HI, λj t ht => by
        rw [Tryz.params5] at ht
        have hm : t ∈ [60] := by simpa using Array.mem_of_getElem? ht
        exact (show Tryz.prog.wantsStandIn t = false by simpa using List.all_eq_true.1 HJ t hm)⟩)
    HK
#print axioms askOwns_holds
end Go.Proofs.YtlenamcfacpheaaGreatDoor
