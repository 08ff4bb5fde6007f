/-
  Ei is proved: xi given Tf 'Rows.Ri: U2 xi input, xi law 'SX/Ma.U3 returns true, and each argument reads SY as it read before. No condition.
-/
import Derived.Test.YtlenamcfacpheaaGreatDoorRows
import Derived.Test.YtlenamcfacpheaaGreatDoorMAsceh
import Derived.ProofKit
import Derived.OpenShut
import Derived.ShutString
import Derived.ChangeOld
import Derived.Below
import Derived.Test.YtlenamcfacpheaaGreatDoorTie
import Derived.Test.YtlenamcfacpheaaGreatDoorCards
import Derived.Lay
import Derived.LaidOnce
import Derived.SevenTiedAt
import Derived.LaidLaws
import Derived.ChangeVars
import Derived.JoinedOf
namespace Go.Proofs.YtlenamcfacpheaaGreatDoor
open Go.ChangeShapes Go.WideShapes Go.ChangeAt Go.RowKit Go.Den
open Go.ChangeMaps (open_string shut_string)

theorem GF : ownKnob Tryz.prog.godebug = none := by kernel_rfl
theorem yC : laidOutB Tryz.prog = true := by kernel_rfl

set_option maxRecDepth 100000 in
theorem Ba (os : Os) (started : os.Started) (H : Type) (enc : TypeId × Value → H) :
    ReturnsInHanded {} Tryz.checked os 6 .any (λw args => (Rows.askOnceSpec.pre enc Tryz.prog Tryz.f6 [] false w args ∧ laidMetH Tryz.prog Rows.askOnceRow.laid w) ∧ sizedMet enc Tryz.prog Tryz.f6 (OpenSpec.ofChange Rows.askOnceSpec) false w args) (Rows.askOnceSpec.post enc Tryz.prog Tryz.f6 false true false false) := by
  refine BP (C := Tryz.checked) (X := λw _ => laidMetH Tryz.prog Rows.askOnceRow.laid w) (λ_ _ _ hh h => h.of_heap hh) GF started (by kernel_rfl) Tryz.func6
    (ChangeSpec.witness_shaped (enc := enc) (C := Tryz.checked) (os := os) (X := λw _ => laidMetH Tryz.prog Rows.askOnceRow.laid w) false (World.laidAll Tryz.prog os Rows.askOnceRow.laid) #[.slice none 0 0] 8 (World.laidAll_os _ _ _)
      (World.shaped_of_ZipB (by kernel_rfl) (by kernel_rfl)) (by kernel_rfl) (by kernel_rfl) (by kernel_rfl)
      (by rw [MakeChecks.laidMetH_plain _ _ _ (by kernel_rfl)]; exact laidMet_laidAll _ (by kernel_rfl) (by kernel_rfl))) ?_
  intro W base args ds gs before Zq RR hW hL
  rw [MakeChecks.laidMetH_plain _ _ _ (by kernel_rfl)] at hL
  unfold Rows.askOnceRow at hL
  have ut : ∃ V, Cb.nk V W.heap := by
    have e1 : Rows.laid_unicode_utf8_first = Lib.firstData := by kernel_rfl
    have e2 : (Rows.laid_unicode_utf8_acceptRanges : DataW Unit) = Lib.acceptData := by kernel_rfl
    dsimp only at hL
    rw [e1, e2] at hL
    exact Cb.D7.vP (by kernel_rfl) (by kernel_rfl) hL (List.Mem.tail _ (List.Mem.tail _ (List.Mem.tail _ (List.Mem.tail _ (List.Mem.head _))))) (List.Mem.tail _ (List.Mem.tail _ (List.Mem.tail _ (List.Mem.head _))))
  have tb : mO.oe W.heap := by
    first | exact mO.oe.vP (by kernel_rfl) hL (.head _) | exact mO.oe.vP (by kernel_rfl) hL (.tail _ (.head _)) | exact mO.oe.vP (by kernel_rfl) hL (.tail _ (.tail _ (.head _)))
  have U5 : ∀ (j : Nat) t v, Tryz.f6.params[j]? = some t → args[j]? = some v → Value.okWide Tryz.prog W .any base t v := RR
  have Zr := hW
  obtain ⟨p, q, XV, hV, rfl, hfz, hnd⟩ := hW
  have hA : DataW.TrodAll enc Tryz.prog W 0 (λ_ => true) true Tryz.f6.params.toList args.toList ds p := XV
  rw [Tryz.params6] at hA U5
  obtain ⟨v0, vs0, d0, ds0, p0, q0, XW, rfl, rfl, h0, r0⟩ := trodAll_cons hA
  obtain ⟨rfl, rfl, rfl⟩ := trodAll_nil r0
  obtain rfl : args = #[v0] := by cases args; simp_all
  obtain ⟨rfl, rfl⟩ := trodVars_none hV
  have k0 := h0
  have O6 : ∀ x ∈ p0, x.block < W.heap.size := by obtain ⟨m, hm⟩ := k0; exact DataW.trod_lt m _ _ _ hm
  obtain ⟨a0, Ik, Xe, rfl⟩ := okWide_slice Tryz.underlying60 (U5 0 60 v0 rfl rfl)
  clear XV RR
  refine (Mw.calls (w := W) (askOnce_ok a0 Ik Xe (qH.of k0) tb ut (mO.Mx.LV Zq))).mono λe W' ⟨he, XX⟩ => ?_
  subst he
  exact ⟨_, rfl, _, _, _, [], _, [], Zr, trodAll_mk1 (shut_bool Tryz.underlying4 _), (trodAll_cons_mk (Below.trod yC (by kernel_rfl) (of_decide_eq_true (by kernel_rfl)) k0 XX O6) trodAll_mk0), rfl, XX.frame _, λh => by cases h⟩

set_option maxHeartbeats 40000000 in
theorem BQ : joinedFacts Tryz.checked.prog 6 Tryz.f6 Rows.askOnceSpec Rows.askOnceRow = true := by
  unfold joinedFacts
  simp only [Bool.and_eq_true]
  repeat' apply And.intro
  all_goals as_aux_lemma => kernel_rfl

theorem D8 : Rows.askOnceRow.holds Tryz.pinned (OpenSpec.ofChange Rows.askOnceSpec) :=
  OpenClaim.holds_of_wide 6 Tryz.f6 rfl rfl rfl rfl rfl rfl rfl ⟨rfl, rfl, rfl, rfl, rfl⟩ rfl rfl rfl rfl rfl (by kernel_rfl) Tryz.func6 BQ
    (of_decide_eq_true (by kernel_rfl)) (by unfold Func.isWrapper; first | (rw [if_pos (by decide +kernel)]; kernel_rfl) | (rw [if_neg (by decide +kernel)]; exact ⟨rfl, rfl⟩))
    (λos started H enc _ => Ba os started H enc)

theorem IT : Rows.askOnceRow.wfByText (OpenSpec.ofChange Rows.askOnceSpec) = true := by kernel_rfl
theorem IU : Tryz.prog.mainIs = some (((true, "af0b1e791d933e7fa9c636d6cf3396bb1c2a481cd69c8266eceb295ee59ae719")).1, ((true, "af0b1e791d933e7fa9c636d6cf3396bb1c2a481cd69c8266eceb295ee59ae719")).2.toList) := by kernel_rfl
theorem IW : Tryz.prog.funcNamed Rows.askOnceRow.func = some 6 := by kernel_rfl
theorem IX : true = Tryz.prog.looks [] := by kernel_rfl
theorem IY : ([60].all λu => !Tryz.prog.wantsStandIn u) = true := by kernel_rfl
theorem IZ : false = Rows.askOnceRow.goesBy Tryz.prog := by kernel_rfl
theorem askOnce_holds : Rows.AskOnceCardSaid :=
  Claim7.holds_tied_plain_at .later [] [.data, .data, .data, .data, .pinned] true (true, "af0b1e791d933e7fa9c636d6cf3396bb1c2a481cd69c8266eceb295ee59ae719") true D8 (λ_ h => by cases h) IT (λ_ h => by cases h) askOnce_row_tie rfl ⟨rfl, rfl⟩ IU rfl
    (λf fn hf Zs => by
      obtain rfl : f = 6 := Option.some.inj (IW.symm.trans hf) |>.symm
      obtain rfl : fn = Tryz.f6 := (Option.some.inj (Tryz.func6.symm.trans Zs)).symm
      exact ⟨IX, λj t ht => by
        rw [Tryz.params6] at ht
        have hm : t ∈ [60] := by simpa using Array.mem_of_getElem? ht
        exact (show Tryz.prog.wantsStandIn t = false by simpa using List.all_eq_true.1 IY t hm)⟩)
    IZ
#print axioms askOnce_holds
end Go.Proofs.YtlenamcfacpheaaGreatDoor
