/-
  EI is proved: w5 given Rs 'Rows.M7: Th w5 input, w5 law 'Rf/Kq.Rh returns true, and each argument reads Ri as it read before. No condition.
-/
import Derived.Test.YtlenamcfacpheaaGreatDoorRows
import Derived.Test.YtlenamcfacpheaaGreatDoorMAsesg
import Derived.ProofKit
import Derived.OpenShut
import Derived.ShutString
import Derived.ChangeOld
import Derived.Below
import Derived.Test.YtlenamcfacpheaaGreatDoorTie
import Derived.Test.YtlenamcfacpheaaGreatDoorCards
import Derived.Lay
import Derived.LaidOnce
import Derived.SevenTiedAt
import Derived.LaidLaws
import Derived.ChangeVars
import Derived.JoinedOf
namespace Go.Proofs.YtlenamcfacpheaaGreatDoor
open Go.ChangeShapes Go.WideShapes Go.ChangeAt Go.RowKit Go.Den
open Go.ChangeMaps (open_string shut_string)

theorem Aa : ownKnob Tryz.prog.godebug = none := by kernel_rfl
theorem jR : laidOutB Tryz.prog = true := by kernel_rfl

set_option maxRecDepth 100000 in
theorem vt (os : Os) (started : os.Started) (H : Type) (enc : TypeId × Value → H) :
    ReturnsInHanded {} Tryz.checked os 3 .any (λw args => (Rows.askLeasesSpec.pre enc Tryz.prog Tryz.f3 [] false w args ∧ laidMetH Tryz.prog Rows.askLeasesRow.laid w) ∧ sizedMet enc Tryz.prog Tryz.f3 (OpenSpec.ofChange Rows.askLeasesSpec) false w args) (Rows.askLeasesSpec.post enc Tryz.prog Tryz.f3 false true false false) := by
  refine zZ (C := Tryz.checked) (X := λw _ => laidMetH Tryz.prog Rows.askLeasesRow.laid w) (λ_ _ _ hh h => h.of_heap hh) Aa started (by kernel_rfl) Tryz.func3
    (ChangeSpec.witness_shaped (enc := enc) (C := Tryz.checked) (os := os) (X := λw _ => laidMetH Tryz.prog Rows.askLeasesRow.laid w) false (World.laidAll Tryz.prog os Rows.askLeasesRow.laid) #[.int .u8 0, .int .u8 0, .slice none 0 0] 8 (World.laidAll_os _ _ _)
      (World.shaped_of_ZipB (by kernel_rfl) (by kernel_rfl)) (by kernel_rfl) (by kernel_rfl) (by kernel_rfl)
      (by rw [MakeChecks.laidMetH_plain _ _ _ (by kernel_rfl)]; exact laidMet_laidAll _ (by kernel_rfl) (by kernel_rfl))) ?_
  intro W base args ds gs before WB Qb hW hL
  rw [MakeChecks.laidMetH_plain _ _ _ (by kernel_rfl)] at hL
  unfold Rows.askLeasesRow at hL
  have ut : ∃ V, Cb.lW V W.heap := by
    have e1 : Rows.laid_unicode_utf8_first = Lib.firstData := by kernel_rfl
    have e2 : (Rows.laid_unicode_utf8_acceptRanges : DataW Unit) = Lib.acceptData := by kernel_rfl
    dsimp only at hL
    rw [e1, e2] at hL
    exact Cb.CB.OT (by kernel_rfl) (by kernel_rfl) hL (List.Mem.tail _ (List.Mem.head _)) (List.Mem.head _)
  have OU : ∀ (j : Nat) t v, Tryz.f3.params[j]? = some t → args[j]? = some v → Value.okWide Tryz.prog W .any base t v := Qb
  have WC := hW
  obtain ⟨p, q, Vr, hV, rfl, XI, XJ⟩ := hW
  have hA : DataW.TrodAll enc Tryz.prog W 0 (λ_ => true) true Tryz.f3.params.toList args.toList ds p := Vr
  rw [Tryz.params3] at hA OU
  obtain ⟨v0, XK, d0, XL, p0, q0, Vs, rfl, rfl, h0, r0⟩ := trodAll_cons hA
  obtain ⟨v1, XM, d1, XN, p1, q1, rfl, rfl, rfl, h1, r1⟩ := trodAll_cons r0
  obtain ⟨v2, XO, d2, XP, p2, q2, rfl, rfl, rfl, h2, r2⟩ := trodAll_cons r1
  obtain ⟨rfl, rfl, rfl⟩ := trodAll_nil r2
  obtain rfl : args = #[v0, v1, v2] := by cases args; simp_all
  obtain ⟨rfl, rfl⟩ := trodVars_none hV
  have k0 := h0
  have Nd : ∀ x ∈ p0, x.block < W.heap.size := by obtain ⟨m, hm⟩ := k0; exact DataW.trod_lt m _ _ _ hm
  have k1 := h1
  have WD : ∀ x ∈ p1, x.block < W.heap.size := by obtain ⟨m, hm⟩ := k1; exact DataW.trod_lt m _ _ _ hm
  have k2 := h2
  have WE : ∀ x ∈ p2, x.block < W.heap.size := by obtain ⟨m, hm⟩ := k2; exact DataW.trod_lt m _ _ _ hm
  obtain ⟨a0, rfl, _, _, w0⟩ := open_int Tryz.underlying5 (OU 0 5 v0 rfl rfl) h0
  obtain ⟨a1, rfl, _, _, w1⟩ := open_int Tryz.underlying5 (OU 1 5 v1 rfl rfl) h1
  obtain ⟨a2, OO, U3, rfl⟩ := okWide_slice Tryz.underlying22 (OU 2 22 v2 rfl rfl)
  clear Vr Qb
  refine (KD.calls (w := W) (askLeases_ok a0 a1 a2 OO U3 w0 w1 (rL.of k2) ut (tR.Mx.Kh WB))).mono λe W' ⟨he, Tq⟩ => ?_
  subst he
  exact ⟨_, rfl, _, _, _, [], _, [], WC, trodAll_mk1 (shut_bool Tryz.underlying4 _), (trodAll_cons_mk (Below.trod jR (by kernel_rfl) (of_decide_eq_true (by kernel_rfl)) k0 Tq Nd) (trodAll_cons_mk (Below.trod jR (by kernel_rfl) (of_decide_eq_true (by kernel_rfl)) k1 Tq WD) (trodAll_cons_mk (Below.trod jR (by kernel_rfl) (of_decide_eq_true (by kernel_rfl)) k2 Tq WE) trodAll_mk0))), rfl, Tq.frame _, λh => by cases h⟩

set_option maxHeartbeats 40000000 in
theorem wQ : joinedFacts Tryz.checked.prog 3 Tryz.f3 Rows.askLeasesSpec Rows.askLeasesRow = true := by
  unfold joinedFacts
  simp only [Bool.and_eq_true]
  repeat' apply And.intro
  all_goals as_aux_lemma => kernel_rfl

theorem y7 : Rows.askLeasesRow.holds Tryz.pinned (OpenSpec.ofChange Rows.askLeasesSpec) :=
  OpenClaim.holds_of_wide 3 Tryz.f3 rfl rfl rfl rfl rfl rfl rfl ⟨rfl, rfl, rfl, rfl, rfl⟩ rfl rfl rfl rfl rfl (by kernel_rfl) Tryz.func3 wQ
    (of_decide_eq_true (by kernel_rfl)) (by unfold Func.isWrapper; first | (rw [if_pos (by decide +kernel)]; kernel_rfl) | (rw [if_neg (by decide +kernel)]; exact ⟨rfl, rfl⟩))
    (λos started H enc _ => vt os started H enc)

theorem CC : Rows.askLeasesRow.wfByText (OpenSpec.ofChange Rows.askLeasesSpec) = true := by kernel_rfl
theorem CD : Tryz.prog.mainIs = some (((true, "af0b1e791d933e7fa9c636d6cf3396bb1c2a481cd69c8266eceb295ee59ae719")).1, ((true, "af0b1e791d933e7fa9c636d6cf3396bb1c2a481cd69c8266eceb295ee59ae719")).2.toList) := by kernel_rfl
theorem CE : Tryz.prog.funcNamed Rows.askLeasesRow.func = some 3 := by kernel_rfl
theorem CG : true = Tryz.prog.looks [] := by kernel_rfl
theorem CH : ([5, 5, 22].all λu => !Tryz.prog.wantsStandIn u) = true := by kernel_rfl
theorem CI : false = Rows.askLeasesRow.goesBy Tryz.prog := by kernel_rfl
theorem askLeases_holds : Rows.AskLeasesCardSaid :=
  Claim7.holds_tied_plain_at .later [] [.data, .pinned] true (true, "af0b1e791d933e7fa9c636d6cf3396bb1c2a481cd69c8266eceb295ee59ae719") true y7 (λ_ h => by cases h) CC (λ_ h => by cases h) askLeases_row_tie rfl ⟨rfl, rfl⟩ CD rfl
    (λf fn hf WG => by
      obtain rfl : f = 3 := Option.some.inj (CE.symm.trans hf) |>.symm
      obtain rfl : fn = Tryz.f3 := (Option.some.inj (Tryz.func3.symm.trans WG)).symm
      exact ⟨CG, λj t ht => by
        rw [Tryz.params3] at ht
        have hm : t ∈ [5, 5, 22] := by simpa using Array.mem_of_getElem? ht
        exact (show Tryz.prog.wantsStandIn t = false by simpa using List.all_eq_true.1 CH t hm)⟩)
    CI
#print axioms askLeases_holds
end Go.Proofs.YtlenamcfacpheaaGreatDoor
