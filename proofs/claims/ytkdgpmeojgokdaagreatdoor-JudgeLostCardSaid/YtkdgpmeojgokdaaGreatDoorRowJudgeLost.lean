/-
  Fu is proved: xQ given TF 'Rows.Qc: UK xQ input, xQ law 'Tm/Ng.Tn returns true, and each argument reads To as it read before. No condition.
-/
import Derived.Test.YtkdgpmeojgokdaaGreatDoorRows
import Derived.Test.YtkdgpmeojgokdaaGreatDoorMJusth
import Derived.ProofKit
import Derived.OpenShut
import Derived.ShutString
import Derived.ChangeOld
import Derived.Below
import Derived.Test.YtkdgpmeojgokdaaGreatDoorTie
import Derived.Test.YtkdgpmeojgokdaaGreatDoorCards
import Derived.Lay
import Derived.LaidOnce
import Derived.SevenTiedAt
import Derived.LaidLaws
import Derived.ChangeVars
import Derived.JoinedOf
namespace Go.Proofs.YtkdgpmeojgokdaaGreatDoor
open Go.ChangeShapes Go.WideShapes Go.ChangeAt Go.RowKit Go.Den
open Go.ChangeMaps (open_string shut_string)

theorem Cz : ownKnob Tryz.prog.godebug = none := by kernel_rfl
theorem oA : laidOutB Tryz.prog = true := by kernel_rfl

set_option maxRecDepth 100000 in
theorem xP (os : Os) (started : os.Started) (H : Type) (enc : TypeId × Value → H) :
    ReturnsInHanded {} Tryz.checked os 4 .any (λw args => (Rows.judgeLostSpec.pre enc Tryz.prog Tryz.f4 [] false w args ∧ laidMetH Tryz.prog Rows.judgeLostRow.laid w) ∧ sizedMet enc Tryz.prog Tryz.f4 (OpenSpec.ofChange Rows.judgeLostSpec) false w args) (Rows.judgeLostSpec.post enc Tryz.prog Tryz.f4 false true false false) := by
  refine Cx (C := Tryz.checked) (X := λw _ => laidMetH Tryz.prog Rows.judgeLostRow.laid w) (λ_ _ _ hh h => h.of_heap hh) Cz started (by kernel_rfl) Tryz.func4
    (ChangeSpec.witness_shaped (enc := enc) (C := Tryz.checked) (os := os) (X := λw _ => laidMetH Tryz.prog Rows.judgeLostRow.laid w) false (World.laidAll Tryz.prog os Rows.judgeLostRow.laid) #[.slice none 0 0, .int .i64 0] 8 (World.laidAll_os _ _ _)
      (World.shaped_of_ZipB (by kernel_rfl) (by kernel_rfl)) (by kernel_rfl) (by kernel_rfl) (by kernel_rfl)
      (by rw [MakeChecks.laidMetH_plain _ _ _ (by kernel_rfl)]; exact laidMet_laidAll _ (by kernel_rfl) (by kernel_rfl))) ?_
  intro W base args ds gs before W9 Sc hW hL
  rw [MakeChecks.laidMetH_plain _ _ _ (by kernel_rfl)] at hL
  unfold Rows.judgeLostRow at hL
  have ut : ∃ V, Cb.kr V W.heap := by
    have e1 : Rows.laid_unicode_utf8_first = Lib.firstData := by kernel_rfl
    have e2 : (Rows.laid_unicode_utf8_acceptRanges : DataW Unit) = Lib.acceptData := by kernel_rfl
    dsimp only at hL
    rw [e1, e2] at hL
    exact Cb.Fb.Rv (by kernel_rfl) (by kernel_rfl) hL (List.Mem.tail _ (List.Mem.head _)) (List.Mem.head _)
  have Tp : ∀ (j : Nat) t v, Tryz.f4.params[j]? = some t → args[j]? = some v → Value.okWide Tryz.prog W .any base t v := Sc
  have Xa := hW
  obtain ⟨p, q, Wt, hV, rfl, Xo, Xp⟩ := hW
  have hA : DataW.TrodAll enc Tryz.prog W 0 (λ_ => true) true Tryz.f4.params.toList args.toList ds p := Wt
  rw [Tryz.params4] at hA Tp
  obtain ⟨v0, Xq, d0, Xr, p0, q0, Wu, rfl, rfl, h0, r0⟩ := trodAll_cons hA
  obtain ⟨v1, Xs, d1, Xt, p1, q1, rfl, rfl, rfl, h1, r1⟩ := trodAll_cons r0
  obtain ⟨rfl, rfl, rfl⟩ := trodAll_nil r1
  obtain rfl : args = #[v0, v1] := by cases args; simp_all
  obtain ⟨rfl, rfl⟩ := trodVars_none hV
  have k0 := h0
  have O4 : ∀ x ∈ p0, x.block < W.heap.size := by obtain ⟨m, hm⟩ := k0; exact DataW.trod_lt m _ _ _ hm
  have k1 := h1
  have Xb : ∀ x ∈ p1, x.block < W.heap.size := by obtain ⟨m, hm⟩ := k1; exact DataW.trod_lt m _ _ _ hm
  obtain ⟨a0, II, V9, rfl⟩ := okWide_slice Tryz.underlying22 (Tp 0 22 v0 rfl rfl)
  obtain ⟨a1, rfl, _, _, w1⟩ := open_int Tryz.underlying3 (Tp 1 3 v1 rfl rfl) h1
  clear Wt Sc
  refine (NB.calls (w := W) (judgeLost_ok a0 II V9 a1 (rk.of k0) w1 ut (nR.Mx.MW W9))).mono λe W' ⟨he, Wa⟩ => ?_
  subst he
  exact ⟨_, rfl, _, _, _, [], _, [], Xa, trodAll_mk1 (shut_bool Tryz.underlying4 _), (trodAll_cons_mk (Below.trod oA (by kernel_rfl) (of_decide_eq_true (by kernel_rfl)) k0 Wa O4) (trodAll_cons_mk (Below.trod oA (by kernel_rfl) (of_decide_eq_true (by kernel_rfl)) k1 Wa Xb) trodAll_mk0)), rfl, Wa.frame _, λh => by cases h⟩

set_option maxHeartbeats 40000000 in
theorem zh : joinedFacts Tryz.checked.prog 4 Tryz.f4 Rows.judgeLostSpec Rows.judgeLostRow = true := by
  unfold joinedFacts
  simp only [Bool.and_eq_true]
  repeat' apply And.intro
  all_goals as_aux_lemma => kernel_rfl

theorem BO : Rows.judgeLostRow.holds Tryz.pinned (OpenSpec.ofChange Rows.judgeLostSpec) :=
  OpenClaim.holds_of_wide 4 Tryz.f4 rfl rfl rfl rfl rfl rfl rfl ⟨rfl, rfl, rfl, rfl, rfl⟩ rfl rfl rfl rfl rfl (by kernel_rfl) Tryz.func4 zh
    (of_decide_eq_true (by kernel_rfl)) (by unfold Func.isWrapper; first | (rw [if_pos (by decide +kernel)]; kernel_rfl) | (rw [if_neg (by decide +kernel)]; exact ⟨rfl, rfl⟩))
    (λos started H enc _ => xP os started H enc)

theorem Fh : Rows.judgeLostRow.wfByText (OpenSpec.ofChange Rows.judgeLostSpec) = true := by kernel_rfl
theorem Fi : Tryz.prog.mainIs = some (((true, "da2f5688acb90bedd775d1176589aa8b4bc1e12caf417ec030963fc731117cd7")).1, ((true, "da2f5688acb90bedd775d1176589aa8b4bc1e12caf417ec030963fc731117cd7")).2.toList) := by kernel_rfl
theorem Fj : Tryz.prog.funcNamed Rows.judgeLostRow.func = some 4 := by kernel_rfl
theorem Fk : true = Tryz.prog.looks [] := by kernel_rfl
theorem Fl : ([22, 3].all λu => !Tryz.prog.wantsStandIn u) = true := by kernel_rfl
theorem Fm : false = Rows.judgeLostRow.goesBy Tryz.prog := by kernel_rfl
theorem judgeLost_holds : Rows.JudgeLostCardSaid :=
  Claim7.holds_tied_plain_at .later [] [.data, .pinned] true (true, "da2f5688acb90bedd775d1176589aa8b4bc1e12caf417ec030963fc731117cd7") true BO (λ_ h => by cases h) Fh (λ_ h => by cases h) judgeLost_row_tie rfl ⟨rfl, rfl⟩ Fi rfl
    (λf fn hf V4 => by
      obtain rfl : f = 4 := Option.some.inj (Fj.symm.trans hf) |>.symm
      obtain rfl : fn = Tryz.f4 := (Option.some.inj (Tryz.func4.symm.trans V4)).symm
      exact ⟨Fk, λj t ht => by
        rw [Tryz.params4] at ht
        have hm : t ∈ [22, 3] := by simpa using Array.mem_of_getElem? ht
        exact (show Tryz.prog.wantsStandIn t = false by simpa using List.all_eq_true.1 Fl t hm)⟩)
    Fm
#print axioms judgeLost_holds
end Go.Proofs.YtkdgpmeojgokdaaGreatDoor
