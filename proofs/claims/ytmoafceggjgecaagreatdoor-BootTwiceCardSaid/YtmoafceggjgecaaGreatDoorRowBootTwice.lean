/-
  What is proved: the given statement 'Rows.BootTwiceSaid': whatever the input, the law 'pigeonloft/pigeonloftlaw33.BootTwice' returns true, and each argument reads afterwards as it read before. No condition.
-/
import Derived.Test.YtmoafceggjgecaaGreatDoorRows
import Derived.Test.YtmoafceggjgecaaGreatDoorMBocee
import Derived.ProofKit
import Derived.OpenShut
import Derived.ShutString
import Derived.ChangeOld
import Derived.Below
import Derived.Test.YtmoafceggjgecaaGreatDoorTie
import Derived.Test.YtmoafceggjgecaaGreatDoorCards
import Derived.Lay
import Derived.LaidOnce
import Derived.SevenTiedAt
import Derived.LaidLaws
import Derived.ChangeVars
import Derived.JoinedOf
namespace Go.Proofs.YtmoafceggjgecaaGreatDoor
open Go.ChangeShapes Go.WideShapes Go.ChangeAt Go.RowKit Go.Den
open Go.ChangeMaps (open_string shut_string)

theorem bootTwice_own : ownKnob Tryz.prog.godebug = none := by kernel_rfl
theorem bootTwice_laidOut : laidOutB Tryz.prog = true := by kernel_rfl

set_option maxRecDepth 100000 in
theorem bootTwice_lifted (os : Os) (started : os.Started) (H : Type) (enc : TypeId × Value → H) :
    ReturnsInHanded {} Tryz.checked os 3 .any (fun w args => (Rows.bootTwiceSpec.pre enc Tryz.prog Tryz.f3 [] false w args ∧ laidMetH Tryz.prog Rows.bootTwiceRow.laid w) ∧ sizedMet enc Tryz.prog Tryz.f3 (OpenSpec.ofChange Rows.bootTwiceSpec) false w args) (Rows.bootTwiceSpec.post enc Tryz.prog Tryz.f3 false true false false) := by
  refine returnsInHanded_of_change_and (C := Tryz.checked) (X := fun w _ => laidMetH Tryz.prog Rows.bootTwiceRow.laid w) (fun _ _ _ hh h => h.of_heap hh) bootTwice_own started (by kernel_rfl) Tryz.func3
    (ChangeSpec.witness_shaped (enc := enc) (C := Tryz.checked) (os := os) (X := fun w _ => laidMetH Tryz.prog Rows.bootTwiceRow.laid w) false (World.laidAll Tryz.prog os Rows.bootTwiceRow.laid) #[.int .i64 0, .slice none 0 0, .slice none 0 0] 8 (World.laidAll_os _ _ _)
      (World.shaped_of_ZipB (by kernel_rfl) (by kernel_rfl)) (by kernel_rfl) (by kernel_rfl) (by kernel_rfl)
      (by rw [MakeChecks.laidMetH_plain _ _ _ (by kernel_rfl)]; exact laidMet_laidAll _ (by kernel_rfl) (by kernel_rfl))) ?_
  intro W base args ds gs before hval0 hW _ _ hL _
  rw [MakeChecks.laidMetH_plain _ _ _ (by kernel_rfl)] at hL
  unfold Rows.bootTwiceRow at hL
  have tb : Num.Tab W.heap := by
    first | exact Num.Tab.of_laid (by kernel_rfl) hL (.head _) | exact Num.Tab.of_laid (by kernel_rfl) hL (.tail _ (.head _)) | exact Num.Tab.of_laid (by kernel_rfl) hL (.tail _ (.tail _ (.head _)))
  have hval : ∀ (j : Nat) t v, Tryz.f3.params[j]? = some t → args[j]? = some v → Value.okWide Tryz.prog W .any base t v := hval0
  have hW' := hW
  obtain ⟨p, q, hA0, hV, rfl, hfz, hnd⟩ := hW
  have hA : DataW.TrodAll enc Tryz.prog W 0 (fun _ => true) true Tryz.f3.params.toList args.toList ds p := hA0
  rw [Tryz.params3] at hA hval
  obtain ⟨v0, vs0, d0, ds0, p0, q0, hargs, rfl, rfl, h0, r0⟩ := trodAll_cons hA
  obtain ⟨v1, vs1, d1, ds1, p1, q1, rfl, rfl, rfl, h1, r1⟩ := trodAll_cons r0
  obtain ⟨v2, vs2, d2, ds2, p2, q2, rfl, rfl, rfl, h2, r2⟩ := trodAll_cons r1
  obtain ⟨rfl, rfl, rfl⟩ := trodAll_nil r2
  obtain rfl : args = #[v0, v1, v2] := by cases args; simp_all
  obtain ⟨rfl, rfl⟩ := trodVars_none hV
  have k0 := h0
  have lt0 : ∀ x ∈ p0, x.block < W.heap.size := by obtain ⟨m, hm⟩ := k0; exact DataW.trod_lt m _ _ _ hm
  have k1 := h1
  have lt1 : ∀ x ∈ p1, x.block < W.heap.size := by obtain ⟨m, hm⟩ := k1; exact DataW.trod_lt m _ _ _ hm
  have k2 := h2
  have lt2 : ∀ x ∈ p2, x.block < W.heap.size := by obtain ⟨m, hm⟩ := k2; exact DataW.trod_lt m _ _ _ hm
  obtain ⟨a0, rfl, _, _, w0⟩ := open_int Tryz.underlying3 (hval 0 3 v0 rfl rfl) h0
  obtain ⟨a1, len1, cap1, rfl⟩ := okWide_slice Tryz.underlying22 (hval 1 22 v1 rfl rfl)
  obtain ⟨a2, len2, cap2, rfl⟩ := okWide_slice Tryz.underlying23 (hval 2 23 v2 rfl rfl)
  clear hA0 hval0
  refine (LawH.calls (w := W) (bootTwice_ok a0 a1 len1 cap1 a2 len2 cap2 w0 (RokV.of k1) (RokV.of k2) tb)).mono fun e W' ⟨he, bel⟩ => ?_
  subst he
  exact ⟨_, rfl, _, _, _, [], _, [], hW', trodAll_mk1 (shut_bool Tryz.underlying4 _), (trodAll_cons_mk (Below.trod bootTwice_laidOut (by kernel_rfl) (of_decide_eq_true (by kernel_rfl)) k0 bel lt0) (trodAll_cons_mk (Below.trod bootTwice_laidOut (by kernel_rfl) (of_decide_eq_true (by kernel_rfl)) k1 bel lt1) (trodAll_cons_mk (Below.trod bootTwice_laidOut (by kernel_rfl) (of_decide_eq_true (by kernel_rfl)) k2 bel lt2) trodAll_mk0))), rfl, bel.frame _, fun h => by cases h⟩

set_option maxHeartbeats 40000000 in
theorem bootTwice_facts : joinedFacts Tryz.checked.prog 3 Tryz.f3 Rows.bootTwiceSpec Rows.bootTwiceRow = true := by
  unfold joinedFacts
  simp only [Bool.and_eq_true]
  repeat' apply And.intro
  all_goals as_aux_lemma => kernel_rfl

theorem bootTwice_over : Rows.bootTwiceRow.holds Tryz.pinned (OpenSpec.ofChange Rows.bootTwiceSpec) :=
  OpenClaim.holds_of_wide 3 Tryz.f3 rfl rfl rfl rfl rfl rfl rfl ⟨rfl, rfl, rfl, rfl, rfl⟩ rfl rfl rfl rfl rfl (by kernel_rfl) Tryz.func3 bootTwice_facts
    (of_decide_eq_true (by kernel_rfl)) (by unfold Func.isWrapper; first | (rw [if_pos (by decide +kernel)]; kernel_rfl) | (rw [if_neg (by decide +kernel)]; exact ⟨rfl, rfl⟩))
    (fun os started H enc _ => bootTwice_lifted os started H enc)

theorem bootTwice_k1 : Rows.bootTwiceRow.wfByText (OpenSpec.ofChange Rows.bootTwiceSpec) = true := by kernel_rfl
theorem bootTwice_k2 : Tryz.prog.mainIs = some (((true, "e40c85b2013b2fc96e48b2d09ce740fd0092fc9da93f229dcc48511aaf21864c")).1, ((true, "e40c85b2013b2fc96e48b2d09ce740fd0092fc9da93f229dcc48511aaf21864c")).2.toList) := by kernel_rfl
theorem bootTwice_k3 : Tryz.prog.funcNamed Rows.bootTwiceRow.func = some 3 := by kernel_rfl
theorem bootTwice_k4 : true = Tryz.prog.looks [] := by kernel_rfl
theorem bootTwice_k5 : ([3, 22, 23].all fun u => !Tryz.prog.wantsStandIn u) = true := by kernel_rfl
theorem goes_no {P : Program} (h : P.funcs.any Func.goes = false) {c : OpenClaim} (hs : c.start = .entering) : c.goesBy P = false := by
  have hg : ∀ f, P.goes f = false := fun f => by
    unfold Program.goes
    rw [h, Bool.and_false, Bool.or_false, List.any_eq_false]
    intro g _ hb
    rw [Array.any_eq_false] at h
    cases e : P.funcs[g]? with
    | none => rw [e] at hb; cases hb
    | some fn =>
      rw [e] at hb
      obtain ⟨i, rfl⟩ := Array.getElem?_eq_some_iff.1 e
      exact h g i hb
  unfold OpenClaim.goesBy Program.goesAt Program.goesFrom
  rw [hs]
  cases P.funcNamed c.func with
  | none => rfl
  | some f => simp [hg]
theorem noGo : Tryz.prog.funcs.any Func.goes = false := by kernel_rfl
theorem bootTwice_k6 : false = Rows.bootTwiceRow.goesBy Tryz.prog := (goes_no noGo rfl).symm
theorem bootTwice_holds : Rows.BootTwiceCardSaid :=
  Claim7.holds_tied_plain_at .later [] [.data, .data, .data, .data, .sentinel, .sentinel, .pinned] true (true, "e40c85b2013b2fc96e48b2d09ce740fd0092fc9da93f229dcc48511aaf21864c") true bootTwice_over (fun _ h => by cases h) bootTwice_k1 (fun _ h => by cases h) bootTwice_row_tie rfl ⟨rfl, rfl⟩ bootTwice_k2 rfl
    (fun f fn hf hfn => by
      obtain rfl : f = 3 := Option.some.inj (bootTwice_k3.symm.trans hf) |>.symm
      obtain rfl : fn = Tryz.f3 := (Option.some.inj (Tryz.func3.symm.trans hfn)).symm
      exact ⟨bootTwice_k4, fun j t ht => by
        rw [Tryz.params3] at ht
        have hm : t ∈ [3, 22, 23] := by simpa using Array.mem_of_getElem? ht
        exact (show Tryz.prog.wantsStandIn t = false by simpa using List.all_eq_true.1 bootTwice_k5 t hm)⟩)
    bootTwice_k6
#print axioms bootTwice_holds
end Go.Proofs.YtmoafceggjgecaaGreatDoor
