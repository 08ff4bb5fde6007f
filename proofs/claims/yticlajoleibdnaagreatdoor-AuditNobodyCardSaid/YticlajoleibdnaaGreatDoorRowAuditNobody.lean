/-
  What is proved: the given statement 'Rows.AuditNobodySaid': whatever the input, the law 'pigeonloft/pigeonloftlaw38.AuditNobody' returns true, and each argument reads afterwards as it read before. No condition.
-/
import Derived.Test.YticlajoleibdnaaGreatDoorRows
import Derived.Test.YticlajoleibdnaaGreatDoorMAudyd
import Derived.ProofKit
import Derived.OpenShut
import Derived.ShutString
import Derived.ChangeOld
import Derived.Below
import Derived.Test.YticlajoleibdnaaGreatDoorCards
import Derived.Lay
import Derived.LaidOnce
import Derived.SevenTiedAt
import Derived.LaidLaws
import Derived.ChangeVars
import Derived.JoinedOf
import Derived.ClosedOfChecked
namespace Go.Proofs.YticlajoleibdnaaGreatDoor
open Go.ChangeShapes Go.WideShapes Go.ChangeAt Go.RowKit Go.Den
open Go.ChangeMaps (open_string shut_string)

theorem auditNobody_own : ownKnob Tryz.prog.godebug = none := by kernel_rfl
theorem cl_ty : Tryz.checked.prog.types = Tryz.checked.src.types := by kernel_rfl
theorem cl_rest : (Tryz.checked.prog.globals.all (fun g => decide (g.type < Tryz.checked.prog.types.size)) && Tryz.checked.prog.funcs.all (fun f => f.params.all fun t => decide (t < Tryz.checked.prog.types.size))) = true := by kernel_rfl
theorem cl_laid : laidOutB Tryz.checked.prog = true := Go.ClosedOfChecked.laidOutB_of (Go.ClosedOfChecked.allSpec_of Tryz.checked.wellFormed cl_ty) cl_rest
theorem cl_maps : mapsRowed Tryz.checked.prog = true := Go.ClosedOfChecked.mapsRowed_of (Go.ClosedOfChecked.allSpec_of Tryz.checked.wellFormed cl_ty)
theorem auditNobody_laidOut : laidOutB Tryz.prog = true := cl_laid

set_option maxRecDepth 100000 in
theorem auditNobody_lifted (os : Os) (started : os.Started) (H : Type) (enc : TypeId × Value → H) :
    ReturnsInHanded {} Tryz.checked os 4 .any (fun w args => (Rows.auditNobodySpec.pre enc Tryz.prog Tryz.f4 [] false w args ∧ laidMetH Tryz.prog Rows.auditNobodyRow.laid w) ∧ sizedMet enc Tryz.prog Tryz.f4 (OpenSpec.ofChange Rows.auditNobodySpec) false w args) (Rows.auditNobodySpec.post enc Tryz.prog Tryz.f4 false true false false) := by
  refine handed_shaped (C := Tryz.checked) (X := fun w _ => laidMetH Tryz.prog Rows.auditNobodyRow.laid w) (fun _ _ _ hh h => h.of_heap hh) auditNobody_own started (by kernel_rfl) Tryz.func4
    (ChangeSpec.witness_shaped (enc := enc) (C := Tryz.checked) (os := os) (X := fun w _ => laidMetH Tryz.prog Rows.auditNobodyRow.laid w) false (World.laidAll Tryz.prog os Rows.auditNobodyRow.laid) #[.agg #[.string (⟨#[]⟩ : ByteArray), .string (⟨#[]⟩ : ByteArray)]] 8 (World.laidAll_os _ _ _)
      (World.shaped_of_ZipB (by kernel_rfl) (by kernel_rfl)) (by kernel_rfl) (by kernel_rfl) (by kernel_rfl)
      (by rw [MakeChecks.laidMetH_plain _ _ _ (by kernel_rfl)]; exact laidMet_laidAll _ (by kernel_rfl) (by kernel_rfl))) ?_
  intro W base args ds gs before hsh hval0 hW hL
  rw [MakeChecks.laidMetH_plain _ _ _ (by kernel_rfl)] at hL
  unfold Rows.auditNobodyRow at hL
  have er : Num.Er W.heap := Num.Er.of (Num.err_of_laid (by kernel_rfl) (by kernel_rfl) hL (List.Mem.head _)) (Num.err_of_laid (by kernel_rfl) (by kernel_rfl) hL (List.Mem.tail _ (List.Mem.head _)))
  have tb : Num.Tab W.heap := by
    first | exact Num.Tab.of_laid (by kernel_rfl) hL (.head _) | exact Num.Tab.of_laid (by kernel_rfl) hL (.tail _ (.head _)) | exact Num.Tab.of_laid (by kernel_rfl) hL (.tail _ (.tail _ (.head _)))
  have hval : ∀ (j : Nat) t v, Tryz.f4.params[j]? = some t → args[j]? = some v → Value.okWide Tryz.prog W .any base t v := hval0
  have hW' := hW
  obtain ⟨p, q, hA0, hV, rfl, hfz, hnd⟩ := hW
  have hA : DataW.TrodAll enc Tryz.prog W 0 (fun _ => true) true Tryz.f4.params.toList args.toList ds p := hA0
  rw [Tryz.params4] at hA hval
  obtain ⟨v0, vs0, d0, ds0, p0, q0, hargs, rfl, rfl, h0, r0⟩ := trodAll_cons hA
  obtain ⟨rfl, rfl, rfl⟩ := trodAll_nil r0
  obtain rfl : args = #[v0] := by cases args; simp_all
  obtain ⟨rfl, rfl⟩ := trodVars_none hV
  have k0 := h0
  have lt0 : ∀ x ∈ p0, x.block < W.heap.size := by obtain ⟨m, hm⟩ := k0; exact DataW.trod_lt m _ _ _ hm
  obtain ⟨a0, rfl, s0⟩ := okWide_struct Tryz.underlying32 (hval 0 32 v0 rfl rfl)
  clear hA0 hval0
  refine (LawH.calls (w := W) (auditNobody_ok a0 s0 (RokV.of k0) tb er (Num.Mx.of_shaped hsh))).mono fun e W' ⟨he, bel⟩ => ?_
  subst he
  exact ⟨_, rfl, _, _, _, [], _, [], hW', trodAll_mk1 (shut_bool Tryz.underlying4 _), (trodAll_cons_mk (Below.trod auditNobody_laidOut (by kernel_rfl) (of_decide_eq_true (by kernel_rfl)) k0 bel lt0) trodAll_mk0), rfl, bel.frame _, fun h => by cases h⟩

set_option maxHeartbeats 40000000 in
theorem auditNobody_facts : joinedFacts Tryz.checked.prog 4 Tryz.f4 Rows.auditNobodySpec Rows.auditNobodyRow = true := by
  unfold joinedFacts
  simp only [Bool.and_eq_true]
  repeat' apply And.intro
  all_goals first | with_reducible exact cl_laid | with_reducible exact cl_maps | with_reducible exact cl_named_AuditNobody | as_aux_lemma => kernel_rfl

theorem auditNobody_over : Rows.auditNobodyRow.holds Tryz.pinned (OpenSpec.ofChange Rows.auditNobodySpec) :=
  OpenClaim.holds_of_wide 4 Tryz.f4 rfl rfl rfl rfl rfl rfl rfl ⟨rfl, rfl, rfl, rfl, rfl⟩ rfl rfl rfl rfl rfl (by kernel_rfl) Tryz.func4 auditNobody_facts
    (of_decide_eq_true (by kernel_rfl)) (by unfold Func.isWrapper; first | (rw [if_pos (by decide +kernel)]; kernel_rfl) | (rw [if_neg (by decide +kernel)]; exact ⟨rfl, rfl⟩))
    (fun os started H enc _ => auditNobody_lifted os started H enc)

theorem auditNobody_k1 : Rows.auditNobodyRow.wfByText (OpenSpec.ofChange Rows.auditNobodySpec) = true := by kernel_rfl
theorem auditNobody_k2 : Tryz.prog.mainIs = some (((true, "aeb6a59a3c0bd00df6a60bf4752e91557cbb524bb636ef7d46ff304a925bc71a")).1, ((true, "aeb6a59a3c0bd00df6a60bf4752e91557cbb524bb636ef7d46ff304a925bc71a")).2.toList) := by kernel_rfl
theorem auditNobody_k3 : Tryz.prog.funcNamed Rows.auditNobodyRow.func = some 4 := by kernel_rfl
theorem auditNobody_k4 : true = Tryz.prog.looks [] := by kernel_rfl
theorem auditNobody_k5 : ([32].all fun u => !Tryz.prog.wantsStandIn u) = true := by kernel_rfl
theorem goes_no {P : Program} (h : P.funcs.any Func.goes = false) {c : OpenClaim} (hs : c.start = .entering) : c.goesBy P = false := by
  have hg : ∀ f, P.goes f = false := fun f => by
    unfold Program.goes
    rw [h, Bool.and_false, Bool.or_false, List.any_eq_false]
    intro g _ hb
    rw [Array.any_eq_false] at h
    cases e : P.funcs[g]? with
    | none => rw [e] at hb; cases hb
    | some fn =>
      rw [e] at hb
      obtain ⟨i, rfl⟩ := Array.getElem?_eq_some_iff.1 e
      exact h g i hb
  unfold OpenClaim.goesBy Program.goesAt Program.goesFrom
  rw [hs]
  cases P.funcNamed c.func with
  | none => rfl
  | some f => simp [hg]
theorem noGo : Tryz.prog.funcs.any Func.goes = false := by kernel_rfl
theorem auditNobody_k6 : false = Rows.auditNobodyRow.goesBy Tryz.prog := (goes_no noGo rfl).symm
theorem auditNobody_holds : Rows.AuditNobodyCardSaid :=
  Claim7.holds_tied_plain_at .later [] [.sentinel, .sentinel, .data, .data, .data, .pinned, .data] true (true, "aeb6a59a3c0bd00df6a60bf4752e91557cbb524bb636ef7d46ff304a925bc71a") true auditNobody_over (fun _ h => by cases h) auditNobody_k1 (fun _ h => by cases h) auditNobody_row_tie rfl ⟨rfl, rfl⟩ auditNobody_k2 rfl
    (fun f fn hf hfn => by
      obtain rfl : f = 4 := Option.some.inj (auditNobody_k3.symm.trans hf) |>.symm
      obtain rfl : fn = Tryz.f4 := (Option.some.inj (Tryz.func4.symm.trans hfn)).symm
      exact ⟨auditNobody_k4, fun j t ht => by
        rw [Tryz.params4] at ht
        have hm : t ∈ [32] := by simpa using Array.mem_of_getElem? ht
        exact (show Tryz.prog.wantsStandIn t = false by simpa using List.all_eq_true.1 auditNobody_k5 t hm)⟩)
    auditNobody_k6
#print axioms auditNobody_holds
end Go.Proofs.YticlajoleibdnaaGreatDoor
