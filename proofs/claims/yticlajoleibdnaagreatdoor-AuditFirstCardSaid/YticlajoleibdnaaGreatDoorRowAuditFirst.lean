/-
  IY is proved: AH given Wd 'Rows.Pr: Xr AH input, AH law 'V2/Ps.UI returns true, and each argument reads V3 as it read before. No condition.
-/
import Derived.Test.YticlajoleibdnaaGreatDoorRows
import Derived.Test.YticlajoleibdnaaGreatDoorMAusth
import Derived.ProofKit
import Derived.OpenShut
import Derived.ShutString
import Derived.ChangeOld
import Derived.Below
import Derived.Test.YticlajoleibdnaaGreatDoorCards
import Derived.Lay
import Derived.LaidOnce
import Derived.SevenTiedAt
import Derived.LaidLaws
import Derived.ChangeVars
import Derived.JoinedOf
import Derived.ClosedOfChecked
namespace Go.Proofs.YticlajoleibdnaaGreatDoor
open Go.ChangeShapes Go.WideShapes Go.ChangeAt Go.RowKit Go.Den
open Go.ChangeMaps (open_string shut_string)

theorem Fv : ownKnob Tryz.prog.godebug = none := by kernel_rfl
theorem UJ : Tryz.checked.prog.types = Tryz.checked.src.types := by kernel_rfl
theorem Ub : (Tryz.checked.prog.globals.all (λg => decide (g.type < Tryz.checked.prog.types.size)) && Tryz.checked.prog.funcs.all (λf => f.params.all λt => decide (t < Tryz.checked.prog.types.size))) = true := by kernel_rfl
theorem NA : laidOutB Tryz.checked.prog = true := Go.ClosedOfChecked.laidOutB_of (Go.ClosedOfChecked.allSpec_of Tryz.checked.wellFormed UJ) Ub
theorem Uc : mapsRowed Tryz.checked.prog = true := Go.ClosedOfChecked.mapsRowed_of (Go.ClosedOfChecked.allSpec_of Tryz.checked.wellFormed UJ)
theorem nN : laidOutB Tryz.prog = true := NA

set_option maxRecDepth 100000 in
theorem yX (os : Os) (started : os.Started) (H : Type) (enc : TypeId × Value → H) :
    ReturnsInHanded {} Tryz.checked os 3 .any (λw args => (Rows.auditFirstSpec.pre enc Tryz.prog Tryz.f3 [] false w args ∧ laidMetH Tryz.prog Rows.auditFirstRow.laid w) ∧ sizedMet enc Tryz.prog Tryz.f3 (OpenSpec.ofChange Rows.auditFirstSpec) false w args) (Rows.auditFirstSpec.post enc Tryz.prog Tryz.f3 false true false false) := by
  refine Ge (C := Tryz.checked) (X := λw _ => laidMetH Tryz.prog Rows.auditFirstRow.laid w) (λ_ _ _ hh h => h.of_heap hh) Fv started (by kernel_rfl) Tryz.func3
    (ChangeSpec.witness_shaped (enc := enc) (C := Tryz.checked) (os := os) (X := λw _ => laidMetH Tryz.prog Rows.auditFirstRow.laid w) false (World.laidAll Tryz.prog os Rows.auditFirstRow.laid) #[.slice none 0 0, .int .i64 0] 8 (World.laidAll_os _ _ _)
      (World.shaped_of_ZipB (by kernel_rfl) (by kernel_rfl)) (by kernel_rfl) (by kernel_rfl) (by kernel_rfl)
      (by rw [MakeChecks.laidMetH_plain _ _ _ (by kernel_rfl)]; exact laidMet_laidAll _ (by kernel_rfl) (by kernel_rfl))) ?_
  intro W base args ds gs before ZI UK hW hL
  rw [MakeChecks.laidMetH_plain _ _ _ (by kernel_rfl)] at hL
  unfold Rows.auditFirstRow at hL
  have ut : ∃ V, Cb.lU V W.heap := by
    have e1 : Rows.laid_unicode_utf8_first = Lib.firstData := by kernel_rfl
    have e2 : (Rows.laid_unicode_utf8_acceptRanges : DataW Unit) = Lib.acceptData := by kernel_rfl
    dsimp only at hL
    rw [e1, e2] at hL
    exact Cb.II.yQ (by kernel_rfl) (by kernel_rfl) hL (List.Mem.tail _ (List.Mem.tail _ (List.Mem.tail _ (List.Mem.tail _ (List.Mem.tail _ (List.Mem.head _)))))) (List.Mem.tail _ (List.Mem.tail _ (List.Mem.tail _ (List.Mem.tail _ (List.Mem.tail _ (List.Mem.tail _ (List.Mem.head _)))))))
  have er : jk.Er W.heap := jk.Er.of (jk.Bl (by kernel_rfl) (by kernel_rfl) hL (List.Mem.head _)) (jk.Bl (by kernel_rfl) (by kernel_rfl) hL (List.Mem.tail _ (List.Mem.head _)))
  have tb : jk.vx W.heap := by
    first | exact jk.vx.yQ (by kernel_rfl) hL (.head _) | exact jk.vx.yQ (by kernel_rfl) hL (.tail _ (.head _)) | exact jk.vx.yQ (by kernel_rfl) hL (.tail _ (.tail _ (.head _)))
  have V4 : ∀ (j : Nat) t v, Tryz.f3.params[j]? = some t → args[j]? = some v → Value.okWide Tryz.prog W .any base t v := UK
  have ZJ := hW
  obtain ⟨p, q, Y0, hV, rfl, ZT, ZU⟩ := hW
  have hA : DataW.TrodAll enc Tryz.prog W 0 (λ_ => true) true Tryz.f3.params.toList args.toList ds p := Y0
  rw [Tryz.params3] at hA V4
  obtain ⟨v0, ZV, d0, ZW, p0, q0, Y1, rfl, rfl, h0, r0⟩ := trodAll_cons hA
  obtain ⟨v1, ZX, d1, ZY, p1, q1, rfl, rfl, rfl, h1, r1⟩ := trodAll_cons r0
  obtain ⟨rfl, rfl, rfl⟩ := trodAll_nil r1
  obtain rfl : args = #[v0, v1] := by cases args; simp_all
  obtain ⟨rfl, rfl⟩ := trodVars_none hV
  have k0 := h0
  have WN : ∀ x ∈ p0, x.block < W.heap.size := by obtain ⟨m, hm⟩ := k0; exact DataW.trod_lt m _ _ _ hm
  have k1 := h1
  have ZK : ∀ x ∈ p1, x.block < W.heap.size := by obtain ⟨m, hm⟩ := k1; exact DataW.trod_lt m _ _ _ hm
  obtain ⟨a0, LF, YJ, rfl⟩ := okWide_slice Tryz.underlying22 (V4 0 22 v0 rfl rfl)
  obtain ⟨a1, rfl, _, _, w1⟩ := open_int Tryz.underlying3 (V4 1 3 v1 rfl rfl) h1
  clear Y0 UK
  refine (PO.calls (w := W) (auditFirst_ok a0 LF YJ a1 (HP.of k0) w1 tb ut er (jk.Mx.OQ ZI))).mono λe W' ⟨he, YK⟩ => ?_
  subst he
  exact ⟨_, rfl, _, _, _, [], _, [], ZJ, trodAll_mk1 (shut_bool Tryz.underlying4 _), (trodAll_cons_mk (Below.trod nN (by kernel_rfl) (of_decide_eq_true (by kernel_rfl)) k0 YK WN) (trodAll_cons_mk (Below.trod nN (by kernel_rfl) (of_decide_eq_true (by kernel_rfl)) k1 YK ZK) trodAll_mk0)), rfl, YK.frame _, λh => by cases h⟩

set_option maxHeartbeats 40000000 in
theorem AG : joinedFacts Tryz.checked.prog 3 Tryz.f3 Rows.auditFirstSpec Rows.auditFirstRow = true := by
  unfold joinedFacts
  simp only [Bool.and_eq_true]
  repeat' apply And.intro
  all_goals first | with_reducible exact NA | with_reducible exact Uc | with_reducible exact v7 | as_aux_lemma => kernel_rfl

theorem Cx : Rows.auditFirstRow.holds Tryz.pinned (OpenSpec.ofChange Rows.auditFirstSpec) :=
  OpenClaim.holds_of_wide 3 Tryz.f3 rfl rfl rfl rfl rfl rfl rfl ⟨rfl, rfl, rfl, rfl, rfl⟩ rfl rfl rfl rfl rfl (by kernel_rfl) Tryz.func3 AG
    (of_decide_eq_true (by kernel_rfl)) (by unfold Func.isWrapper; first | (rw [if_pos (by decide +kernel)]; kernel_rfl) | (rw [if_neg (by decide +kernel)]; exact ⟨rfl, rfl⟩))
    (λos started H enc _ => yX os started H enc)

theorem Gg : Rows.auditFirstRow.wfByText (OpenSpec.ofChange Rows.auditFirstSpec) = true := by kernel_rfl
theorem Gh : Tryz.prog.mainIs = some (((true, "aeb6a59a3c0bd00df6a60bf4752e91557cbb524bb636ef7d46ff304a925bc71a")).1, ((true, "aeb6a59a3c0bd00df6a60bf4752e91557cbb524bb636ef7d46ff304a925bc71a")).2.toList) := by kernel_rfl
theorem Gi : Tryz.prog.funcNamed Rows.auditFirstRow.func = some 3 := by kernel_rfl
theorem Gj : true = Tryz.prog.looks [] := by kernel_rfl
theorem Gk : ([22, 3].all λu => !Tryz.prog.wantsStandIn u) = true := by kernel_rfl
theorem Ud {P : Program} (h : P.funcs.any Func.goes = false) {c : OpenClaim} (hs : c.start = .entering) : c.goesBy P = false := by
  have hg : ∀ f, P.goes f = false := λf => by
    unfold Program.goes
    rw [h, Bool.and_false, Bool.or_false, List.any_eq_false]
    intro g _ hb
    rw [Array.any_eq_false] at h
    cases e : P.funcs[g]? with
    | none => rw [e] at hb; cases hb
    | some fn =>
      rw [e] at hb
      obtain ⟨i, rfl⟩ := Array.getElem?_eq_some_iff.1 e
      exact h g i hb
  unfold OpenClaim.goesBy Program.goesAt Program.goesFrom
  rw [hs]
  cases P.funcNamed c.func with
  | none => rfl
  | some f => simp [hg]
theorem YL : Tryz.prog.funcs.any Func.goes = false := by kernel_rfl
theorem Gl : false = Rows.auditFirstRow.goesBy Tryz.prog := (Ud YL rfl).symm
theorem auditFirst_holds : Rows.AuditFirstCardSaid :=
  Claim7.holds_tied_plain_at .later [] [.sentinel, .sentinel, .data, .data, .data, .pinned, .data] true (true, "aeb6a59a3c0bd00df6a60bf4752e91557cbb524bb636ef7d46ff304a925bc71a") true Cx (λ_ h => by cases h) Gg (λ_ h => by cases h) xA rfl ⟨rfl, rfl⟩ Gh rfl
    (λf fn hf ZL => by
      obtain rfl : f = 3 := Option.some.inj (Gi.symm.trans hf) |>.symm
      obtain rfl : fn = Tryz.f3 := (Option.some.inj (Tryz.func3.symm.trans ZL)).symm
      exact ⟨Gj, λj t ht => by
        rw [Tryz.params3] at ht
        have hm : t ∈ [22, 3] := by simpa using Array.mem_of_getElem? ht
        exact (show Tryz.prog.wantsStandIn t = false by simpa using List.all_eq_true.1 Gk t hm)⟩)
    Gl
#print axioms auditFirst_holds
end Go.Proofs.YticlajoleibdnaaGreatDoor
