/-
  FU is proved: x7 given TM 'Rows.NC: UI x7 input, x7 law 'TA/ND.Ss returns true, and each argument reads TC as it read before. No condition.
-/
import Derived.Test.YtimiaphmdidfhaaGreatDoorRows
import Derived.Test.YtimiaphmdidfhaaGreatDoorMArwnh
import Derived.ProofKit
import Derived.OpenShut
import Derived.ShutString
import Derived.ChangeOld
import Derived.Below
import Derived.Test.YtimiaphmdidfhaaGreatDoorTie
import Derived.Test.YtimiaphmdidfhaaGreatDoorCards
import Derived.Lay
import Derived.LaidOnce
import Derived.SevenTiedAt
import Derived.LaidLaws
import Derived.ChangeVars
import Derived.JoinedOf
namespace Go.Proofs.YtimiaphmdidfhaaGreatDoor
open Go.ChangeShapes Go.WideShapes Go.ChangeAt Go.RowKit Go.Den
open Go.ChangeMaps (open_string shut_string)

theorem Ci : ownKnob Tryz.prog.godebug = none := by kernel_rfl
theorem ob : laidOutB Tryz.prog = true := by kernel_rfl

set_option maxRecDepth 100000 in
theorem wK (os : Os) (started : os.Started) (H : Type) (enc : TypeId × Value → H) :
    ReturnsInHanded {} Tryz.checked os 3 .any (λw args => (Rows.arriveDownSpec.pre enc Tryz.prog Tryz.f3 [] false w args ∧ laidMetH Tryz.prog Rows.arriveDownRow.laid w) ∧ sizedMet enc Tryz.prog Tryz.f3 (OpenSpec.ofChange Rows.arriveDownSpec) false w args) (Rows.arriveDownSpec.post enc Tryz.prog Tryz.f3 false true false false) := by
  refine C4 (C := Tryz.checked) (X := λw _ => laidMetH Tryz.prog Rows.arriveDownRow.laid w) (λ_ _ _ hh h => h.of_heap hh) Ci started (by kernel_rfl) Tryz.func3
    (ChangeSpec.witness_shaped (enc := enc) (C := Tryz.checked) (os := os) (X := λw _ => laidMetH Tryz.prog Rows.arriveDownRow.laid w) false (World.laidAll Tryz.prog os Rows.arriveDownRow.laid) #[.slice none 0 0, .agg #[.int .u64 0, .int .i64 0, .int .u64 0, .int .i64 0, .int .u64 0, .int .i64 0, .bool false, .int .u64 0, .int .u64 0, .string (⟨#[]⟩ : ByteArray), .string (⟨#[]⟩ : ByteArray), .bool false, .int .u64 0, .int .u64 0, .string (⟨#[]⟩ : ByteArray), .string (⟨#[]⟩ : ByteArray), .int .i64 0, .int .i64 0, .int .i64 0, .slice none 0 0, .int .u64 0, .int .u64 0, .bool false, .slice none 0 0]] 8 (World.laidAll_os _ _ _)
      (World.shaped_of_ZipB (by kernel_rfl) (by kernel_rfl)) (by kernel_rfl) (by kernel_rfl) (by kernel_rfl)
      (by rw [MakeChecks.laidMetH_plain _ _ _ (by kernel_rfl)]; exact laidMet_laidAll _ (by kernel_rfl) (by kernel_rfl))) ?_
  intro W base args ds gs before WX St hW hL
  rw [MakeChecks.laidMetH_plain _ _ _ (by kernel_rfl)] at hL
  unfold Rows.arriveDownRow at hL
  have ut : ∃ V, Cb.lO V W.heap := by
    have e1 : Rows.laid_unicode_utf8_first = Lib.firstData := by kernel_rfl
    have e2 : (Rows.laid_unicode_utf8_acceptRanges : DataW Unit) = Lib.acceptData := by kernel_rfl
    dsimp only at hL
    rw [e1, e2] at hL
    exact Cb.FL.wI (by kernel_rfl) (by kernel_rfl) hL (List.Mem.tail _ (List.Mem.tail _ (List.Mem.tail _ (List.Mem.tail _ (List.Mem.head _))))) (List.Mem.tail _ (List.Mem.tail _ (List.Mem.tail _ (List.Mem.head _))))
  have tb : lM.oD W.heap := by
    first | exact lM.oD.wI (by kernel_rfl) hL (.head _) | exact lM.oD.wI (by kernel_rfl) hL (.tail _ (.head _)) | exact lM.oD.wI (by kernel_rfl) hL (.tail _ (.tail _ (.head _)))
  have TD : ∀ (j : Nat) t v, Tryz.f3.params[j]? = some t → args[j]? = some v → Value.okWide Tryz.prog W .any base t v := St
  have WY := hW
  obtain ⟨p, q, Wl, hV, rfl, Xh, Xi⟩ := hW
  have hA : DataW.TrodAll enc Tryz.prog W 0 (λ_ => true) true Tryz.f3.params.toList args.toList ds p := Wl
  rw [Tryz.params3] at hA TD
  obtain ⟨v0, Xj, d0, Xk, p0, q0, Wm, rfl, rfl, h0, r0⟩ := trodAll_cons hA
  obtain ⟨v1, Xl, d1, Xm, p1, q1, rfl, rfl, rfl, h1, r1⟩ := trodAll_cons r0
  obtain ⟨rfl, rfl, rfl⟩ := trodAll_nil r1
  obtain rfl : args = #[v0, v1] := by cases args; simp_all
  obtain ⟨rfl, rfl⟩ := trodVars_none hV
  have k0 := h0
  have Pn : ∀ x ∈ p0, x.block < W.heap.size := by obtain ⟨m, hm⟩ := k0; exact DataW.trod_lt m _ _ _ hm
  have k1 := h1
  have WZ : ∀ x ∈ p1, x.block < W.heap.size := by obtain ⟨m, hm⟩ := k1; exact DataW.trod_lt m _ _ _ hm
  obtain ⟨a0, Jc, V1, rfl⟩ := okWide_slice Tryz.underlying22 (TD 0 22 v0 rfl rfl)
  obtain ⟨a1, rfl, s1⟩ := okWide_struct Tryz.underlying30 (TD 1 30 v1 rfl rfl)
  clear Wl St
  refine (NZ.calls (w := W) (arriveDown_ok a0 Jc V1 a1 (pf.of k0) s1 (pf.of k1) tb ut (lM.Mx.Nt WX))).mono λe W' ⟨he, V2⟩ => ?_
  subst he
  exact ⟨_, rfl, _, _, _, [], _, [], WY, trodAll_mk1 (shut_bool Tryz.underlying4 _), (trodAll_cons_mk (Below.trod ob (by kernel_rfl) (of_decide_eq_true (by kernel_rfl)) k0 V2 Pn) (trodAll_cons_mk (Below.trod ob (by kernel_rfl) (of_decide_eq_true (by kernel_rfl)) k1 V2 WZ) trodAll_mk0)), rfl, V2.frame _, λh => by cases h⟩

set_option maxHeartbeats 40000000 in
theorem x6 : joinedFacts Tryz.checked.prog 3 Tryz.f3 Rows.arriveDownSpec Rows.arriveDownRow = true := by
  unfold joinedFacts
  simp only [Bool.and_eq_true]
  repeat' apply And.intro
  all_goals as_aux_lemma => kernel_rfl

theorem zI : Rows.arriveDownRow.holds Tryz.pinned (OpenSpec.ofChange Rows.arriveDownSpec) :=
  OpenClaim.holds_of_wide 3 Tryz.f3 rfl rfl rfl rfl rfl rfl rfl ⟨rfl, rfl, rfl, rfl, rfl⟩ rfl rfl rfl rfl rfl (by kernel_rfl) Tryz.func3 x6
    (of_decide_eq_true (by kernel_rfl)) (by unfold Func.isWrapper; first | (rw [if_pos (by decide +kernel)]; kernel_rfl) | (rw [if_neg (by decide +kernel)]; exact ⟨rfl, rfl⟩))
    (λos started H enc _ => wK os started H enc)

theorem C6 : Rows.arriveDownRow.wfByText (OpenSpec.ofChange Rows.arriveDownSpec) = true := by kernel_rfl
theorem C7 : Tryz.prog.mainIs = some (((true, "ca338c955dd013ee9f0d76113afb838bb9c64ddc67efcb63167b392c426accfa")).1, ((true, "ca338c955dd013ee9f0d76113afb838bb9c64ddc67efcb63167b392c426accfa")).2.toList) := by kernel_rfl
theorem C8 : Tryz.prog.funcNamed Rows.arriveDownRow.func = some 3 := by kernel_rfl
theorem Da : true = Tryz.prog.looks [] := by kernel_rfl
theorem Db : ([22, 30].all λu => !Tryz.prog.wantsStandIn u) = true := by kernel_rfl
theorem Dc : false = Rows.arriveDownRow.goesBy Tryz.prog := by kernel_rfl
theorem arriveDown_holds : Rows.ArriveDownCardSaid :=
  Claim7.holds_tied_plain_at .later [] [.data, .data, .data, .data, .pinned] true (true, "ca338c955dd013ee9f0d76113afb838bb9c64ddc67efcb63167b392c426accfa") true zI (λ_ h => by cases h) C6 (λ_ h => by cases h) arriveDown_row_tie rfl ⟨rfl, rfl⟩ C7 rfl
    (λf fn hf W0 => by
      obtain rfl : f = 3 := Option.some.inj (C8.symm.trans hf) |>.symm
      obtain rfl : fn = Tryz.f3 := (Option.some.inj (Tryz.func3.symm.trans W0)).symm
      exact ⟨Da, λj t ht => by
        rw [Tryz.params3] at ht
        have hm : t ∈ [22, 30] := by simpa using Array.mem_of_getElem? ht
        exact (show Tryz.prog.wantsStandIn t = false by simpa using List.all_eq_true.1 Db t hm)⟩)
    Dc
#print axioms arriveDown_holds
end Go.Proofs.YtimiaphmdidfhaaGreatDoor
