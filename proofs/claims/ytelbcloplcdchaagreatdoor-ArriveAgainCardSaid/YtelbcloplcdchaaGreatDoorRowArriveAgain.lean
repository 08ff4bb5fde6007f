/-
  IF is proved: zp given Wq 'Rows.Qq: Xl zp input, zp law 'Wk/Qs.UM returns true, and each argument reads Wl as it read before. No condition.
-/
import Derived.Test.YtelbcloplcdchaaGreatDoorRows
import Derived.Test.YtelbcloplcdchaaGreatDoorMArini
import Derived.ProofKit
import Derived.OpenShut
import Derived.ShutString
import Derived.ChangeOld
import Derived.Below
import Derived.Test.YtelbcloplcdchaaGreatDoorTie
import Derived.Test.YtelbcloplcdchaaGreatDoorCards
import Derived.Lay
import Derived.LaidOnce
import Derived.SevenTiedAt
import Derived.LaidLaws
import Derived.ChangeVars
import Derived.JoinedOf
namespace Go.Proofs.YtelbcloplcdchaaGreatDoor
open Go.ChangeShapes Go.WideShapes Go.ChangeAt Go.RowKit Go.Den
open Go.ChangeMaps (open_string shut_string)

theorem DD : ownKnob Tryz.prog.godebug = none := by kernel_rfl
theorem om : laidOutB Tryz.prog = true := by kernel_rfl

set_option maxRecDepth 100000 in
theorem ze (os : Os) (started : os.Started) (H : Type) (enc : TypeId × Value → H) :
    ReturnsInHanded {} Tryz.checked os 3 .any (λw args => (Rows.arriveAgainSpec.pre enc Tryz.prog Tryz.f3 [] false w args ∧ laidMetH Tryz.prog Rows.arriveAgainRow.laid w) ∧ sizedMet enc Tryz.prog Tryz.f3 (OpenSpec.ofChange Rows.arriveAgainSpec) false w args) (Rows.arriveAgainSpec.post enc Tryz.prog Tryz.f3 false true false false) := by
  refine GZ (C := Tryz.checked) (X := λw _ => laidMetH Tryz.prog Rows.arriveAgainRow.laid w) (λ_ _ _ hh h => h.of_heap hh) DD started (by kernel_rfl) Tryz.func3
    (ChangeSpec.witness_shaped (enc := enc) (C := Tryz.checked) (os := os) (X := λw _ => laidMetH Tryz.prog Rows.arriveAgainRow.laid w) false (World.laidAll Tryz.prog os Rows.arriveAgainRow.laid) #[.slice none 0 0, .int .i64 0] 8 (World.laidAll_os _ _ _)
      (World.shaped_of_ZipB (by kernel_rfl) (by kernel_rfl)) (by kernel_rfl) (by kernel_rfl) (by kernel_rfl)
      (by rw [MakeChecks.laidMetH_plain _ _ _ (by kernel_rfl)]; exact laidMet_laidAll _ (by kernel_rfl) (by kernel_rfl))) ?_
  intro W base args ds gs before Zl Vk hW hL
  rw [MakeChecks.laidMetH_plain _ _ _ (by kernel_rfl)] at hL
  unfold Rows.arriveAgainRow at hL
  have ut : ∃ V, Cb.mG V W.heap := by
    have e1 : Rows.laid_unicode_utf8_first = Lib.firstData := by kernel_rfl
    have e2 : (Rows.laid_unicode_utf8_acceptRanges : DataW Unit) = Lib.acceptData := by kernel_rfl
    dsimp only at hL
    rw [e1, e2] at hL
    exact Cb.JM.AI (by kernel_rfl) (by kernel_rfl) hL (List.Mem.tail _ (List.Mem.tail _ (List.Mem.tail _ (List.Mem.tail _ (List.Mem.tail _ (List.Mem.tail _ (List.Mem.head _))))))) (List.Mem.tail _ (List.Mem.tail _ (List.Mem.tail _ (List.Mem.head _))))
  have tb : jS.nE W.heap := by
    first | exact jS.nE.AI (by kernel_rfl) hL (.head _) | exact jS.nE.AI (by kernel_rfl) hL (.tail _ (.head _)) | exact jS.nE.AI (by kernel_rfl) hL (.tail _ (.tail _ (.head _)))
  have Wm : ∀ (j : Nat) t v, Tryz.f3.params[j]? = some t → args[j]? = some v → Value.okWide Tryz.prog W .any base t v := Vk
  have Zm := hW
  obtain ⟨p, q, YQ, hV, rfl, Zr, Zs⟩ := hW
  have hA : DataW.TrodAll enc Tryz.prog W 0 (λ_ => true) true Tryz.f3.params.toList args.toList ds p := YQ
  rw [Tryz.params3] at hA Wm
  obtain ⟨v0, Zt, d0, Zu, p0, q0, YR, rfl, rfl, h0, r0⟩ := trodAll_cons hA
  obtain ⟨v1, Zv, d1, Zw, p1, q1, rfl, rfl, rfl, h1, r1⟩ := trodAll_cons r0
  obtain ⟨rfl, rfl, rfl⟩ := trodAll_nil r1
  obtain rfl : args = #[v0, v1] := by cases args; simp_all
  obtain ⟨rfl, rfl⟩ := trodVars_none hV
  have k0 := h0
  have RY : ∀ x ∈ p0, x.block < W.heap.size := by obtain ⟨m, hm⟩ := k0; exact DataW.trod_lt m _ _ _ hm
  have k1 := h1
  have Zn : ∀ x ∈ p1, x.block < W.heap.size := by obtain ⟨m, hm⟩ := k1; exact DataW.trod_lt m _ _ _ hm
  obtain ⟨a0, MD, YB, rfl⟩ := okWide_slice Tryz.underlying22 (Wm 0 22 v0 rfl rfl)
  obtain ⟨a1, rfl, _, _, w1⟩ := open_int Tryz.underlying3 (Wm 1 3 v1 rfl rfl) h1
  clear YQ Vk
  refine (QN.calls (w := W) (arriveAgain_ok a0 MD YB a1 (vy.of k0) w1 tb ut (jS.Mx.Qf Zl))).mono λe W' ⟨he, YC⟩ => ?_
  subst he
  exact ⟨_, rfl, _, _, _, [], _, [], Zm, trodAll_mk1 (shut_bool Tryz.underlying4 _), (trodAll_cons_mk (Below.trod om (by kernel_rfl) (of_decide_eq_true (by kernel_rfl)) k0 YC RY) (trodAll_cons_mk (Below.trod om (by kernel_rfl) (of_decide_eq_true (by kernel_rfl)) k1 YC Zn) trodAll_mk0)), rfl, YC.frame _, λh => by cases h⟩

set_option maxHeartbeats 40000000 in
theorem AM : joinedFacts Tryz.checked.prog 3 Tryz.f3 Rows.arriveAgainSpec Rows.arriveAgainRow = true := by
  unfold joinedFacts
  simp only [Bool.and_eq_true]
  repeat' apply And.intro
  all_goals as_aux_lemma => kernel_rfl

theorem Cu : Rows.arriveAgainRow.holds Tryz.pinned (OpenSpec.ofChange Rows.arriveAgainSpec) :=
  OpenClaim.holds_of_wide 3 Tryz.f3 rfl rfl rfl rfl rfl rfl rfl ⟨rfl, rfl, rfl, rfl, rfl⟩ rfl rfl rfl rfl rfl (by kernel_rfl) Tryz.func3 AM
    (of_decide_eq_true (by kernel_rfl)) (by unfold Func.isWrapper; first | (rw [if_pos (by decide +kernel)]; kernel_rfl) | (rw [if_neg (by decide +kernel)]; exact ⟨rfl, rfl⟩))
    (λos started H enc _ => ze os started H enc)

theorem Gl : Rows.arriveAgainRow.wfByText (OpenSpec.ofChange Rows.arriveAgainSpec) = true := by kernel_rfl
theorem Gm : Tryz.prog.mainIs = some (((true, "92cd74d3ad847f65df22a257602932a8ce249cc23f8ed5a0fb6709f94e915a2e")).1, ((true, "92cd74d3ad847f65df22a257602932a8ce249cc23f8ed5a0fb6709f94e915a2e")).2.toList) := by kernel_rfl
theorem Gn : Tryz.prog.funcNamed Rows.arriveAgainRow.func = some 3 := by kernel_rfl
theorem Gp : true = Tryz.prog.looks [] := by kernel_rfl
theorem Gq : ([22, 3].all λu => !Tryz.prog.wantsStandIn u) = true := by kernel_rfl
theorem Gr : false = Rows.arriveAgainRow.goesBy Tryz.prog := by kernel_rfl
theorem arriveAgain_holds : Rows.ArriveAgainCardSaid :=
  Claim7.holds_tied_plain_at .later [] [.data, .data, .data, .data, .sentinel, .sentinel, .pinned] true (true, "92cd74d3ad847f65df22a257602932a8ce249cc23f8ed5a0fb6709f94e915a2e") true Cu (λ_ h => by cases h) Gl (λ_ h => by cases h) arriveAgain_row_tie rfl ⟨rfl, rfl⟩ Gm rfl
    (λf fn hf Zo => by
      obtain rfl : f = 3 := Option.some.inj (Gn.symm.trans hf) |>.symm
      obtain rfl : fn = Tryz.f3 := (Option.some.inj (Tryz.func3.symm.trans Zo)).symm
      exact ⟨Gp, λj t ht => by
        rw [Tryz.params3] at ht
        have hm : t ∈ [22, 3] := by simpa using Array.mem_of_getElem? ht
        exact (show Tryz.prog.wantsStandIn t = false by simpa using List.all_eq_true.1 Gq t hm)⟩)
    Gr
#print axioms arriveAgain_holds
end Go.Proofs.YtelbcloplcdchaaGreatDoor
