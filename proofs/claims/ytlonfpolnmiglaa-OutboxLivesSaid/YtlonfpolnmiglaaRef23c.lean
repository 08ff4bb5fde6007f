/-
  What is proved here: the document's box (package ref23) in memory: Add. No condition.
-/
import Derived.Test.YtlonfpolnmiglaaRef23b
set_option maxRecDepth 100000
namespace Go.Proofs.Ytlonfpolnmiglaa
open Go.Den Go.Fields
namespace Rbx
open Fld Obx
variable {h h' h0 : Heap} {x : Nat} {X : Ft} {R : Value → Heap → Prop} {p q : Option Addr} {c d i : Nat} {Ls : List RI}

def addE (Ls : List RI) (owner : Int) (d : List UInt8) (till : Nat) : Int := if rightB owner d.length (till : Int) = true then (if cnt Ls 1 ≥ 16 then 15 else 0) else 1
theorem add_ok {owner k : Int} {bs : List UInt8} {n m : Nat} (till : Nat) (hk0 : k = (till : Int)) (H : Rb h x X Ls) (hr : Row h p (bc bs)) (hn : n = bs.length) (hl : bs.length ≤ 1000000) (hnx : Ls.length ≤ 1000000)
    (k1 : addE Ls owner bs till = 0 → ∀ h' X', Rb h' x X' (Ls ++ [⟨⟨Ls.length + 1, owner, bs, till⟩, 1⟩]) → StepF X h X' h' → R (.tuple #[.int .i64 ((Ls.length : Int) + 1), .int .i64 0]) h')
    (k2 : addE Ls owner bs till ≠ 0 → ∀ h', Fr (fun _ => False) h h' → R (.tuple #[.int .i64 0, .int .i64 (addE Ls owner bs till)]) h') :
    CallsH Try.prog F.ref23_Box_Add #[.pointer (some ⟨x, 0, none⟩), .int .i64 owner, .slice p n m, .int .u64 k] h R := by
  subst hk0; subst hn
  have H0 := H
  obtain ⟨lp, lc, xs, H⟩ := H
  have hlen := H.len
  refine ref23_Box_Add.walk (JoinP.of fun J hJ => ?_)
  have no : rightB owner bs.length (till : Int) = false → J true h := by
    intro hf
    subst hJ
    have e : addE Ls owner bs till = 1 := by unfold addE; rw [hf]; rfl
    rw [e] at k2
    exact k2 (by omega) h (Fr.refl _ _)
  have yes : rightB owner bs.length (till : Int) = true → J false h := by
    intro hrt
    subst hJ
    simp only [Bool.false_eq_true, if_false]
    refine there_ok H0 hnx fun h2 p2 c2 ys o2 g2 hab hdy f2 => ⟨_, _, _, rfl, ?_⟩
    have hyl : ys.length = cnt Ls 1 := by
      unfold cnt
      rw [← hab, List.length_map]
    have H2 := H.on f2
    by_cases hfull : cnt Ls 1 ≥ 16
    · have q : ((ys.length : Nat) : Int) ≥ 16 := by omega
      have e : addE Ls owner bs till = 15 := by unfold addE; rw [hrt, if_pos rfl, if_pos hfull]
      rw [e] at k2
      simp only [q, decide_true, if_true]
      exact k2 (by omega) h2 f2
    · have q : ¬ ((ys.length : Nat) : Int) ≥ 16 := by omega
      have e : addE Ls owner bs till = 0 := by unfold addE; rw [hrt, if_pos rfl, if_neg hfull]
      have k1 := k1 e
      clear k2 hab hdy o2 g2
      simp only [q, decide_false, Bool.false_eq_true, if_false]
      refine ⟨_, _, _, cell_at H2.blk rfl, ref23_Item.new fun b1 h8 eb1 hb1 f8 => ⟨_, _, _, cell_at hb1 rfl, ?_⟩⟩
      have z2 := f2.1
      have z8 := f8.1
      have l1 := lt_of_get hb1
      have F8 : Fr (fun _ => False) h h8 := f2.tt f8
      refine den_append tU uU (cs := []) (.nil rfl rfl rfl rfl) (hr.frame F8 (fun _ _ => id)) (by rw [bc_len, Nat.mul_one]) (bc_one bs) (by omega) (by omega) fun p9 c9 h9 o9 _ f9 g9 => ⟨_, _, _, rfl, ?_⟩
      rw [Nat.zero_add, List.nil_append] at o9
      rw [Nat.zero_add]
      have f9' : Fr (fun _ => False) h8 h9 := f9.mono (fun y _ ⟨a, e, _⟩ => by cases e)
      have g9' : ∀ y, inBlk p9 y → h8.size ≤ y := fun y hy => (g9 y hy).elim (fun ⟨a, e, _⟩ => by cases e) id
      have hb9 := f9'.get hb1 id
      refine storeP_blk hb9 (by simp) fun h10 a1 a2 a3 => ?_
      have f10 : Fr (fun y => y = b1) h9 h10 := Fr.of_eq a2 a3
      have F10 : Fr (fun _ => False) h h10 := (F8.tt f9').fresh f10 (fun y e => by omega)
      have H10 := H.on F10
      have hw : IntKind.wrap .i64 (((xs.length : Nat) : Int) + 1) = ((Ls.length + 1 : Nat) : Int) := by rw [wrap_id (by omega) (by omega)]; omega
      have hb10 : ref23_Item.at h10 b1 ((Ls.length + 1 : Nat) : Int) owner p9 bs.length c9 (till : Int) 1 := by
        show h10[b1]? = _
        rw [a1, ← hw]; rfl
      refine ⟨_, _, _, cell_at H10.blk rfl, ref23_Item.ld hb10 ?_⟩
      refine newP_of ⟨cell_at (H10.on (Fr.push (S := fun _ => False) h10 _)).blk rfl, ?_⟩
      have f11 : Fr (fun _ => False) h10 (h10.push (.cells #[.int .i64 ((Ls.length + 1 : Nat) : Int), .int .i64 owner, .slice p9 bs.length c9, .int .u64 (till : Int), .int .i64 1] T.ref23_Item)) := Fr.push _ _
      have r11 : Row (h10.push (.cells #[.int .i64 ((Ls.length + 1 : Nat) : Int), .int .i64 owner, .slice p9 bs.length c9, .int .u64 (till : Int), .int .i64 1] T.ref23_Item)) (some ⟨h10.size, 0, none⟩) [.int .i64 ((Ls.length + 1 : Nat) : Int), .int .i64 owner, .slice p9 bs.length c9, .int .u64 (till : Int), .int .i64 1] := row_new
      generalize h10.push (.cells #[.int .i64 ((Ls.length + 1 : Nat) : Int), .int .i64 owner, .slice p9 bs.length c9, .int .u64 (till : Int), .int .i64 1] T.ref23_Item) = h11 at f11 r11 ⊢
      have H11 := H10.on f11
      have hb11 : ref23_Item.at h11 b1 ((Ls.length + 1 : Nat) : Int) owner p9 bs.length c9 (till : Int) 1 := f11.get hb10 id
      refine den_append tR uR H11.own r11 rfl (fun v hv => by simp at hv; rcases hv with rfl | rfl | rfl | rfl | rfl <;> rfl) (by omega) (by omega) fun p12 c12 h12 o12 _ f12 g12 => ⟨_, _, _, rfl, ?_⟩
      have z9 := f9'.1
      have z11 := f11.1
      have z12 := f12.1
      have lb := lt_of_get H.blk
      have k12 := f12.get H11.blk H.bl
      refine storeP_blk k12 (by simp) fun h13 d1 d2 d3 => ?_
      have f13 : Fr (fun y => y = x) h12 h13 := Fr.of_eq d2 d3
      have nlp : ∀ y, h.size ≤ y → ¬ inBlk lp y := fun y hy hx => by have := H.own.blk_lt hx; omega
      have hb13 : ref23_Item.at h13 b1 ((Ls.length + 1 : Nat) : Int) owner p9 bs.length c9 (till : Int) 1 := (d3 b1 (by omega)).trans (f12.get hb11 (nlp b1 (by omega)))
      refine ⟨_, cell_at hb13 rfl, ?_⟩
      rw [show ((Ls.length + 1 : Nat) : Int) = (Ls.length : Int) + 1 by omega]
      have F11 : Fr (fun _ => False) h h11 := F10.tt f11
      have F13 : Fr X.M h h13 := ((Fr.no F11 f12).mono (fun y _ hx => (H.m y).2 (.inr hx))).tt (f13.mono (fun y _ e => (H.m y).2 (.inl e)))
      have p9y : ∀ y, inBlk p9 y → h8.size ≤ y ∧ y < h9.size := fun y hy => ⟨g9' y hy, o9.blk_lt hy⟩
      have p12y : ∀ y, inBlk p12 y → inBlk lp y ∨ h11.size ≤ y := g12
      have o13 : Own h13 p9 bs.length c9 1 (bc bs) := (((o9.frame f10 (fun y hy e => by have := p9y y hy; omega)).frame f11 (fun _ _ => id)).frame f12 (fun y hy hx => nlp y (by have := p9y y hy; omega) hx)).frame f13 (fun y hy e => by have := p9y y hy; omega)
      have cat : xs.flatMap renc ++ [.int .i64 ((Ls.length + 1 : Nat) : Int), .int .i64 owner, .slice p9 bs.length c9, .int .u64 (till : Int), .int .i64 1] = (xs ++ [(⟨Ls.length + 1, owner, ⟨p9, c9, bs⟩, till, 1⟩ : RV)]).flatMap renc := by rw [List.flatMap_append]; simp
      have ln : (xs ++ [(⟨Ls.length + 1, owner, ⟨p9, c9, bs⟩, till, 1⟩ : RV)]).length = xs.length + 1 := by rw [List.length_append]; rfl
      have nx12 : ∀ y, inBlk p12 y → y ≠ x := fun y hy e => (p12y y hy).elim (fun h1 => H.bl (e ▸ h1)) (fun h1 => by omega)
      refine k1 h13 ⟨fun y => y = x ∨ inBlk p12 y, fun y => X.D y ∨ inBlk p9 y⟩ ⟨p12, c12, xs ++ [⟨Ls.length + 1, owner, ⟨p9, c9, bs⟩, till, 1⟩], ⟨?_, ?_, ?_, ?_, fun _ => Iff.rfl, fun hx => nx12 x hx rfl, ?_, ?_⟩⟩ ⟨F13, ?_, ?_, fun _ => .inl⟩
      · rw [d1, ln]; rfl
      · rw [ln, ← cat]; exact o12.frame f13 nx12
      · rw [List.map_append, H.abs]; rfl
      · intro v hv
        rcases List.mem_append.1 hv with hv | hv
        · exact ((H.dat v hv).frame F13 (fun y hd hm => H.dis y hm hd)).mono (fun y => .inl)
        · obtain rfl := List.mem_singleton.1 hv
          exact BV.of_own o13 (fun y => .inr)
      · rintro y hy (hd | hd)
        · rcases hy with rfl | hy
          · exact H.dis _ ((H.m _).2 (.inl rfl)) hd
          · exact (p12y y hy).elim (fun h1 => H.dis _ ((H.m _).2 (.inr h1)) hd) (fun h1 => by have := H.dlt y hd; omega)
        · have hp := p9y y hd
          rcases hy with rfl | hy
          · omega
          · exact (p12y y hy).elim (fun h1 => nlp y (by omega) h1) (fun h1 => by omega)
      · rintro y (hd | hd)
        · exact Nat.lt_of_lt_of_le (H.dlt y hd) F13.1
        · have := p9y y hd; omega
      · rintro y (rfl | hy)
        · exact .inl ((H.m _).2 (.inl rfl))
        · exact (p12y y hy).imp (fun h1 => (H.m _).2 (.inr h1)) (fun h1 => by omega)
      · rintro y (hy | hy)
        · exact .inl hy
        · exact .inr (by have := p9y y hy; omega)
  by_cases h1 : owner < 1
  · simp only [h1, decide_true, if_true]
    exact no (by simp [rightB, show ¬ 1 ≤ owner by omega])
  simp only [h1, decide_false, Bool.false_eq_true, if_false]
  by_cases h2 : owner > 1099511627776
  · simp only [h2, decide_true, if_true]
    exact no (by simp [rightB, show ¬ owner ≤ 1099511627776 by omega])
  simp only [h2, decide_false, Bool.false_eq_true, if_false]
  by_cases h3 : ((bs.length : Nat) : Int) < 1
  · simp only [h3, decide_true, if_true]
    exact no (by simp [rightB, show ¬ 1 ≤ bs.length by omega])
  simp only [h3, decide_false, Bool.false_eq_true, if_false]
  by_cases h4 : ((bs.length : Nat) : Int) > 600
  · simp only [h4, decide_true, if_true]
    exact no (by simp [rightB, show ¬ bs.length ≤ 600 by omega])
  simp only [h4, decide_false, Bool.false_eq_true, if_false]
  by_cases h5 : (till : Int) > 1099511627776
  · simp only [h5, decide_true]
    exact no (by simp only [rightB, show ¬ (till : Int) ≤ 1099511627776 by omega, decide_false, Bool.and_false])
  · simp only [h5, decide_false]
    exact yes (rightB_iff.2 ⟨by omega, by omega, by omega, by omega, by omega⟩)
end Rbx
end Go.Proofs.Ytlonfpolnmiglaa
