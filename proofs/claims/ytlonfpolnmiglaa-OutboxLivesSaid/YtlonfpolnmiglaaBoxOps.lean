/-
  What is proved here: what Add, Cancel, Take, Pass and Counts of package outbox do. No condition.
-/
import Derived.Test.YtlonfpolnmiglaaBoxP
set_option maxRecDepth 100000
namespace Go.Proofs.Ytlonfpolnmiglaa
open Go.Den Go.Fields Go.Heapq
namespace Obx
open Fld
variable {h h' h0 : Heap} {b : Nat} {X : Ft} {R : Value → Heap → Prop} {p q : Option Addr} {c d i : Nat} {L : List E} {s : BS}

/-- b is a box that says s -/
def Box (h : Heap) (b : Nat) (X : Ft) (s : BS) : Prop := ∃ L, Bx h b X s L ∧ okB s L
theorem Box.frame {Q : Nat → Prop} (H : Box h b X s) (f : Fr Q h h') (hq : ∀ y, X.M y ∨ X.D y → ¬ Q y) : Box h' b X s := by
  obtain ⟨L, H, ok⟩ := H
  exact ⟨L, H.frame f hq, ok⟩
theorem Box.on (H : Box h b X s) (f : Fr (fun _ => False) h h') : Box h' b X s := H.frame f (fun _ _ => id)
theorem Box.lt (H : Box h b X s) (y : Nat) (hy : X.M y ∨ X.D y) : y < h.size := by
  obtain ⟨L, H, ok⟩ := H
  exact H.lt y hy
theorem Mm.okL {lp : Option Addr} {lc a : Nat} {xs : List IV} {S : Nat → Prop} (H : Mm h b X s L lp lc xs a S) (ok : okB s L) : L.length < 1000 ∧ xs.length ≤ 16 := by
  have h1 := ok.pm.length_eq
  rw [List.length_map] at h1
  have := ok.le
  have := H.len
  omega

def addE (s : BS) (owner : Int) (d : List UInt8) (till : Nat) : Int := if rightB owner d.length (till : Int) = true then (if s.items.length ≥ 16 then 15 else 0) else 1
def addN (s : BS) (owner : Int) (d : List UInt8) (till : Nat) : Int := if addE s owner d till = 0 then (s.next : Int) else 0
def addS (s : BS) (owner : Int) (d : List UInt8) (till : Nat) : BS := if addE s owner d till = 0 then { s with items := s.items ++ [⟨s.next, owner, d, till⟩], next := s.next + 1 } else s
theorem add_ok {owner k : Int} {bs : List UInt8} {n m : Nat} (till : Nat) (hk0 : k = (till : Int)) (H : Box h b X s) (hr : Row h p (bc bs)) (hn : n = bs.length) (hl : bs.length ≤ 1000000) (hnx : s.next ≤ 1000000000)
    (hk : ∀ h' X', Box h' b X' (addS s owner bs till) → StepF X h X' h' → R (.tuple #[.int .i64 (addN s owner bs till), .int .i64 (addE s owner bs till)]) h') :
    CallsH Try.prog F.outbox_Box_Add #[.pointer (some ⟨b, 0, none⟩), .int .i64 owner, .slice p n m, .int .u64 k] h R := by
  subst hk0; subst hn
  obtain ⟨L, ⟨lp, lc, xs, a, S, H⟩, ok⟩ := H
  obtain ⟨hL, hxl⟩ := H.okL ok
  have hlen := H.len
  refine outbox_Box_Add.walk (made_ok H ⟨_, rfl, ?_⟩)
  simp only [Bool.not_true, Bool.false_eq_true, if_false]
  refine ⟨_, cell_at H.blk rfl, copied_ok hr rfl (by omega) fun h2 p2 c2 o2 f2 g2 => ⟨_, _, _, _, _, _, rfl, ?_⟩⟩
  refine outbox_Item.new fun b1 h7 eb1 hb1 f7 => outbox_Item.ld hb1 (right_ok fun h8 f8 => ⟨_, rfl, ?_⟩)
  have F8 : Fr (fun _ => False) h h8 := f2.tt (f7.tt f8)
  have H8 := H.on F8
  have z2 := f2.1
  have z7 := f7.1
  have z8 := f8.1
  have l1 := lt_of_get hb1
  unfold addS addN at hk
  cases hrt : rightB owner bs.length (till : Int) with
  | false =>
    have e : addE s owner bs till = 1 := by unfold addE; rw [hrt]; rfl
    rw [e] at hk
    simp only [Bool.not_false, if_true]
    exact hk h8 X ⟨L, ⟨lp, lc, xs, a, S, H8⟩, ok⟩ (StepF.of_no F8)
  | true =>
    simp only [Bool.not_true, Bool.false_eq_true, if_false]
    refine ⟨_, _, _, cell_at H8.blk rfl, ?_⟩
    by_cases hfull : s.items.length ≥ 16
    · have q : ((xs.length : Nat) : Int) ≥ 16 := by omega
      have e : addE s owner bs till = 15 := by unfold addE; rw [hrt, if_pos rfl, if_pos hfull]
      rw [e] at hk
      simp only [q, decide_true, if_true]
      exact hk h8 X ⟨L, ⟨lp, lc, xs, a, S, H8⟩, ok⟩ (StepF.of_no F8)
    · have q : ¬ ((xs.length : Nat) : Int) ≥ 16 := by omega
      have e : addE s owner bs till = 0 := by unfold addE; rw [hrt, if_pos rfl, if_neg hfull]
      rw [e] at hk
      simp only [if_true] at hk
      simp only [q, decide_false, Bool.false_eq_true, if_false]
      have hb8 : outbox_Item.at h8 b1 (s.next : Int) owner p2 bs.length c2 (till : Int) := f8.get hb1 id
      refine ⟨_, _, _, cell_at H8.blk rfl, outbox_Item.ld hb8 ?_⟩
      refine newP_of ⟨cell_at (H8.on (Fr.push (S := fun _ => False) h8 _)).blk rfl, ?_⟩
      have f9 : Fr (fun _ => False) h8 (h8.push (.cells #[.int .i64 (s.next : Int), .int .i64 owner, .slice p2 bs.length c2, .int .u64 (till : Int)] T.outbox_Item)) := Fr.push _ _
      have r9 : Row (h8.push (.cells #[.int .i64 (s.next : Int), .int .i64 owner, .slice p2 bs.length c2, .int .u64 (till : Int)] T.outbox_Item)) (some ⟨h8.size, 0, none⟩) [.int .i64 (s.next : Int), .int .i64 owner, .slice p2 bs.length c2, .int .u64 (till : Int)] := row_new
      generalize h8.push (.cells #[.int .i64 (s.next : Int), .int .i64 owner, .slice p2 bs.length c2, .int .u64 (till : Int)] T.outbox_Item) = h9 at f9 r9 ⊢
      have H9 := H8.on f9
      have hb9 : outbox_Item.at h9 b1 (s.next : Int) owner p2 bs.length c2 (till : Int) := f9.get hb8 id
      refine den_append tI uI H9.own r9 rfl (fun v hv => by simp at hv; rcases hv with rfl | rfl | rfl | rfl <;> rfl) (by omega) (by omega) fun p10 c10 h10 o10 _ f10 g10 => ⟨_, _, _, rfl, ?_⟩
      have z9 := f9.1
      have z10 := f10.1
      have lb := lt_of_get H.blk
      have k10 := f10.get H9.blk H.bl
      refine storeP_blk k10 (by simp) fun h11 a1 a2 a3 => ?_
      have f11 : Fr (fun y => y = b) h10 h11 := Fr.of_eq a2 a3
      refine ⟨_, cell_at a1 rfl, storeP_blk a1 (by simp) fun h12 d1 d2 d3 => ?_⟩
      have f12 : Fr (fun y => y = b) h11 h12 := Fr.of_eq d2 d3
      have nlp : ∀ y, h.size ≤ y → ¬ inBlk lp y := fun y hy hx => by have := H.own.blk_lt hx; omega
      have hb10 : outbox_Item.at h10 b1 (s.next : Int) owner p2 bs.length c2 (till : Int) := f10.get hb9 (nlp b1 (by omega))
      have hb12 : outbox_Item.at h12 b1 (s.next : Int) owner p2 bs.length c2 (till : Int) := (d3 b1 (by omega)).trans ((a3 b1 (by omega)).trans hb10)
      have A12 : Alarm.Al h12 a S L := ((H9.al.frame f10 (fun y hy hx => H.ls y hx hy)).frame f11 (fun y hy e => H.bs (e ▸ hy))).frame f12 (fun y hy e => H.bs (e ▸ hy))
      refine ⟨_, cell_at d1 rfl, _, cell_at hb12 rfl, ?_⟩
      rw [rightB_iff] at hrt
      have hmay : Alarm.may (s.next : Int) (till : Int) = true := Alarm.may_iff.2 ⟨by have := ok.cnt; omega, by omega, hrt.2.2.2.2⟩
      refine Alarm.set_ok A12 (by omega) _ _ (by omega) (fun _ h13 S13 A13 g13 f13 => ⟨_, rfl, ?_⟩) (fun hf => by rw [hmay] at hf; cases hf)
      have nS : ∀ y, h.size ≤ y → ¬ S y := fun y hy hs => by have := H.al.lt hs; omega
      refine ⟨_, cell_at (f13.get hb12 (nS b1 (by omega))) rfl, ?_⟩
      have F9 : Fr (fun _ => False) h h9 := F8.tt f9
      have z12 : h10.size ≤ h12.size := by omega
      have F10 : Fr (inBlk lp) h h10 := Fr.no F9 f10
      have F12 : Fr (fun y => inBlk lp y ∨ y = b) h h12 := ((F10.mono (fun _ _ hx => .inl hx)).tt (f11.mono (fun _ _ hx => .inr hx))).tt (f12.mono (fun _ _ hx => .inr hx))
      have F13 : Fr X.M h h13 := ((F12.mono (fun y _ hx => (H.m y).2 (hx.elim (fun h => .inr (.inl h)) .inl))).tt (f13.mono (fun y _ hx => (H.m y).2 (.inr (.inr hx)))))
      have p2y : ∀ y, inBlk p2 y → h.size ≤ y ∧ y < h2.size := fun y hy => ⟨g2 y hy, o2.blk_lt hy⟩
      have p10y : ∀ y, inBlk p10 y → inBlk lp y ∨ h2.size ≤ y := fun y hy => (g10 y hy).imp id (fun h1 => by omega)
      have p10lt : ∀ y, inBlk p10 y → y < h12.size := fun y hy => by have := o10.blk_lt hy; omega
      have o13 : Own h13 p2 bs.length c2 1 (bc bs) := by
        have F2_13 : Fr X.M h2 h13 := by
          refine ⟨by have := F13.1; have := f13.1; omega, fun y hy hn => ?_⟩
          have e1 : h13[y]? = h12[y]? := f13.2 y (by omega) (fun hx => hn ((H.m y).2 (.inr (.inr hx))))
          have e2 : h12[y]? = h11[y]? := f12.2 y (by omega) (fun e => hn ((H.m y).2 (.inl e)))
          have e3 : h11[y]? = h10[y]? := f11.2 y (by omega) (fun e => hn ((H.m y).2 (.inl e)))
          have e4 : h10[y]? = h9[y]? := f10.2 y (by omega) (fun e => hn ((H.m y).2 (.inr (.inl e))))
          have e5 : h9[y]? = h2[y]? := (f7.tt (f8.tt f9)).2 y (by omega) id
          rw [e1, e2, e3, e4, e5]
        exact o2.frame F2_13 (fun y hy hm => by have := H.lt y (.inl hm); have := p2y y hy; omega)
      have dlt13 : ∀ y, X.D y ∨ inBlk p2 y → y < h13.size := fun y hy => hy.elim (fun h1 => Nat.lt_of_lt_of_le (H.dlt y h1) F13.1) (fun h1 => by have := p2y y h1; have := f13.1; omega)
      have cat : xs.flatMap ienc ++ [.int .i64 (s.next : Int), .int .i64 owner, .slice p2 bs.length c2, .int .u64 (till : Int)] = (xs ++ [(⟨s.next, owner, ⟨p2, c2, bs⟩, till⟩ : IV)]).flatMap ienc := by rw [List.flatMap_append]; simp
      have ln : (xs ++ [(⟨s.next, owner, ⟨p2, c2, bs⟩, till⟩ : IV)]).length = xs.length + 1 := by rw [List.length_append]; rfl
      have nb10 : ∀ y, inBlk p10 y → y ≠ b := fun y hy e => (p10y y hy).elim (fun h1 => H.bl (e ▸ h1)) (fun h1 => by omega)
      have S13M : ∀ y, S13 y → X.M y ∨ h12.size ≤ y := fun y hy => (g13 y hy).imp (fun h1 => (H.m y).2 (.inr (.inr h1))) id
      refine hk h13 ⟨fun y => y = b ∨ inBlk p10 y ∨ S13 y, fun y => X.D y ∨ inBlk p2 y⟩ ⟨_, ⟨p10, c10, xs ++ [⟨s.next, owner, ⟨p2, c2, bs⟩, till⟩], a, S13, ⟨?_, ?_, A13, ?_, ?_, fun _ => Iff.rfl, fun hx => nb10 b hx rfl, ?_, ?_, ?_, dlt13⟩⟩, ?_⟩ ⟨F13, ?_, ?_, fun _ => .inl⟩
      · have k13 := f13.get d1 H.bs
        rw [k13]
        dsimp only
        rw [ln, wrap_id (by omega) (by omega)]; rfl
      · rw [ln, ← cat]
        exact ((o10.frame f11 nb10).frame f12 nb10).frame f13 (fun y hy hs => (p10y y hy).elim (fun h1 => H.ls y h1 hs) (fun h1 => nS y (by omega) hs))
      · rw [List.map_append, H.abs]; rfl
      · intro v hv
        rcases List.mem_append.1 hv with hv | hv
        · exact ((H.dat v hv).frame F13 (fun y hd hm => H.dis y hm hd)).mono (fun y => .inl)
        · obtain rfl := List.mem_singleton.1 hv
          exact BV.of_own o13 (fun y => .inr)
      · intro hs; exact (g13 b hs).elim H.bs (fun h1 => by omega)
      · intro y hy hs
        rcases g13 y hs with h1 | h1
        · exact (p10y y hy).elim (fun h2 => H.ls y h2 h1) (fun h2 => nS y (by omega) h1)
        · have := p10lt y hy; omega
      · rintro y hy (hd | hd)
        · rcases hy with rfl | hy | hy
          · exact H.dis _ ((H.m _).2 (.inl rfl)) hd
          · exact (p10y y hy).elim (fun h1 => H.dis _ ((H.m _).2 (.inr (.inl h1))) hd) (fun h1 => by have := H.dlt y hd; omega)
          · exact (S13M y hy).elim (fun h1 => H.dis _ h1 hd) (fun h1 => by have := H.dlt y hd; omega)
        · have hp2 := p2y y hd
          rcases hy with rfl | hy | hy
          · omega
          · exact (p10y y hy).elim (fun h1 => nlp y hp2.1 h1) (fun h1 => by omega)
          · exact (S13M y hy).elim (fun h1 => by have := H.lt y (.inl h1); omega) (fun h1 => by omega)
      · have hnk : (s.next : Int) ∉ keys L := by
          intro hm
          obtain ⟨e, he, ek⟩ := List.mem_map.1 hm
          obtain ⟨x, hx, rfl⟩ := List.mem_map.1 (ok.pm.mem_iff.1 he)
          have := (ok.it x hx).2.1
          have ek : (x.num : Int) = (s.next : Int) := ek
          omega
        refine ⟨?_, ?_, ?_, ?_, ?_⟩
        · show (s.items ++ [_]).length ≤ 16
          rw [List.length_append, List.length_singleton]; omega
        · unfold Alarm.setL
          rw [dropK_none hnk]
          refine (insertS_perm _ _).trans ?_
          show List.Perm (((s.next : Int), (till : Int)) :: L) ((s.items ++ [(⟨s.next, owner, bs, till⟩ : It)]).map It.kv)
          rw [List.map_append]
          exact (List.Perm.cons _ ok.pm).trans (List.perm_append_singleton _ _).symm
        · intro x hx
          rcases List.mem_append.1 hx with hx | hx
          · have := ok.it x hx; exact ⟨this.1, by show x.num < s.next + 1; omega, this.2.2⟩
          · obtain rfl := List.mem_singleton.1 hx
            exact ⟨by show 1 ≤ s.next; have := ok.cnt; omega, by show s.next < s.next + 1; omega, hrt.2.2.1, hrt.2.2.2.1, hrt.1, hrt.2.1, by have := hrt.2.2.2.2; show till ≤ _; omega⟩
        · show ((s.items ++ [_]).map It.num).Pairwise (· < ·)
          rw [List.map_append, List.pairwise_append]
          refine ⟨ok.inc, by simp, fun y hy z hz => ?_⟩
          simp at hz
          subst hz
          obtain ⟨x, hx, rfl⟩ := List.mem_map.1 hy
          exact (ok.it x hx).2.1
        · show s.next + 1 = 1 + (s.items ++ [_]).length + s.taken + s.canc + s.over
          rw [List.length_append, List.length_singleton]
          have := ok.cnt; omega
      · rintro y (rfl | hy | hy)
        · exact .inl ((H.m _).2 (.inl rfl))
        · exact (p10y y hy).imp (fun h1 => (H.m _).2 (.inr (.inl h1))) (fun h1 => by omega)
        · exact (S13M y hy).imp id (fun h1 => by omega)
      · rintro y (hy | hy)
        · exact .inl hy
        · exact .inr (p2y y hy).1
end Obx
end Go.Proofs.Ytlonfpolnmiglaa
