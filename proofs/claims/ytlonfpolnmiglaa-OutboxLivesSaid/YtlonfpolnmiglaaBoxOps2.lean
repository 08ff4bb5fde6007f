/-
  What is proved here: what Cancel, Take, Pass and Counts of package outbox do. No condition.
-/
import Derived.Test.YtlonfpolnmiglaaBoxOps
set_option maxRecDepth 100000
namespace Go.Proofs.Ytlonfpolnmiglaa
open Go.Den Go.Fields Go.Heapq
namespace Obx
open Fld
variable {h h' h0 : Heap} {b : Nat} {X : Ft} {R : Value → Heap → Prop} {p q : Option Addr} {c d i : Nat} {L : List E} {s : BS}

def cancE (s : BS) (num owner : Int) : Int := match idxI s.items num with | none => 4 | some i => (match s.items[i]? with | some x => if x.owner = owner then 0 else 13 | none => 4)
def cancS (s : BS) (num owner : Int) : BS := if cancE s num owner = 0 then { s with items := delI s.items num, canc := s.canc + 1 } else s
/-- a field of a box changes -/
theorem Mm.field {s' : BS} {lp : Option Addr} {lc a : Nat} {xs : List IV} {S : Nat → Prop} (H : Mm h b X s L lp lc xs a S) (hi : s'.items = s.items)
    (hb : h'[b]? = some (.cells #[.slice lp xs.length lc, .int .i64 (s'.next : Int), .int .i64 (s'.taken : Int), .int .i64 (s'.canc : Int), .int .i64 (s'.over : Int), .pointer (some ⟨a, 0, none⟩)] T.outbox_Box (0, 0)))
    (f : Fr (fun y => y = b) h h') : Mm h' b X s' L lp lc xs a S ∧ StepF X h X h' := by
  have hX : ∀ y, X.D y → y ≠ b := fun y hd e => H.dis b ((H.m b).2 (.inl rfl)) (e ▸ hd)
  refine ⟨⟨hb, H.own.frame f (fun y hy e => H.bl (e ▸ hy)), H.al.frame f (fun y hy e => H.bs (e ▸ hy)), H.abs.trans hi.symm, fun x hx => (H.dat x hx).frame f (fun y hd e => hX y hd e), H.m, H.bl, H.bs, H.ls, H.dis, fun y hy => Nat.lt_of_lt_of_le (H.dlt y hy) f.1⟩, StepF.of_fr (f.mono (fun y _ e => (H.m y).2 (.inl e)))⟩
theorem abs_get {lp : Option Addr} {lc a : Nat} {xs : List IV} {S : Nat → Prop} (H : Mm h b X s L lp lc xs a S) {x : It} (hx : s.items[i]? = some x) : ∃ v, xs[i]? = some v ∧ v.abs = x := by
  rw [← H.abs, List.getElem?_map] at hx
  cases hv : xs[i]? with
  | none => rw [hv] at hx; cases hx
  | some v => rw [hv] at hx; exact ⟨v, rfl, Option.some.inj hx⟩
theorem del_len {items : List It} {x : It} (hp : (items.map It.num).Pairwise (· < ·)) (hx : items[i]? = some x) : (delI items (x.num : Int)).length + 1 = items.length := by
  have hi := (List.getElem?_eq_some_iff.1 hx).1
  rw [← cutI_del hp hx]
  unfold cutI
  rw [List.length_append, List.length_take, List.length_drop]
  omega
theorem okB.del {x : It} {t c o : Nat} (ok : okB s L) (hx : s.items[i]? = some x) (hc : t + c + o = s.taken + s.canc + s.over + 1) : okB ⟨delI s.items (x.num : Int), s.next, t, c, o⟩ (dropK L (x.num : Int)) := by
  refine ok.sub List.filter_sublist (del_perm ok.pm) ?_
  have := del_len ok.inc hx
  have := ok.cnt
  omega
theorem cancel_ok {num owner : Int} (H : Box h b X s) (hnx : s.next ≤ 1000000000) (hk : ∀ h' X', Box h' b X' (cancS s num owner) → StepF X h X' h' → R (.int .i64 (cancE s num owner)) h') :
    CallsH Try.prog F.outbox_Box_Cancel #[.pointer (some ⟨b, 0, none⟩), .int .i64 num, .int .i64 owner] h R := by
  obtain ⟨L, ⟨lp, lc, xs, a, S, H⟩, ok⟩ := H
  obtain ⟨hL, hxl⟩ := H.okL ok
  have hlen := H.len
  have hle := ok.le
  refine outbox_Box_Cancel.walk (made_ok H ⟨_, rfl, ?_⟩)
  simp only [Bool.not_true, Bool.false_eq_true, if_false]
  refine find_ok H (by omega) fun h2 f2 => ⟨_, rfl, ?_⟩
  have H2 := H.on f2
  unfold cancS at hk
  cases hidx : idxI s.items num with
  | none =>
    have e : cancE s num owner = 4 := by unfold cancE; rw [hidx]
    rw [e] at hk
    have ev : idxV s.items num = -1 := by unfold idxV; rw [hidx]
    rw [ev, if_pos (by decide)]
    exact hk h2 X ⟨L, ⟨lp, lc, xs, a, S, H2⟩, ok⟩ (StepF.of_no f2)
  | some i =>
    obtain ⟨x, hx, hnum⟩ := idx_some hidx
    have ev : idxV s.items num = (i : Int) := by unfold idxV; rw [hidx]
    have hi := (List.getElem?_eq_some_iff.1 hx).1
    obtain ⟨v, hv, hva⟩ := abs_get H hx
    have q : ¬ (i : Int) < 0 := by omega
    rw [ev]
    simp only [q, decide_false, Bool.false_eq_true, if_false, Int.toNat_natCast]
    obtain ⟨ab, aoff, rfl⟩ := H2.own.addr (by omega)
    have hc := (H2.own.heldAt ienc_len hv).2.1
    refine ⟨_, _, _, cell_at H2.blk rfl, ⟨by omega, by omega⟩, onSome_some.2 ⟨v.owner, hc, ?_⟩⟩
    have hvo : v.owner = x.owner := by rw [← hva]; rfl
    by_cases ho : x.owner = owner
    · have e : cancE s num owner = 0 := by unfold cancE; rw [hidx]; dsimp only; rw [hx]; dsimp only; rw [if_pos ho]
      rw [e] at hk
      simp only [if_true] at hk
      rw [if_neg (by rw [hvo, ho]; simp)]
      refine cut_ok H2 (by omega) hL hv fun h3 X3 B3 s3 _ => ⟨_, _, _, _, _, _, rfl, ?_⟩
      obtain ⟨lp3, lc3, xs3, a3, S3, H3⟩ := B3
      refine ⟨_, cell_at H3.blk rfl, storeP_blk H3.blk (by simp) fun h4 a1 a2 a3' => ?_⟩
      have f4 : Fr (fun y => y = b) h3 h4 := Fr.of_eq a2 a3'
      have hcnt := ok.cnt
      have vn : (v.num : Int) = num := by rw [← hnum, ← hva]; rfl
      have ec : cutI s.items i = delI s.items num := by rw [← hnum]; exact cutI_del ok.inc hx
      obtain ⟨H4, s4⟩ := H3.field (s' := ⟨delI s.items num, s.next, s.taken, s.canc + 1, s.over⟩) (h' := h4) ec.symm (by
        rw [a1]
        dsimp only
        rw [wrap_id (by omega) (by omega)]; rfl) f4
      rw [vn] at H4
      refine hk h4 X3 ⟨dropK L num, ⟨lp3, lc3, xs3, a3, S3, H4⟩, ?_⟩ ((StepF.of_no f2).trans (s3.trans s4))
      have := ok.del (t := s.taken) (c := s.canc + 1) (o := s.over) hx (by omega)
      rwa [hnum] at this
    · have e : cancE s num owner = 13 := by unfold cancE; rw [hidx]; dsimp only; rw [hx]; dsimp only; rw [if_neg ho]
      rw [e] at hk
      rw [if_pos (by rw [hvo]; simpa using ho)]
      exact hk h2 X ⟨L, ⟨_, lc, xs, a, S, H2⟩, ok⟩ (StepF.of_no f2)

/-- the first item goes -/
theorem take_ok (H : Box h b X s) (hnx : s.next ≤ 1000000000)
    (k1 : s.items = [] → ∀ h', Box h' b X s → Fr (fun _ => False) h h' → R (.tuple #[.agg #[.int .i64 0, .int .i64 0, .slice none 0 0, .int .u64 0], .int .i64 4]) h')
    (k2 : ∀ x r, s.items = x :: r → ∀ h' X' (v : IV), v.abs = x → Box h' b X' { s with items := r, taken := s.taken + 1 } → StepF X h X' h' → v.v.ok h' X'.D → R (.tuple #[v.agg, .int .i64 0]) h') :
    CallsH Try.prog F.outbox_Box_Take #[.pointer (some ⟨b, 0, none⟩)] h R := by
  obtain ⟨L, ⟨lp, lc, xs, a, S, H⟩, ok⟩ := H
  obtain ⟨hL, hxl⟩ := H.okL ok
  have hlen := H.len
  have hle := ok.le
  have hcnt := ok.cnt
  refine outbox_Box_Take.walk (outbox_Item.box fun b1 h1 eb1 hb1 f1 => ?_)
  have H1 := H.on f1
  refine made_ok H1 ⟨_, rfl, ?_⟩
  simp only [Bool.not_true, Bool.false_eq_true, if_false]
  refine ⟨_, _, _, cell_at H1.blk rfl, ?_⟩
  cases hit : s.items with
  | nil =>
    have hx0 : xs.length = 0 := by rw [hlen, hit]; rfl
    rw [if_pos (by rw [hx0]; rfl)]
    refine outbox_Item.set hb1 fun h6 d1 d2 d3 => outbox_Item.ld d1 ?_
    have f6 : Fr (fun y => y = b1) h1 h6 := Fr.of_eq d2 d3
    have l1 := lt_of_get hb1
    have nX : ∀ y, X.M y ∨ X.D y → y ≠ b1 := fun y hy e => by have := H.lt y hy; omega
    exact k1 hit h6 ⟨L, ⟨lp, lc, xs, a, S, H1.frame f6 nX⟩, ok⟩ (f1.fresh f6 (fun y e => by omega))
  | cons x r =>
    have hxp : 0 < xs.length := by rw [hlen, hit]; simp
    rw [if_neg (by simp only [beq_iff_eq]; omega)]
    have hx : s.items[0]? = some x := by rw [hit]; rfl
    obtain ⟨v, hv, hva⟩ := abs_get H1 hx
    refine ⟨_, cell_at H1.blk rfl, storeP_blk H1.blk (by simp) fun h11 a1 a2 a3 => ?_⟩
    have f11 : Fr (fun y => y = b) h1 h11 := Fr.of_eq a2 a3
    obtain ⟨H11, s11⟩ := H1.field (s' := { s with taken := s.taken + 1 }) (h' := h11) rfl (by
      rw [a1]
      dsimp only
      rw [wrap_id (by omega) (by omega)]; rfl) f11
    refine cut_ok (i := 0) H11 (by show s.items.length ≤ 100; omega) hL hv fun h12 X12 B12 s12 v12 => ⟨_, _, _, _, _, _, rfl, ?_⟩
    have l1 := lt_of_get hb1
    have lb := lt_of_get H.blk
    have i12 : outbox_Item.at h12 b1 0 0 none 0 0 0 := s12.fr.get ((a3 b1 (by omega)).trans hb1) (fun hm => by have := H.lt b1 (.inl hm); omega)
    refine outbox_Item.set i12 fun h16 d1 d2 d3 => outbox_Item.ld d1 ?_
    have f16 : Fr (fun y => y = b1) h12 h16 := Fr.of_eq d2 d3
    have n12 : ∀ y, X12.M y ∨ X12.D y → y ≠ b1 := s12.apart (Q := fun y => y = b1) (fun y hy e => by have := H.lt y hy; omega) (fun y e => by rw [e, a2]; exact l1)
    have vn : (v.num : Int) = (x.num : Int) := by rw [← hva]; rfl
    have ec : cutI s.items 0 = r := by unfold cutI; rw [hit]; rfl
    have ed : delI s.items (x.num : Int) = r := by rw [← cutI_del ok.inc hx]; exact ec
    rw [vn] at B12
    have hok := ok.del (t := s.taken + 1) (c := s.canc) (o := s.over) hx (by omega)
    rw [ed] at hok
    have B16 : Bx h16 b X12 { s with items := r, taken := s.taken + 1 } (dropK L (x.num : Int)) := by
      have : ({ ({ s with taken := s.taken + 1 } : BS) with items := cutI ({ s with taken := s.taken + 1 } : BS).items 0 } : BS) = { s with items := r, taken := s.taken + 1 } := by
        show (⟨cutI s.items 0, _, _, _, _⟩ : BS) = _
        rw [ec]
      rw [this] at B12
      exact B12.frame f16 n12
    have st : StepF X h X12 h12 := (StepF.of_no f1).trans (s11.trans s12)
    have st16 : StepF X h X12 h16 := by
      refine ⟨⟨Nat.le_trans st.fr.1 f16.1, fun y hy hn => ?_⟩, st.newM, st.newD, st.oldD⟩
      rw [f16.2 y (Nat.lt_of_lt_of_le hy st.fr.1) (fun e => by omega)]
      exact st.fr.2 y hy hn
    exact k2 x r hit h16 X12 v hva ⟨_, B16, hok⟩ st16 (v12.frame f16 (fun y hd e => n12 y (.inr hd) e))

/-- what has come goes -/
theorem pass_ok {k : Int} (now : Nat) (hk0 : k = (now : Int)) (H : Box h b X s) (hnx : s.next ≤ 1000000000)
    (hk : ∀ h' X' p' c' (ys : List IV) D, Box h' b X' { s with items := s.items.filter (fun x => decide ((now : Int) < (x.till : Int))), over := s.over + ys.length } → StepF X h X' h' → Own h' p' ys.length c' 4 (ys.flatMap ienc) → (∀ y ∈ ys, y.v.ok h' X'.D) → (∀ y, inBlk p' y → h.size ≤ y ∧ ¬ (X'.M y ∨ X'.D y)) →
      (ys.map IV.abs).map It.kv = D → Sorted D → D.Perm ((s.items.filter (fun x => decide ((x.till : Int) ≤ (now : Int)))).map It.kv) → (∀ y ∈ ys, y.abs ∈ s.items) → R (.slice p' ys.length c') h') :
    CallsH Try.prog F.outbox_Box_Pass #[.pointer (some ⟨b, 0, none⟩), .int .u64 k] h R := by
  subst hk0
  obtain ⟨L, ⟨lp, lc, xs, a, S, H⟩, ok⟩ := H
  obtain ⟨hL, hxl⟩ := H.okL ok
  have hle := ok.le
  have hcnt := ok.cnt
  have so := H.al.sorted
  have nd := H.al.nodup
  refine outbox_Box_Pass.walk (made_ok H ⟨_, rfl, JoinP.of fun J hJ => ?_⟩)
  simp only [if_true]
  refine ⟨_, cell_at H.blk rfl, Alarm.ring_ok H.al (by omega) _ fun h3 p3 c3 A3 o3 g3 f3 => ⟨_, _, _, rfl, ?_⟩⟩
  generalize hD : Alarm.due L (now : Int) = D at o3 ⊢
  have hLD : L = D ++ Alarm.rest L (now : Int) := by rw [← hD]; exact (List.takeWhile_append_dropWhile).symm
  have M3 : Mm h3 b X s (Alarm.rest L (now : Int)) lp lc xs a S := by
    refine ⟨f3.get H.blk H.bs, H.own.frame f3 (fun y hy hs => H.ls y hy hs), A3, H.abs, fun x hx => (H.dat x hx).frame f3 (fun y hd hs => H.dis y ((H.m y).2 (.inr (.inr hs))) hd), H.m, H.bl, H.bs, H.ls, H.dis, fun y hy => Nat.lt_of_lt_of_le (H.dlt y hy) f3.1⟩
  have s3 : StepF X h X h3 := StepF.of_fr (f3.mono (fun y _ hs => (H.m y).2 (.inr (.inr hs))))
  have Dl : D.length ≤ 16 := by
    have h1 := congrArg List.length hLD
    rw [List.length_append] at h1
    have := ok.pm.length_eq
    rw [List.length_map] at this
    omega
  have ndD : (keys D).Nodup := by
    rw [hLD] at nd
    unfold keys at nd ⊢
    rw [List.map_append, List.nodup_append] at nd
    exact nd.1
  have dr : ∀ e ∈ D, e.1 ∉ keys (Alarm.rest L (now : Int)) := by
    intro e he hm
    rw [hLD] at nd
    unfold keys at nd hm
    rw [List.map_append, List.nodup_append] at nd
    exact nd.2.2 e.1 (List.mem_map_of_mem he) e.1 hm rfl
  have restL : (Alarm.rest L (now : Int)).length < 1000 := by
    have h1 := congrArg List.length hLD
    rw [List.length_append] at h1
    omega
  refine ⟨fun op ol oc t g => ∃ (k : Nat) (X' : Ft) (ys : List IV), t = (k : Int) ∧ k ≤ D.length ∧ ol = ys.length ∧ ys.length = k ∧ Bx g b X' { s with items := remI s.items (keys (D.take k)), over := s.over + k } (Alarm.rest L (now : Int)) ∧ StepF X h X' g ∧ Fr (fun y => h.size ≤ y ∨ X.M y) h3 g ∧ Own g op ol oc 4 (ys.flatMap ienc) ∧ (∀ y ∈ ys, y.v.ok g X'.D) ∧
      (∀ y, inBlk op y → h.size ≤ y ∧ ¬ (X'.M y ∨ X'.D y) ∧ ¬ inBlk p3 y) ∧ (∀ y, inBlk p3 y → ¬ (X'.M y ∨ X'.D y)) ∧ Row g p3 (Alarm.kc D) ∧ (ys.map IV.abs).map It.kv = D.take k ∧ (∀ y ∈ ys, y.abs ∈ s.items), fun _ _ _ t _ => D.length - t.toNat,
      ⟨0, X, [], rfl, by omega, rfl, rfl, ?_, s3, Fr.refl _ _, .nil rfl rfl rfl rfl, (fun y hy => by cases hy), (fun y ⟨a, e, _⟩ => by cases e), (fun y hy hx => by have := g3 y hy; have := H.lt y hx; omega), o3.row', rfl, fun y hy => by cases hy⟩, ?_⟩
  · have : ({ s with items := remI s.items (keys (D.take 0)), over := s.over + 0 } : BS) = s := by
      show (⟨remI s.items [], _, _, _, _⟩ : BS) = s
      rw [remI_nil]; rfl
    rw [this]
    exact ⟨lp, lc, xs, a, S, M3⟩
  clear M3 A3
  rintro op ol oc _ g ⟨k, X', ys, rfl, hkD, rfl, hys, B, st, fg, o, hd, hop, h3p, r3, hkv, hsub⟩
  by_cases hlt : k < D.length
  · have q : (k : Int) < ((D.length : Nat) : Int) := by omega
    simp only [q, decide_true, if_true]
    have hDk : D[k]? = some D[k] := List.getElem?_eq_getElem hlt
    generalize D[k] = e at hDk
    have heD := List.mem_of_getElem? hDk
    have hcell : (Alarm.kc D)[k]? = some (.int .i64 e.1) := by
      unfold Alarm.kc keys
      rw [List.getElem?_map, List.getElem?_map, hDk]; rfl
    obtain ⟨pa, rfl⟩ := r3.some (fun e0 => by rw [e0] at hcell; cases hcell)
    have cell := r3.cell hcell
    refine ⟨⟨by first | trivial | omega, by first | trivial | omega⟩, onSome_some.2 ⟨e.1, by rw [Int.toNat_natCast, Nat.mul_one]; exact cell, ?_⟩⟩
    obtain ⟨lp', lc', xs', a', S', M⟩ := B
    have items' : ({ s with items := remI s.items (keys (D.take k)), over := s.over + k } : BS).items = remI s.items (keys (D.take k)) := rfl
    have rl : (remI s.items (keys (D.take k))).length ≤ 16 := Nat.le_trans (List.length_filter_le _ _) hle
    refine find_ok M (by rw [items']; omega) fun h5 f5 => ⟨_, rfl, ?_⟩
    rw [items']
    have M5 := M.on f5
    -- where it stands
    have heL : e ∈ L := by rw [hLD]; exact List.mem_append_left _ heD
    obtain ⟨x, hx, hxe⟩ := List.mem_map.1 (ok.pm.mem_iff.1 heL)
    have hxn : (x.num : Int) = e.1 := by rw [← hxe]; rfl
    have hnk : e.1 ∉ keys (D.take k) := by
      intro hm
      obtain ⟨e', he', ek⟩ := List.mem_map.1 hm
      obtain ⟨j, hj⟩ := List.getElem?_of_mem he'
      rw [List.getElem?_take] at hj
      split at hj
      · rename_i hjk
        have h1 : (keys D)[j]? = some e.1 := by unfold keys; rw [List.getElem?_map, hj, ← ek]; rfl
        have h2 : (keys D)[k]? = some e.1 := by unfold keys; rw [List.getElem?_map, hDk]; rfl
        have := (List.getElem?_inj (by unfold keys; rw [List.length_map]; omega) ndD).1 (h1.trans h2.symm)
        omega
      · cases hj
    have hxr : x ∈ remI s.items (keys (D.take k)) := List.mem_filter.2 ⟨hx, decide_eq_true (by rw [hxn]; exact hnk)⟩
    cases hidx : idxI (remI s.items (keys (D.take k))) e.1 with
    | none => exact absurd hxn (idx_none hidx x hxr)
    | some i =>
      obtain ⟨x', hx', hn'⟩ := idx_some hidx
      have hx'm : x' ∈ s.items := (List.mem_filter.1 (List.mem_of_getElem? hx')).1
      obtain rfl : x' = x := uniq ok.inc hx'm hx (by omega)
      have ev : idxV (remI s.items (keys (D.take k))) e.1 = (i : Int) := by unfold idxV; rw [hidx]
      rw [ev]
      obtain ⟨v, hv, hva⟩ := abs_get M5 hx'
      refine cut_ok M5 (by rw [items']; omega) restL hv fun h6 X6 B6 s6 v6 => ⟨_, _, _, _, _, _, rfl, ?_⟩
      have vn : (v.num : Int) = e.1 := by rw [← hxn, ← hva]; rfl
      rw [vn, dropK_none (dr e heD)] at B6
      have inc' : ((remI s.items (keys (D.take k))).map It.num).Pairwise (· < ·) := ok.inc.sublist (List.filter_sublist.map _)
      have htk : keys (D.take (k + 1)) = keys (D.take k) ++ [e.1] := by unfold keys; rw [List.take_add_one, hDk, List.map_append]; rfl
      have eit : cutI (remI s.items (keys (D.take k))) i = remI s.items (keys (D.take (k + 1))) := by
        rw [cutI_del inc' hx', hxn, remI_del, htk]
      -- it is put behind
      have o5 := o.frame f5 (fun _ _ => id)
      have op6 : ∀ y, inBlk op y → ¬ (X6.M y ∨ X6.D y) := fun y hy => fun hx => s6.apart (Q := inBlk op) (fun z hz hq => (hop z hq).2.1 hz) (fun z hq => o5.blk_lt hq) y hx hy
      have o6 := o5.frame s6.fr (fun y hy hm => (hop y hy).2.1 (.inl hm))
      refine den_append1 tI uI o6 rfl (fun w hw => by simp at hw; rcases hw with rfl | rfl | rfl | rfl <;> rfl) (by omega) (by omega) fun p8 c8 h8 o8 f8 g8 => ⟨_, _, _, rfl, ?_⟩
      have B8 : Bx h8 b X6 _ _ := B6.frame f8 (fun y hy hq => op6 y hq hy)
      obtain ⟨lp8, lc8, xs8, a8, S8, M8⟩ := B8
      refine ⟨_, cell_at M8.blk rfl, storeP_blk M8.blk (by simp) fun h9 a1 a2 a3 => ?_⟩
      have f9 : Fr (fun y => y = b) h8 h9 := Fr.of_eq a2 a3
      obtain ⟨M9, s9⟩ := M8.field (s' := ⟨remI s.items (keys (D.take (k + 1))), s.next, s.taken, s.canc, s.over + (k + 1)⟩) (h' := h9) eit.symm (by
        rw [a1]
        dsimp only
        rw [wrap_id (by omega) (by omega)]; rfl) f9
      have b6 : X6.M b := (M8.m b).2 (.inl rfl)
      have op8 : ∀ y, inBlk p8 y → h.size ≤ y ∧ ¬ (X6.M y ∨ X6.D y) ∧ ¬ inBlk (some pa) y := by
        intro y hy
        rcases g8 y hy with h1 | h1
        · exact ⟨(hop y h1).1, op6 y h1, (hop y h1).2.2⟩
        · have z6 := s6.fr.1
          have z5 := f5.1
          have zg := st.fr.1
          refine ⟨by omega, fun hx => by have := B6.lt y hx; omega, fun hx => ?_⟩
          have := row_lt r3 (by intro e0; rw [e0] at hcell; cases hcell) hx
          omega
      have sg6 : StepF X' g X6 h6 := (StepF.of_no f5).trans s6
      have h3p6 : ∀ y, inBlk (some pa) y → ¬ (X6.M y ∨ X6.D y) := fun y hy hx => sg6.apart (Q := inBlk (some pa)) (fun z hz hq => h3p z hq hz) (fun z hq => row_lt r3 (by intro e0; rw [e0] at hcell; cases hcell) hq) y hx hy
      have st6 : StepF X h X6 h6 := st.trans sg6
      have fr89 : ∀ y, y < h.size → ¬ X.M y → h9[y]? = h6[y]? := by
        intro y hy hm
        have zz := st6.fr.1
        have zz8 := f8.1
        rw [f9.2 y (by omega) (fun e0 => (st6.newM b b6).elim (fun h1 => hm (e0 ▸ h1)) (fun h1 => by omega)), f8.2 y (by omega) (fun hq => by have := (hop y hq).1; omega)]
      have st9 : StepF X h X6 h9 := by
        refine ⟨⟨by have := st6.fr.1; have := f8.1; omega, fun y hy hn => ?_⟩, st6.newM, st6.newD, st6.oldD⟩
        rw [fr89 y hy hn]
        exact st6.fr.2 y hy hn
      have zb8 : ∀ y, inBlk p8 y → y ≠ b := fun y hy e0 => (op8 y hy).2.1 (.inl (e0 ▸ b6))
      have cat : ys.flatMap ienc ++ ([.int .i64 (v.num : Int), .int .i64 v.owner, .slice v.v.p v.v.b.length v.v.c, .int .u64 (v.till : Int)] : List Value) = (ys ++ [v]).flatMap ienc := by rw [List.flatMap_append]; simp
      have ln : (ys ++ [v]).length = ys.length + 1 := by rw [List.length_append]; rfl
      rw [wrap_id (by omega) (by omega)]
      refine ⟨⟨k + 1, X6, ys ++ [v], by omega, by omega, ln.symm, by rw [ln, hys], ⟨lp8, lc8, xs8, a8, S8, M9⟩, st9, ?_, ?_, ?_, op8, h3p6, ?_, ?_, ?_⟩, ?_⟩
      · refine ⟨by have := fg.1; have := sg6.fr.1; have := f8.1; omega, fun y hy hn => ?_⟩
        have hylt : y < h.size := Nat.lt_of_not_le (fun hx => hn (.inl hx))
        have hnm : ¬ X.M y := fun hx => hn (.inr hx)
        rw [fr89 y hylt hnm, st6.fr.2 y hylt hnm, s3.fr.2 y hylt hnm]
      · rw [← cat]; exact o8.frame f9 zb8
      · intro w hw
        have key : ∀ u : IV, u.v.ok h6 X6.D → u.v.ok h9 X6.D := fun u hu => (hu.frame f8 (fun y hy hq => op6 y hq (.inr hy))).frame f9 (fun y hy e0 => M8.dis b b6 (e0 ▸ hy))
        rcases List.mem_append.1 hw with hw | hw
        · exact key w (((hd w hw).frame sg6.fr (fun y hy hm => M.dis y hm hy)).mono (fun y hy => sg6.oldD y hy))
        · obtain rfl := List.mem_singleton.1 hw
          exact key w v6
      · refine ((r3.frame sg6.fr (fun a' ea hm => h3p _ ⟨a', ea, rfl⟩ (.inl hm))).frame f8 (fun a' ea hq => (hop _ hq).2.2 ⟨a', ea, rfl⟩)).frame f9 (fun a' ea e0 => h3p6 _ ⟨a', ea, rfl⟩ (.inl (by have e0 : a'.block = b := e0; rw [e0]; exact b6)))
      · rw [List.map_append, List.map_append, hkv, List.take_add_one, hDk]
        simp [hva, hxe]
      · intro w hw
        rcases List.mem_append.1 hw with hw | hw
        · exact hsub w hw
        · obtain rfl := List.mem_singleton.1 hw
          rw [hva]; exact hx
      · show D.length - Int.toNat ((k : Int) + 1) < D.length - Int.toNat (k : Int); omega
  · have q : ¬ (k : Int) < ((D.length : Nat) : Int) := by omega
    simp only [q, decide_false, Bool.false_eq_true, if_false]
    obtain rfl : k = D.length := by omega
    subst hJ
    rw [List.take_length] at B hkv
    have e1 : remI s.items (keys D) = s.items.filter (fun x => decide ((now : Int) < (x.till : Int))) := by rw [← hD]; exact remI_due ok so nd
    rw [e1] at B
    have hlen2 : D.length + (s.items.filter (fun x => decide ((now : Int) < (x.till : Int)))).length = s.items.length := by
      have h1 := congrArg List.length hLD
      rw [List.length_append, (rest_perm (now := (now : Int)) ok so).length_eq, List.length_map, ok.pm.length_eq, List.length_map] at h1
      omega
    refine hk g X' op oc ys D ⟨_, by rw [hys]; exact B, ?_⟩ st o hd (fun y hy => ⟨(hop y hy).1, (hop y hy).2.1⟩) hkv ?_ ?_ hsub
    · exact ok.sub List.filter_sublist (rest_perm ok so) (by omega)
    · rw [← hD, (sorted_split so).1]; exact List.Pairwise.filter _ so
    · rw [← hD]; exact due_perm ok so

theorem counts_ok (H : Box h b X s) (hnx : s.next ≤ 1000000000) (hk : ∀ h', Fr (fun _ => False) h h' → R (.agg #[.int .i64 ((s.next : Int) - 1), .int .i64 (s.items.length : Int), .int .i64 (s.taken : Int), .int .i64 (s.canc : Int), .int .i64 (s.over : Int)]) h') :
    CallsH Try.prog F.outbox_Box_Counts #[.pointer (some ⟨b, 0, none⟩)] h R := by
  obtain ⟨L, ⟨lp, lc, xs, a, S, H⟩, ok⟩ := H
  have hlen := H.len
  refine outbox_Box_Counts.walk (newP_of ?_)
  have f1 : Fr (fun _ => False) h (h.push (.cells #[.int .i64 0, .int .i64 0, .int .i64 0, .int .i64 0, .int .i64 0] T.a5_int)) := Fr.push _ _
  have hb1 : (h.push (.cells #[.int .i64 0, .int .i64 0, .int .i64 0, .int .i64 0, .int .i64 0] T.a5_int))[h.size]? = some (.cells #[.int .i64 0, .int .i64 0, .int .i64 0, .int .i64 0, .int .i64 0] T.a5_int (0, 0)) := push_new
  generalize h.push (.cells #[.int .i64 0, .int .i64 0, .int .i64 0, .int .i64 0, .int .i64 0] T.a5_int) = h1 at f1 hb1 ⊢
  have H1 := H.on f1
  refine made_ok H1 ⟨_, rfl, ?_⟩
  simp only [Bool.not_true, Bool.false_eq_true, if_false]
  refine ⟨_, cell_at H1.blk rfl, _, _, _, cell_at H1.blk rfl, _, cell_at H1.blk rfl, _, cell_at H1.blk rfl, _, cell_at H1.blk rfl, ?_⟩
  refine storeP_blk hb1 (by simp) fun g1 a1 b1 c1 => storeP_blk a1 (by simp) fun g2 a2 b2 c2 => storeP_blk a2 (by simp) fun g3 a3 b3 c3 => storeP_blk a3 (by simp) fun g4 a4 b4 c4 => storeP_blk a4 (by simp) fun g5 a5 b5 c5 => ?_
  refine ⟨_, cell_at a5 rfl, _, cell_at a5 rfl, _, cell_at a5 rfl, _, cell_at a5 rfl, _, cell_at a5 rfl, ?_⟩
  rw [wrap_id (by omega) (by omega), hlen]
  refine hk g5 (f1.fresh (S := fun y => y = h.size) ⟨by omega, fun y hy hn => ?_⟩ (fun y e => Nat.le_of_eq e.symm))
  rw [c5 y hn, c4 y hn, c3 y hn, c2 y hn, c1 y hn]
end Obx
end Go.Proofs.Ytlonfpolnmiglaa
