/-
  What is proved here: a box in memory (package outbox), and what its inner functions do: copied, right, find, cut. No condition.
-/
import Derived.Test.YtlonfpolnmiglaaRecs
import Derived.Test.YtlonfpolnmiglaaRing
import Derived.Test.YtlonfpolnmiglaaGrow
import Derived.Test.YtlonfpolnmiglaaVcC
import Derived.Test.YtlonfpolnmiglaaVcF
import Derived.Test.YtlonfpolnmiglaaStructs
set_option maxRecDepth 100000
namespace Go.Proofs.Ytlonfpolnmiglaa
open Go.Den Go.Fields Go.Heapq
namespace Obx
open Fld
variable {h h' h0 : Heap} {b : Nat} {X : Ft} {R : Value → Heap → Prop} {p q : Option Addr} {c d i : Nat} {L : List E}

/-- an item -/
structure It where
  num : Nat
  owner : Int
  d : List UInt8
  till : Nat
/-- .. in memory -/
structure IV where
  num : Nat
  owner : Int
  v : BV
  till : Nat
def IV.abs (x : IV) : It := ⟨x.num, x.owner, x.v.b, x.till⟩
abbrev ienc (x : IV) : List Value := [.int .i64 (x.num : Int), .int .i64 x.owner, x.v.val, .int .u64 (x.till : Int)]
theorem ienc_len (x : IV) : (ienc x).length = 4 := rfl
theorem ienc_one (xs : List IV) : ∀ v ∈ xs.flatMap ienc, oneCell v = true := by
  intro v hv
  obtain ⟨a, _, ha⟩ := List.mem_flatMap.1 hv
  simp at ha
  rcases ha with rfl | rfl | rfl | rfl <;> rfl
abbrev IV.agg (x : IV) : Value := .agg #[.int .i64 (x.num : Int), .int .i64 x.owner, x.v.val, .int .u64 (x.till : Int)]
theorem tI : SlTy Try.prog T.s_outbox_Item T.outbox_Item 4 48 (.agg #[.int .i64 0, .int .i64 0, .slice none 0 0, .int .u64 0]) := ⟨by kernel_rfl, by kernel_rfl, rfl⟩
theorem uI : Try.prog.underlying T.s_outbox_Item = some (.slice T.outbox_Item) := by kernel_rfl
theorem uInt : Try.prog.underlying T.int = some (.int .i64) := by kernel_rfl

/-- what a box says -/
structure BS where
  items : List It
  next : Nat
  taken : Nat
  canc : Nat
  over : Nat
structure Mm (h : Heap) (b : Nat) (X : Ft) (s : BS) (L : List E) (lp : Option Addr) (lc : Nat) (xs : List IV) (a : Nat) (S : Nat → Prop) : Prop where
  blk : h[b]? = some (.cells #[.slice lp xs.length lc, .int .i64 (s.next : Int), .int .i64 (s.taken : Int), .int .i64 (s.canc : Int), .int .i64 (s.over : Int), .pointer (some ⟨a, 0, none⟩)] T.outbox_Box (0, 0))
  own : Own h lp xs.length lc 4 (xs.flatMap ienc)
  al : Alarm.Al h a S L
  abs : xs.map IV.abs = s.items
  dat : ∀ x ∈ xs, x.v.ok h X.D
  m : ∀ c, X.M c ↔ c = b ∨ inBlk lp c ∨ S c
  bl : ¬ inBlk lp b
  bs : ¬ S b
  ls : ∀ c, inBlk lp c → ¬ S c
  dis : ∀ c, X.M c → ¬ X.D c
  dlt : ∀ c, X.D c → c < h.size
/-- b is a box that says s; its alarm has L -/
def Bx (h : Heap) (b : Nat) (X : Ft) (s : BS) (L : List E) : Prop := ∃ lp lc xs a S, Mm h b X s L lp lc xs a S
variable {s : BS} {lp : Option Addr} {lc a : Nat} {xs : List IV} {S : Nat → Prop}
theorem Mm.lt (H : Mm h b X s L lp lc xs a S) (y : Nat) (hy : X.M y ∨ X.D y) : y < h.size := by
  rcases hy with hy | hy
  · rcases (H.m y).1 hy with rfl | h1 | h1
    · exact lt_of_get H.blk
    · exact H.own.blk_lt h1
    · exact H.al.lt h1
  · exact H.dlt y hy
theorem Bx.lt (H : Bx h b X s L) (y : Nat) (hy : X.M y ∨ X.D y) : y < h.size := by
  obtain ⟨lp, lc, xs, a, S, H⟩ := H
  exact H.lt y hy
theorem Mm.frame {Q : Nat → Prop} (H : Mm h b X s L lp lc xs a S) (f : Fr Q h h') (hq : ∀ y, X.M y ∨ X.D y → ¬ Q y) : Mm h' b X s L lp lc xs a S :=
  have hm : ∀ y, X.M y → ¬ Q y := fun y hy => hq y (.inl hy)
  ⟨f.get H.blk (hm b ((H.m b).2 (.inl rfl))), H.own.frame f (fun y hy => hm y ((H.m y).2 (.inr (.inl hy)))), H.al.frame f (fun y hy => hm y ((H.m y).2 (.inr (.inr hy)))), H.abs, fun x hx => (H.dat x hx).frame f (fun y hy => hq y (.inr hy)), H.m, H.bl, H.bs, H.ls, H.dis, fun y hy => Nat.lt_of_lt_of_le (H.dlt y hy) f.1⟩
theorem Bx.frame {Q : Nat → Prop} (H : Bx h b X s L) (f : Fr Q h h') (hq : ∀ y, X.M y ∨ X.D y → ¬ Q y) : Bx h' b X s L := by
  obtain ⟨lp, lc, xs, a, S, H⟩ := H
  exact ⟨lp, lc, xs, a, S, H.frame f hq⟩
theorem Bx.on (H : Bx h b X s L) (f : Fr (fun _ => False) h h') : Bx h' b X s L := H.frame f (fun _ _ => id)
theorem Mm.on (H : Mm h b X s L lp lc xs a S) (f : Fr (fun _ => False) h h') : Mm h' b X s L lp lc xs a S := H.frame f (fun _ _ => id)
theorem Mm.len (H : Mm h b X s L lp lc xs a S) : xs.length = s.items.length := by rw [← H.abs, List.length_map]

theorem made_ok (H : Mm h b X s L lp lc xs a S) (hk : R (.bool true) h) : CallsH Try.prog F.outbox_Box_made #[.pointer (some ⟨b, 0, none⟩)] h R :=
  outbox_Box_made.walk ⟨_, cell_at H.blk rfl, hk⟩
theorem new_ok (hk : ∀ h' b X, Bx h' b X ⟨[], 1, 0, 0, 0⟩ [] → Fr (fun _ => False) h h' → (∀ y, X.M y ∨ X.D y → h.size ≤ y) → R (.pointer (some ⟨b, 0, none⟩)) h') : CallsH Try.prog F.outbox_New #[] h R := by
  refine outbox_New.walk (Alarm.new_ok fun a S h1 A1 g1 f1 => ⟨_, rfl, newP_of ?_⟩)
  have f2 : Fr (fun _ => False) h1 (h1.push (.cells #[.slice none 0 0, .int .i64 1, .int .i64 0, .int .i64 0, .int .i64 0, .pointer (some ⟨a, 0, none⟩)] T.outbox_Box)) := Fr.push _ _
  have z := f1.1
  refine hk _ h1.size ⟨fun y => y = h1.size ∨ inBlk none y ∨ S y, fun _ => False⟩ ⟨none, 0, [], a, S, ⟨push_new, .nil rfl rfl rfl rfl, A1.frame f2 (fun _ _ => id), rfl, (fun x hx => by cases hx), fun _ => Iff.rfl, (fun ⟨a, e, _⟩ => by cases e), fun hs => ?_, (fun y ⟨a, e, _⟩ => by cases e), fun _ _ => id, fun _ hy => hy.elim⟩⟩ (f1.tt f2) ?_
  · have := A1.lt hs; omega
  · rintro y ((rfl | ⟨a, e, _⟩ | hs) | hy)
    · exact z
    · cases e
    · exact g1 y hs
    · exact hy.elim

theorem copied_ok {x0 x1 x3 : Int} {bs : List UInt8} {n m : Nat} (hr : Row h p (bc bs)) (hn : n = bs.length) (hl : bs.length ≤ 70368744177664)
    (hk : ∀ h' p' c', Own h' p' bs.length c' 1 (bc bs) → Fr (fun _ => False) h h' → (∀ y, inBlk p' y → h.size ≤ y) → R (.agg #[.int .i64 x0, .int .i64 x1, .slice p' bs.length c', .int .u64 x3]) h') :
    CallsH Try.prog F.outbox_copied #[.agg #[.int .i64 x0, .int .i64 x1, .slice p n m, .int .u64 x3]] h R := by
  subst hn
  refine outbox_copied.walk (outbox_Item.box fun b1 h1 eb1 hb1 f1 => outbox_Item.box fun b2 h2 eb2 hb2 f2 => ?_)
  have hb1' := f2.get hb1 id
  refine ⟨_, _, _, cell_at hb1' rfl, clone_ok (hr.frame (f1.tt f2) (fun _ _ => id)) rfl hl fun p3 c3 h3 o3 f3 g3 => ⟨_, _, _, rfl, ?_⟩⟩
  have l1 := lt_of_get hb1
  have l2 := lt_of_get hb2
  have k1 := f3.get hb1' id
  have k2 : outbox_Item.at h3 b2 0 0 none 0 0 0 := f3.get hb2 id
  have z1 := f1.1
  have z2 := f2.1
  have ne : b2 ≠ b1 := by omega
  refine storeP_blk k1 (by simp) fun h4 a1 a2 a3 => ?_
  have k4 : outbox_Item.at h4 b1 x0 x1 p3 bs.length c3 x3 := a1
  refine outbox_Item.ld k4 ?_
  have k5 : outbox_Item.at h4 b2 0 0 none 0 0 0 := (a3 b2 ne).trans k2
  refine outbox_Item.set k5 fun h8 d1 d2 d3 => outbox_Item.ld d1 ?_
  have f4 : Fr (fun y => y = b1 ∨ y = b2) h3 h8 := ⟨by omega, fun y hy hn => by rw [d3 y (fun e => hn (.inr e)), a3 y (fun e => hn (.inl e))]⟩
  have F3 : Fr (fun _ => False) h h3 := f1.tt (f2.tt f3)
  refine hk h8 p3 c3 (o3.frame f4 (fun y hy e => by have := g3 y hy; omega)) (F3.fresh f4 (fun y hy => by omega)) (fun y hy => by have := g3 y hy; omega)

/-- may an item be? -/
def rightB (owner : Int) (n : Nat) (till : Int) : Bool := decide (1 ≤ owner) && decide (owner ≤ 1099511627776) && decide (1 ≤ n) && decide (n ≤ 600) && decide (till ≤ 1099511627776)
theorem rightB_iff {owner till : Int} {n : Nat} : rightB owner n till = true ↔ 1 ≤ owner ∧ owner ≤ 1099511627776 ∧ 1 ≤ n ∧ n ≤ 600 ∧ till ≤ 1099511627776 := by simp [rightB, and_assoc]
theorem right_ok {x0 x1 x3 : Int} {n m : Nat} (hk : ∀ h', Fr (fun _ => False) h h' → R (.bool (rightB x1 n x3)) h') :
    CallsH Try.prog F.outbox_right #[.agg #[.int .i64 x0, .int .i64 x1, .slice p n m, .int .u64 x3]] h R := by
  refine outbox_right.walk (outbox_Item.box fun b1 h1 eb1 hb1 f1 => ⟨_, cell_at hb1 rfl, ?_⟩)
  have hk := hk h1 f1
  unfold rightB at hk
  by_cases h1 : 1 ≤ x1
  · rw [if_pos (by simpa using h1)]
    refine ⟨_, cell_at hb1 rfl, ?_⟩
    by_cases h2 : x1 ≤ 1099511627776
    · rw [if_pos (by simpa using h2)]
      refine ⟨_, _, _, cell_at hb1 rfl, ?_⟩
      by_cases h3 : 1 ≤ n
      · rw [if_pos (by simp; omega)]
        refine ⟨_, _, _, cell_at hb1 rfl, ?_⟩
        by_cases h4 : n ≤ 600
        · rw [if_pos (by simp; omega)]
          refine ⟨_, cell_at hb1 rfl, ?_⟩
          simpa [h1, h2, h3, h4] using hk
        · rw [if_neg (by simp; omega)]
          simpa [h4] using hk
      · rw [if_neg (by simp; omega)]
        simpa [h3] using hk
    · rw [if_neg (by simpa using h2)]
      simpa [h2] using hk
  · rw [if_neg (by simpa using h1)]
    simpa [h1] using hk

/-! ### find -/
def idxI (xs : List It) (num : Int) : Option Nat := xs.findIdx? (fun a => decide ((a.num : Int) = num))
def idxV (xs : List It) (num : Int) : Int := match idxI xs num with | some k => (k : Int) | none => -1
abbrev NumAt (h : Heap) (b : Nat) (num : Int) : Prop := h[b]? = some (.cells #[.int .i64 num] T.int (0, 0))
theorem find1_ok {b : Nat} {num : Int} (x : IV) (hid : NumAt h b num) (hk : ∀ h', Fr (fun _ => False) h h' → R (.bool (decide ((x.num : Int) = num))) h') : CallsH Try.prog F.outbox_Box_find_1 #[x.agg, .pointer (some ⟨b, 0, none⟩)] h R := by
  refine outbox_Box_find_1.walk (outbox_Item.box fun b1 h1 eb hb f1 => ⟨_, cell_at hb rfl, _, cell_at (f1.get hid (fun x => x)) rfl, ?_⟩)
  have e : (((x.num : Nat) : Int) == num) = decide ((x.num : Int) = num) := by
    by_cases q : (x.num : Int) = num <;> simp [q]
  rw [e]
  exact hk h1 f1
theorem index_ok {xs : List IV} {n m b : Nat} {num : Int} (hr : Row h p (xs.flatMap ienc)) (hn : n = xs.length) (hl : xs.length ≤ 1000000000) (hid : NumAt h b num) (hk : ∀ h', Fr (fun _ => False) h h' → R (.int .i64 (idxV (xs.map IV.abs) num)) h') :
    CallsH Try.prog F.slices_IndexFunc_s_outbox_Item_outbox_Item #[.slice p n m, .func (.func F.outbox_Box_find_1) #[] #[.pointer (some ⟨b, 0, none⟩)]] h R := by
  subst hn
  refine slices_IndexFunc_s_outbox_Item_outbox_Item.find.walk ?_
  refine ⟨fun i h' => Fr (fun _ => False) h h' ∧ ∃ k : Nat, i = (k : Int) ∧ k ≤ xs.length ∧ ∀ j (hj : j < xs.length), j < k → (xs[j].num : Int) ≠ num, fun i _ => xs.length - i.toNat, ⟨Fr.refl _ _, 0, rfl, by omega, fun j _ hj => by omega⟩, ?_⟩
  rintro _ h1 ⟨f1, k, rfl, hkn, hall⟩
  have hr1 := hr.frame f1 (fun _ _ x => x)
  have hid1 : NumAt h1 b num := f1.get hid (fun x => x)
  by_cases hlt : k < xs.length
  · have q1 : (k : Int) < (xs.length : Int) := by omega
    simp only [q1, decide_true, if_true, Int.toNat_natCast]
    have hx : xs[k]? = some xs[k] := List.getElem?_eq_getElem hlt
    obtain ⟨a, rfl⟩ := hr1.some (fun e => by have := congrArg List.length e; rw [flat_len ienc 4 ienc_len, List.length_nil] at this; omega)
    refine ⟨⟨by omega, by first | trivial | omega⟩, onSome_some.2 (outbox_Item.ldA (hr1.heldAt ienc_len hx) ?_)⟩
    refine find1_ok xs[k] hid1 fun h2 f2 => ⟨_, rfl, ?_⟩
    by_cases e : (xs[k].num : Int) = num
    · simp only [e, decide_true, if_true]
      have : idxV (xs.map IV.abs) num = (k : Int) := by
        unfold idxV idxI
        have : (xs.map IV.abs).findIdx? (fun a => decide ((a.num : Int) = num)) = some k := by
          rw [List.findIdx?_eq_some_iff_getElem]
          refine ⟨by rw [List.length_map]; exact hlt, ?_, fun j hj => ?_⟩
          · rw [List.getElem_map]; exact decide_eq_true e
          · rw [List.getElem_map, Bool.not_eq_true]; exact decide_eq_false (hall j (by omega) hj)
        rw [this]
      rw [this] at hk
      exact hk h2 (f1.tt f2)
    · simp only [e, decide_false, Bool.false_eq_true, if_false]
      rw [wrap_id (by omega) (by omega)]
      refine ⟨⟨f1.tt f2, k + 1, by omega, by omega, fun j hj hjk => ?_⟩, ?_⟩
      · by_cases q : j = k
        · subst q; exact e
        · exact hall j hj (by omega)
      · show xs.length - Int.toNat ((k : Int) + 1) < xs.length - Int.toNat (k : Int); omega
  · have q1 : ¬ (k : Int) < (xs.length : Int) := by omega
    simp only [q1, decide_false, Bool.false_eq_true, if_false]
    have : idxV (xs.map IV.abs) num = -1 := by
      unfold idxV idxI
      have : (xs.map IV.abs).findIdx? (fun a => decide ((a.num : Int) = num)) = none := by
        rw [List.findIdx?_eq_none_iff]
        intro a ha
        obtain ⟨x, hx, rfl⟩ := List.mem_map.1 ha
        obtain ⟨j, hj, rfl⟩ := List.mem_iff_getElem.1 hx
        exact decide_eq_false (hall j hj (by omega))
      rw [this]
    rw [this] at hk
    exact hk h1 f1
theorem find_ok {num : Int} (H : Mm h b X s L lp lc xs a S) (hl : s.items.length ≤ 1000000000) (hk : ∀ h', Fr (fun _ => False) h h' → R (.int .i64 (idxV s.items num)) h') : CallsH Try.prog F.outbox_Box_find #[.pointer (some ⟨b, 0, none⟩), .int .i64 num] h R := by
  refine outbox_Box_find.walk (newP_of ?_)
  have f1 : Fr (fun _ => False) h (h.push (.cells #[.int .i64 num] T.int)) := Fr.push _ _
  have H1 := H.on f1
  have hl' := H.len
  refine ⟨_, _, _, cell_at H1.blk rfl, index_ok H1.own.row' rfl (by omega) push_new fun h2 f2 => ⟨_, rfl, ?_⟩⟩
  rw [H.abs]
  exact hk h2 (f1.tt f2)

/-! ### concat -/
theorem grow_ok {n : Nat} (hn : n ≤ 1000000) (hk : ∀ p' c' h', Own h' p' 0 c' 4 [] → Fr (fun _ => False) h h' → (∀ y, inBlk p' y → h.size ≤ y) → R (.slice p' 0 c') h') :
    CallsH Try.prog F.slices_Grow_s_outbox_Item_outbox_Item #[.slice none 0 0, .int .i64 (n : Int)] h R := by
  refine slices_Grow_s_outbox_Item_outbox_Item.walk ?_
  unfold slices_Grow_s_outbox_Item_outbox_Item.vc
  simp only [JoinP]
  have q0 : ¬ (n : Int) < 0 := by omega
  have e1 : IntKind.wrap .i64 (((0 : Nat) : Int) - ((0 : Nat) : Int)) = 0 := rfl
  have e2 : IntKind.wrap .i64 ((n : Int) - 0) = (n : Int) := by rw [wrap_id (by omega) (by omega)]; omega
  rw [e1, e2]
  simp only [q0, decide_false, Bool.false_eq_true, if_false]
  by_cases hz : n = 0
  · subst hz
    rw [if_neg (by simp)]
    exact hk none 0 h (.nil rfl rfl rfl rfl) (Fr.refl _ _) (fun y ⟨a, e, _⟩ => by cases e)
  · have q1 : (n : Int) > 0 := by omega
    simp only [q1, decide_true, if_true]
    refine ⟨⟨by omega, by omega⟩, ?_⟩
    have e3 : slBase none 0 0 4 = none := slBase_zero _ _ _
    rw [e3]
    refine den_grow tI uInt (by omega) (by omega) (by omega) fun cap' h' o hc f => ⟨_, _, _, rfl, ⟨by omega, by omega⟩, ?_⟩
    rw [slBase_zero]
    exact hk _ cap' h' o f (fun y ⟨a, e, e2⟩ => by cases e; exact Nat.le_of_eq e2)
theorem concat_ok {p1 p2 : Option Addr} {n1 c1 n2 c2 : Nat} {us ws : List IV} (hh : Row h (some ⟨c, 0, none⟩) [.slice p1 n1 c1, .slice p2 n2 c2]) (r1 : Row h p1 (us.flatMap ienc)) (e1 : n1 = us.length) (r2 : Row h p2 (ws.flatMap ienc)) (e2 : n2 = ws.length) (hl : us.length + ws.length ≤ 1000)
    (hk : ∀ p' c' h', Own h' p' (us ++ ws).length c' 4 ((us ++ ws).flatMap ienc) → Fr (fun _ => False) h h' → (∀ y, inBlk p' y → h.size ≤ y) → R (.slice p' (us ++ ws).length c') h') :
    CallsH Try.prog F.slices_Concat_s_outbox_Item_outbox_Item #[.slice (some ⟨c, 0, none⟩) 2 2] h R := by
  subst e1 e2
  have c0 : ∀ {g : Heap}, Fr (fun _ => False) h g → hcell g ((⟨c, 0, none⟩ : Addr).add (0 * 1)) = some (.slice p1 us.length c1) := fun f => (hh.frame f (fun _ _ => id)).cell (j := 0) rfl
  have c1' : ∀ {g : Heap}, Fr (fun _ => False) h g → hcell g ((⟨c, 0, none⟩ : Addr).add (1 * 1)) = some (.slice p2 ws.length c2) := fun f => (hh.frame f (fun _ _ => id)).cell (j := 1) rfl
  refine slices_Concat_s_outbox_Item_outbox_Item.walk ?_
  refine ⟨fun size i g => g = h ∧ ((i = 0 ∧ size = 0) ∨ (i = 1 ∧ size = (us.length : Int)) ∨ (i = 2 ∧ size = ((us.length + ws.length : Nat) : Int))), fun _ i _ => 2 - i.toNat, ⟨rfl, .inl ⟨rfl, rfl⟩⟩, ?_⟩
  rintro size i g ⟨rfl, hi⟩
  rcases hi with ⟨rfl, rfl⟩ | ⟨rfl, rfl⟩ | ⟨rfl, rfl⟩
  · rw [if_pos (by rfl)]
    refine JoinP.of fun J hJ => ⟨⟨by omega, by omega⟩, onSome_some.2 ⟨_, _, _, c0 (Fr.refl _ _), JoinP.of fun J1 hJ1 => ?_⟩⟩
    have e : IntKind.wrap .i64 (0 + ((us.length : Nat) : Int)) = (us.length : Int) := by rw [wrap_id (by omega) (by omega)]; omega
    rw [e] at hJ1
    rw [e, if_neg (by simp <;> omega)]
    subst hJ1; subst hJ
    exact ⟨⟨rfl, .inr (.inl ⟨rfl, rfl⟩)⟩, by show 2 - Int.toNat 1 < 2 - Int.toNat 0; decide⟩
  · rw [if_pos (by rfl)]
    refine JoinP.of fun J hJ => ⟨⟨by omega, by omega⟩, onSome_some.2 ⟨_, _, _, c1' (Fr.refl _ _), JoinP.of fun J1 hJ1 => ?_⟩⟩
    have e : IntKind.wrap .i64 ((us.length : Int) + ((ws.length : Nat) : Int)) = ((us.length + ws.length : Nat) : Int) := by rw [wrap_id (by omega) (by omega)]; omega
    rw [e] at hJ1
    rw [e, if_neg (by simp <;> omega)]
    subst hJ1; subst hJ
    exact ⟨⟨rfl, .inr (.inr ⟨rfl, rfl⟩)⟩, by show 2 - Int.toNat 2 < 2 - Int.toNat 1; decide⟩
  · rw [if_neg (by decide)]
    refine grow_ok (by omega) fun p4 c4 h4 o4 f4 g4 => ⟨_, _, _, rfl, ?_⟩
    refine ⟨fun np nl nc i g' => Fr (fun _ => False) g g' ∧ (∀ y, inBlk np y → g.size ≤ y) ∧ ((i = 0 ∧ nl = 0 ∧ Own g' np nl nc 4 []) ∨ (i = 1 ∧ nl = us.length ∧ Own g' np nl nc 4 (us.flatMap ienc)) ∨ (i = 2 ∧ nl = (us ++ ws).length ∧ Own g' np nl nc 4 ((us ++ ws).flatMap ienc))), fun _ _ _ i _ => 2 - i.toNat, ⟨f4, g4, .inl ⟨rfl, rfl, o4⟩⟩, ?_⟩
    rintro np nl nc i g' ⟨fg, gg, hi⟩
    rcases hi with ⟨rfl, rfl, o⟩ | ⟨rfl, rfl, o⟩ | ⟨rfl, rfl, o⟩
    · rw [if_pos (by rfl)]
      refine ⟨⟨by omega, by omega⟩, onSome_some.2 ⟨_, _, _, c0 fg, ?_⟩⟩
      refine den_append tI uI o (r1.frame fg (fun _ _ => id)) (flat_len ienc 4 ienc_len us) (ienc_one us) (by omega) (by omega) fun p6 c6 h6 o6 _ f6 g6 => ⟨_, _, _, rfl, ?_⟩
      rw [List.nil_append, Nat.zero_add] at o6
      rw [Nat.zero_add]
      have z := fg.1
      exact ⟨⟨fg.fresh f6 gg, (fun y hy => (g6 y hy).elim (gg y) (fun h2 => by omega)), .inr (.inl ⟨rfl, rfl, o6⟩)⟩, by show 2 - Int.toNat 1 < 2 - Int.toNat 0; decide⟩
    · rw [if_pos (by rfl)]
      refine ⟨⟨by omega, by omega⟩, onSome_some.2 ⟨_, _, _, c1' fg, ?_⟩⟩
      refine den_append tI uI o (r2.frame fg (fun _ _ => id)) (flat_len ienc 4 ienc_len ws) (ienc_one ws) (by omega) (by omega) fun p6 c6 h6 o6 _ f6 g6 => ⟨_, _, _, rfl, ?_⟩
      rw [← List.flatMap_append, ← List.length_append] at o6
      rw [← List.length_append]
      have z := fg.1
      exact ⟨⟨fg.fresh f6 gg, (fun y hy => (g6 y hy).elim (gg y) (fun h2 => by omega)), .inr (.inr ⟨rfl, rfl, o6⟩)⟩, by show 2 - Int.toNat 2 < 2 - Int.toNat 1; decide⟩
    · rw [if_neg (by decide)]
      exact hk np nc g' o fg gg

/-! ### cut -/
theorem dropK_not {L : List E} {k : Int} (hk : k ∉ keys L) : dropK L k = L := by
  unfold dropK
  rw [List.filter_eq_self]
  intro e he
  have : e.1 ≠ k := fun e2 => hk (e2 ▸ List.mem_map_of_mem he)
  simpa using this
theorem Own.row_sub {h : Heap} {p : Option Addr} {xs : List IV} {cap l u : Nat} (hr : Row h p (xs.flatMap ienc)) (h1 : l ≤ u) (h2 : u ≤ cap) : Row h (slBase p cap l 4) (((xs.take u).drop l).flatMap ienc) := by
  have := hr.sub (cap := cap) (l := l) (u := u) (sz := 4) h1 h2
  rwa [flat_take ienc 4 ienc_len, flat_drop ienc 4 ienc_len] at this
def cutI (xs : List It) (i : Nat) : List It := xs.take i ++ xs.drop (i + 1)
theorem cut_ok {x : IV} (H : Mm h b X s L lp lc xs a S) (hl : s.items.length ≤ 100) (hL : L.length < 1000) (hx : xs[i]? = some x)
    (hk : ∀ h' X', Bx h' b X' { s with items := cutI s.items i } (dropK L (x.num : Int)) → StepF X h X' h' → x.v.ok h' X'.D → R x.agg h') :
    CallsH Try.prog F.outbox_Box_cut #[.pointer (some ⟨b, 0, none⟩), .int .i64 (i : Int)] h R := by
  have hlen := H.len
  have hi := (List.getElem?_eq_some_iff.1 hx).1
  refine outbox_Box_cut.walk (outbox_Item.box fun b1 h1 eb1 hb1 f1 => ?_)
  have H1 := H.on f1
  obtain ⟨ab, aoff, rfl⟩ := H.own.addr (by omega)
  refine ⟨_, _, _, cell_at H1.blk rfl, ⟨by omega, by omega⟩, onSome_some.2 (outbox_Item.ldA (by rw [Int.toNat_natCast]; exact H1.own.heldAt ienc_len hx) (outbox_Item.new fun b2 h2 eb2 hb2 f2 => ?_))⟩
  have H2 := H1.on f2
  have hb1' : outbox_Item.at h2 b1 0 0 none 0 0 0 := f2.get hb1 id
  have z1 := f1.1
  have z2 := f2.1
  have l1 := lt_of_get hb1
  have l2 := lt_of_get hb2
  have ne : b2 ≠ b1 := by omega
  have nX : ∀ y, h.size ≤ y → ¬ (X.M y ∨ X.D y) := fun y hy hx => by have := H.lt y hx; omega
  refine ⟨_, cell_at H2.blk rfl, _, cell_at hb2 rfl, ?_⟩
  -- behind the alarm
  have rest : ∀ h7, Alarm.Al h7 a S (dropK L (x.num : Int)) → Fr S h2 h7 →
      h7[b]? = some (.cells #[.slice (some ⟨ab, aoff, none⟩) xs.length lc, .int .i64 (s.next : Int), .int .i64 (s.taken : Int), .int .i64 (s.canc : Int), .int .i64 (s.over : Int), .pointer (some ⟨a, 0, none⟩)] T.outbox_Box (0, 0)) ∧
      Row h7 (some ⟨ab, aoff, none⟩) (xs.flatMap ienc) ∧ outbox_Item.at h7 b1 0 0 none 0 0 0 ∧ outbox_Item.at h7 b2 (x.num : Int) x.owner x.v.p x.v.b.length x.v.c (x.till : Int) := by
    intro h7 A7 f7
    have nS : ∀ y, h.size ≤ y → ¬ S y := fun y hy hs => by have := H.al.lt hs; omega
    exact ⟨f7.get H2.blk H.bs, H2.own.row'.frame f7 (fun a' ea hs => H.ls _ ⟨a', ea, rfl⟩ hs), f7.get hb1' (nS b1 (by omega)), f7.get hb2 (nS b2 (by omega))⟩
  have fin : ∀ h7, Alarm.Al h7 a S (dropK L (x.num : Int)) → Fr S h2 h7 → ∀ p9 c9 h9, Fr (fun _ => False) h7 h9 → Own h9 p9 (xs.take i ++ xs.drop (i + 1)).length c9 4 ((xs.take i ++ xs.drop (i + 1)).flatMap ienc) → (∀ y, inBlk p9 y → h7.size ≤ y) →
      StoreP h9 ⟨b, 0, none⟩ (.slice p9 (xs.take i ++ xs.drop (i + 1)).length c9) fun h_10 =>
        ∃ (t38_0 : Int), hcell h_10 ⟨b2, 0, none⟩ = some (.int .i64 t38_0) ∧ ∃ (t38_1 : Int), hcell h_10 ⟨b2, 1, none⟩ = some (.int .i64 t38_1) ∧ ∃ (t38_2_p : Option Addr) (t38_2_l t38_2_c : Nat), hcell h_10 ⟨b2, 2, none⟩ = some (.slice t38_2_p t38_2_l t38_2_c) ∧ ∃ (t38_3 : Int), hcell h_10 ⟨b2, 3, none⟩ = some (.int .u64 t38_3) ∧
        StoreP h_10 ⟨b1, 0, none⟩ (.int .i64 t38_0) fun h_11 =>
        StoreP h_11 ⟨b1, 1, none⟩ (.int .i64 t38_1) fun h_12 =>
        StoreP h_12 ⟨b1, 2, none⟩ (.slice t38_2_p t38_2_l t38_2_c) fun h_13 =>
        StoreP h_13 ⟨b1, 3, none⟩ (.int .u64 t38_3) fun h_14 =>
        ∃ (r_0 : Int), hcell h_14 ⟨b1, 0, none⟩ = some (.int .i64 r_0) ∧ ∃ (r_1 : Int), hcell h_14 ⟨b1, 1, none⟩ = some (.int .i64 r_1) ∧ ∃ (r_2_p : Option Addr) (r_2_l r_2_c : Nat), hcell h_14 ⟨b1, 2, none⟩ = some (.slice r_2_p r_2_l r_2_c) ∧ ∃ (r_3 : Int), hcell h_14 ⟨b1, 3, none⟩ = some (.int .u64 r_3) ∧
        R (.agg #[.int .i64 r_0, .int .i64 r_1, .slice r_2_p r_2_l r_2_c, .int .u64 r_3]) h_14 := by
    intro h7 A7 f7 p9 c9 h9 f9 o9 g9
    obtain ⟨k1, _, k3, k4⟩ := rest h7 A7 f7
    have lb := lt_of_get H.blk
    have z7 := f7.1
    have z9 := f9.1
    refine storeP_blk (f9.get k1 id) (by simp) fun h10 a1 a2 a3 => ?_
    have i2 : outbox_Item.at h10 b2 (x.num : Int) x.owner x.v.p x.v.b.length x.v.c (x.till : Int) := (a3 b2 (by omega)).trans (f9.get k4 id)
    refine outbox_Item.ld i2 ?_
    have i1 : outbox_Item.at h10 b1 0 0 none 0 0 0 := (a3 b1 (by omega)).trans (f9.get k3 id)
    refine outbox_Item.set i1 fun h14 d1 d2 d3 => outbox_Item.ld d1 ?_
    have f10 : Fr (fun y => y = b) h9 h10 := Fr.of_eq a2 a3
    have f14 : Fr (fun y => y = b1) h10 h14 := Fr.of_eq d2 d3
    have F2 : Fr (fun _ => False) h h2 := f1.tt f2
    have F7 : Fr S h h7 := Fr.no F2 f7
    have F9 : Fr S h h9 := F7.tt (f9.mono (fun _ _ hx => hx.elim))
    have F10 : Fr (fun y => S y ∨ y = b) h h10 := (F9.mono (fun _ _ hx => .inl hx)).tt (f10.mono (fun _ _ hx => .inr hx))
    have F14 : Fr X.M h h14 := by
      refine ⟨Nat.le_trans F10.1 f14.1, fun y hy hn => ?_⟩
      rw [f14.2 y (Nat.lt_of_lt_of_le hy F10.1) (fun e => by omega), F10.2 y hy (fun hx => hn ((H.m y).2 (hx.elim (fun h => .inr (.inr h)) .inl)))]
    have lpS : ∀ y, inBlk p9 y → ¬ S y := fun y hy hs => by have := g9 y hy; have := H.al.lt hs; omega
    have lpb : ∀ y, inBlk p9 y → y ≠ b := fun y hy e => by have := g9 y hy; omega
    have lpb1 : ∀ y, inBlk p9 y → y ≠ b1 := fun y hy e => by have := g9 y hy; omega
    have D14 : ∀ v : IV, v ∈ xs → v.v.ok h14 X.D := fun v hv => (H.dat v hv).frame F14 (fun y hd hm => H.dis y hm hd)
    refine hk h14 ⟨fun y => y = b ∨ inBlk p9 y ∨ S y, X.D⟩ ⟨p9, c9, xs.take i ++ xs.drop (i + 1), a, S, ⟨?_, (o9.frame f10 lpb).frame f14 lpb1, ?_, ?_, ?_, fun _ => Iff.rfl, fun hx => lpb b hx rfl, H.bs, lpS, ?_, fun y hy => Nat.lt_of_lt_of_le (H.dlt y hy) F14.1⟩⟩ ⟨F14, ?_, fun _ => .inl, fun _ => id⟩ (D14 x (List.mem_of_getElem? hx))
    · rw [d3 b (by omega), a1]; simp
    · have A9 := A7.frame f9 (fun _ _ => id)
      exact (A9.frame f10 (fun y hy e => H.bs (e ▸ hy))).frame f14 (fun y hy e => by have := H.al.lt hy; omega)
    · show _ = cutI s.items i
      unfold cutI
      rw [← H.abs, List.map_append, List.map_take, List.map_drop]
    · intro v hv
      refine D14 v ?_
      rcases List.mem_append.1 hv with hv | hv
      · exact List.mem_of_mem_take hv
      · exact List.mem_of_mem_drop hv
    · rintro y (rfl | hy | hy) hd
      · exact H.dis _ ((H.m _).2 (.inl rfl)) hd
      · have := g9 y hy; have := H.dlt y hd; omega
      · exact H.dis _ ((H.m _).2 (.inr (.inr hy))) hd
    · rintro y (rfl | hy | hy)
      · exact .inl ((H.m _).2 (.inl rfl))
      · right; have := g9 y hy; omega
      · exact .inl ((H.m _).2 (.inr (.inr hy)))
  have ew : IntKind.wrap .i64 ((i : Int) + 1) = ((i + 1 : Nat) : Int) := by rw [wrap_id (by omega) (by omega)]; omega
  have cap := H.own.le
  rw [ew]
  simp only [Int.toNat_natCast, Nat.sub_zero]
  refine Alarm.drop_ok H2.al (by omega) _ (fun hm h7 A7 f7 => ⟨_, rfl, ?_⟩) (fun hm => ⟨_, rfl, ?_⟩)
  · obtain ⟨k1, k2, k3, k4⟩ := rest h7 A7 f7
    refine ⟨_, _, _, cell_at k1 rfl, ⟨by omega, by omega⟩, _, _, _, cell_at k1 rfl, ⟨by omega, by omega⟩, newP_of ?_⟩
    have f8 : Fr (fun _ => False) h7 (h7.push (.cells #[.slice (slBase (some ⟨ab, aoff, none⟩) lc 0 4) i lc, .slice (slBase (some ⟨ab, aoff, none⟩) lc (i + 1) 4) (xs.length - (i + 1)) (lc - (i + 1))] T.s_outbox_Item)) := Fr.push _ _
    have k8 := f8.get k1 id
    refine ⟨cell_at k8 rfl, cell_at k8 rfl, ?_⟩
    have r8 := k2.frame f8 (fun _ _ => id)
    have ra := Own.row_sub (l := 0) (u := i) (cap := lc) r8 (by omega) (by omega)
    have rb := Own.row_sub (l := i + 1) (u := xs.length) (cap := lc) r8 (by omega) (by omega)
    rw [List.drop_zero] at ra
    rw [List.take_length] at rb
    refine concat_ok row_new ra (by rw [List.length_take]; omega) rb (by rw [List.length_drop]) (by rw [List.length_take, List.length_drop]; omega) fun p9 c9 h9 o9 f9 g9 => ⟨_, _, _, rfl, ?_⟩
    have k9 := f9.get k8 id
    exact ⟨cell_at k9 rfl, cell_at k9 rfl, fin h7 A7 f7 p9 c9 h9 (f8.tt f9) o9 (fun y hy => by have := g9 y hy; rw [Array.size_push] at this; omega)⟩
  · have A7 : Alarm.Al h2 a S (dropK L (x.num : Int)) := by
      rw [dropK_not hm]; exact H2.al
    have f7 : Fr S h2 h2 := Fr.refl _ _
    obtain ⟨k1, k2, k3, k4⟩ := rest h2 A7 f7
    refine ⟨_, _, _, cell_at k1 rfl, ⟨by omega, by omega⟩, _, _, _, cell_at k1 rfl, ⟨by omega, by omega⟩, newP_of ?_⟩
    have f8 : Fr (fun _ => False) h2 (h2.push (.cells #[.slice (slBase (some ⟨ab, aoff, none⟩) lc 0 4) i lc, .slice (slBase (some ⟨ab, aoff, none⟩) lc (i + 1) 4) (xs.length - (i + 1)) (lc - (i + 1))] T.s_outbox_Item)) := Fr.push _ _
    have k8 := f8.get k1 id
    refine ⟨cell_at k8 rfl, cell_at k8 rfl, ?_⟩
    have r8 := k2.frame f8 (fun _ _ => id)
    have ra := Own.row_sub (l := 0) (u := i) (cap := lc) r8 (by omega) (by omega)
    have rb := Own.row_sub (l := i + 1) (u := xs.length) (cap := lc) r8 (by omega) (by omega)
    rw [List.drop_zero] at ra
    rw [List.take_length] at rb
    refine concat_ok row_new ra (by rw [List.length_take]; omega) rb (by rw [List.length_drop]) (by rw [List.length_take, List.length_drop]; omega) fun p9 c9 h9 o9 f9 g9 => ⟨_, _, _, rfl, ?_⟩
    have k9 := f9.get k8 id
    exact ⟨cell_at k9 rfl, cell_at k9 rfl, fin h2 A7 f7 p9 c9 h9 (f8.tt f9) o9 (fun y hy => by have := g9 y hy; rw [Array.size_push] at this; omega)⟩
end Obx
end Go.Proofs.Ytlonfpolnmiglaa
